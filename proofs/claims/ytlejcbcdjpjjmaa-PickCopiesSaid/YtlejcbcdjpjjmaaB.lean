/- The cursor's own functions: what each call does. -/
import Derived.Test.YtlejcbcdjpjjmaaW
namespace Go.Proofs.Ytlejcbcdjpjjmaa
open Go.RowKit

theorem ints22 : IntSl Try.prog 22 3 := ⟨Try.underlying22, by kernel_rfl⟩

/-- is it no entry? (that simp does not look into) -/
def badB (least n : Int) : Bool := decide (n < least ∨ 1000 < n)
theorem badB_yes {least n : Int} (h : n < least ∨ 1000 < n) : badB least n = true := decide_eq_true h
theorem badB_no {least n : Int} (h : ¬ (n < least ∨ 1000 < n)) : badB least n = false := decide_eq_false h

set_option maxHeartbeats 400000 in
theorem bad_any (g : Nat) (least n : Int) (w : World) (hc : w.cell? ⟨g, 0, none⟩ = some (.int .i64 least)) : Calls Try.prog 21 #[.int .i64 n, .pointer (some ⟨g, 0, none⟩)] w fun e w' => e = .returned (.bool (badB least n)) ∧ w = w' := by
  by_cases h1 : n < least
  · have hb := badB_yes (Or.inl h1 : n < least ∨ 1000 < n)
    rw [hb]
    clear hb
    go_enter Try.func21, Try.ntmps21
    go_wp2
    go_ret
    exact ⟨rfl, rfl⟩
  · by_cases h2 : 1000 < n
    · have hb := badB_yes (Or.inr h2 : n < least ∨ 1000 < n)
      rw [hb]
      clear hb
      go_enter Try.func21, Try.ntmps21
      go_wp2
      go_ret
      exact ⟨rfl, rfl⟩
    · have hb := badB_no (by omega : ¬ (n < least ∨ 1000 < n))
      rw [hb]
      clear hb
      go_enter Try.func21, Try.ntmps21
      go_wp2
      go_ret
      exact ⟨rfl, rfl⟩

theorem hmf : ∀ (fn : Fn) (first cap : Array Value) (w : World), (Instr.makeFunc fn first cap).run Try.prog w = .ok (.func fn first cap) w := fun _ _ _ _ => rfl

set_option maxHeartbeats 400000 in
theorem mk_bad (least : Int) (w : World) : Calls Try.prog 20 #[.int .i64 least] w fun e w' => e = .returned (.func (.func 21) #[] #[.pointer (some ⟨w.heap.size, 0, none⟩)]) ∧ w.alloc (.cells #[.int .i64 least] 3) = w' := by
  have h := hmf
  go_enter Try.func20, Try.ntmps20
  go_wp2
  go_ret
  exact ⟨rfl, rfl⟩

/-- where the first one is that is no entry -/
def FirstBad (least : Int) (xs : List Int) (w : World) (e : Ending) (w' : World) : Prop := ∃ r : Int, e = .returned (.int .i64 r) ∧ (0 ≤ r ∧ (∃ x ∈ xs, badB least x = true) ∨ r = -1 ∧ ∀ x ∈ xs, badB least x = false) ∧ w = w'
set_option maxHeartbeats 1000000 in
theorem index_any (g : Nat) (least : Int) (A : Option Addr) (c : Nat) (xs : List Int) (w : World) (hc : w.cell? ⟨g, 0, none⟩ = some (.int .i64 least)) (hx : Ints w A xs) (hl : xs.length ≤ 1000000) :
    Calls Try.prog 25 #[.slice A xs.length c, .func (.func 21) #[] #[.pointer (some ⟨g, 0, none⟩)]] w (FirstBad least xs w) := by
  go_enter Try.func25, Try.ntmps25
  go_wp2
  go_loop [8] (fun i => ∃ k : Nat, i = .int .i64 k ∧ k ≤ xs.length ∧ ∀ x ∈ xs.take k, badB least x = false) (fun i => xs.length - (intOf i).toNat)
  case atStart => exact ⟨0, rfl, by omega, by simp⟩
  case round =>
    obtain ⟨k, rfl, hk, hg⟩ := hrel
    have HG := Lib.hid hg
    clear hg
    by_cases hlt : k < xs.length
    · obtain ⟨ad, rfl, hcx⟩ := hx.at_ hlt
      by_cases hb : badB least xs[k] = true
      · have HB := Lib.hid hb
        clear hb
        go_wp2_with (go_at_call 21; refine (bad_any g least _ _ hc).mono ?_; rintro e w' ⟨rfl, rfl⟩; rw [HB.out])
        go_ret
        exact ⟨_, rfl, .inl ⟨by omega, _, List.getElem_mem hlt, HB.out⟩, rfl⟩
      · have HB := Lib.hid (by simpa using hb : badB least xs[k] = false)
        clear hb
        go_wp2_with (go_at_call 21; refine (bad_any g least _ _ hc).mono ?_; rintro e w' ⟨rfl, rfl⟩; rw [HB.out])
        go_round
        case rel =>
          refine ⟨k + 1, by go_num, by omega, ?_⟩
          rw [List.take_succ_eq_append_getElem hlt]
          intro x hx
          rcases List.mem_append.1 hx with h | h
          · exact HG.out x h
          · rw [List.mem_singleton.1 h]; exact HB.out
        case measure => simp [intOf]; omega
    · go_wp2
      go_ret
      refine ⟨_, rfl, .inr ⟨rfl, ?_⟩, rfl⟩
      have := HG.out
      rw [List.take_of_length_le (by omega)] at this
      exact this

set_option maxHeartbeats 400000 in
theorem contains_yes (g : Nat) (least : Int) (A : Option Addr) (c : Nat) (xs : List Int) (w : World) (hc : w.cell? ⟨g, 0, none⟩ = some (.int .i64 least)) (hx : Ints w A xs) (hl : xs.length ≤ 1000000) (hb : ∃ x ∈ xs, badB least x = true) :
    Calls Try.prog 22 #[.slice A xs.length c, .func (.func 21) #[] #[.pointer (some ⟨g, 0, none⟩)]] w fun e w' => e = .returned (.bool true) ∧ w = w' := by
  have HB := Lib.hid hb
  clear hb
  go_enter Try.func22, Try.ntmps22
  go_wp2_with (go_at_call 25; refine (index_any g least A c xs w hc hx hl).mono ?_; rintro e w' ⟨r, rfl, hr, rfl⟩
               have hr0 : 0 ≤ r := by
                 rcases hr with h | h
                 · exact h.1
                 · obtain ⟨x, h1, h2⟩ := HB.out
                   rw [h.2 x h1] at h2
                   cases h2
               clear hr)
  go_ret
  exact ⟨rfl, rfl⟩
set_option maxHeartbeats 400000 in
theorem contains_no (g : Nat) (least : Int) (A : Option Addr) (c : Nat) (xs : List Int) (w : World) (hc : w.cell? ⟨g, 0, none⟩ = some (.int .i64 least)) (hx : Ints w A xs) (hl : xs.length ≤ 1000000) (hb : ∀ x ∈ xs, badB least x = false) :
    Calls Try.prog 22 #[.slice A xs.length c, .func (.func 21) #[] #[.pointer (some ⟨g, 0, none⟩)]] w fun e w' => e = .returned (.bool false) ∧ w = w' := by
  have HB := Lib.hid hb
  clear hb
  go_enter Try.func22, Try.ntmps22
  go_wp2_with (go_at_call 25; refine (index_any g least A c xs w hc hx hl).mono ?_; rintro e w' ⟨r, rfl, hr, rfl⟩
               have hr0 : r = -1 := by
                 rcases hr with h | h
                 · obtain ⟨x, h1, h2⟩ := h.2
                   rw [HB.out x h1] at h2
                   cases h2
                 · exact h.1
               clear hr
               subst hr0)
  go_ret
  exact ⟨rfl, rfl⟩

/-- a slice whose cells lie in a block of whole numbers -/
def Dat (w : World) (A : Option Addr) (xs : List Int) : Prop := Ints w A xs ∧ ∀ ad, A = some ad → ∃ cs, Blk w ad.block 3 cs
theorem Dat.fr {w w' : World} {A : Option Addr} {xs : List Int} {S : Nat → Prop} (h : Dat w A xs) (hf : Fr S w w') (hs : ∀ ad, A = some ad → ¬ S ad.block) : Dat w' A xs :=
  ⟨h.1.fr hf hs, fun ad e => by obtain ⟨cs, hb⟩ := h.2 ad e; exact ⟨cs, hb.fr hf (hs ad e)⟩⟩
theorem Dat.no {w w' : World} {A : Option Addr} {xs : List Int} (h : Dat w A xs) (hf : Fr No w w') : Dat w' A xs := h.fr hf (fun _ _ h => h)
theorem Dat.only {w w' : World} {A : Option Addr} {xs : List Int} {g : Nat} {t : TypeId} {cs : Array Value} (h : Dat w A xs) (hb : Blk w g t cs) (ht : 3 ≠ t) (hf : Fr (Only g) w w') : Dat w' A xs :=
  h.fr hf fun ad e hg => by
    obtain ⟨cs', hb'⟩ := h.2 ad e
    exact hb'.ne_ hb ht hg
theorem Dat.drop1 {w : World} {ad : Addr} {x : Int} {xs : List Int} (h : Dat w (some ad) (x :: xs)) : Dat w (some (ad.add 1)) xs := by
  obtain ⟨ad', h1, h2, h3⟩ := h.1 (by simp)
  cases h1
  refine ⟨fun _ => ⟨_, rfl, by rw [block_of_add]; exact h2, fun j y hy => by rw [add_of_add, Nat.add_comm]; exact h3 (j + 1) y hy⟩, fun ad' e => ?_⟩
  cases e
  rw [block_of_add]
  exact h.2 ad rfl
theorem Dat.nil (w : World) : Dat w none [] := ⟨Ints.nil _ _, fun ad e => by cases e⟩
theorem Own.dat {B : Nat} {w : World} {v : Value} {xs : List Int} (h : Own 3 B w v xs) : ∃ A c, v = .slice A xs.length c ∧ xs.length ≤ c ∧ c ≤ maxLen ∧ Dat w A xs := by
  obtain ⟨A, c, e, hi, ha⟩ := h.form
  obtain ⟨h1, h2⟩ := h.cap e
  refine ⟨A, c, e, h1, h2, hi, fun ad e2 => ?_⟩
  obtain ⟨hb, _⟩ := ha ad e2
  rcases h.2 with ⟨rfl, _⟩ | ⟨g, cap, cur, rfl, _, hh, _⟩
  · cases hb
  · have : g = ad.block := by injection hb
    rw [← this]
    exact ⟨_, hh⟩

/-- the cursor: a block with two slices -/
def CurIs (w : World) (g : Nat) (P D : List Int) : Prop :=
  ∃ Ap cp Ad cd, Blk w g 56 #[.slice Ap P.length cp, .slice Ad D.length cd] ∧ P.length ≤ cp ∧ cp ≤ maxLen ∧ D.length ≤ cd ∧ cd ≤ maxLen ∧ Dat w Ap P ∧ Dat w Ad D
theorem CurIs.no {w w' : World} {g : Nat} {P D : List Int} (h : CurIs w g P D) (hf : Fr No w w') : CurIs w' g P D := by
  obtain ⟨Ap, cp, Ad, cd, h1, h2, h3, h4, h5, h6, h7⟩ := h
  exact ⟨Ap, cp, Ad, cd, h1.fr hf (fun h => h), h2, h3, h4, h5, h6.no hf, h7.no hf⟩
theorem CurIs.drewN {w : World} {g : Nat} {P D : List Int} (h : CurIs w g P D) (n : Nat) : CurIs (w.drewN n) g P D := h.no ((Fr.refl No w).drewN n)
theorem CurIs.lt {w : World} {g : Nat} {P D : List Int} (h : CurIs w g P D) : g < w.heap.size := by
  obtain ⟨Ap, cp, Ad, cd, h1, _⟩ := h
  exact h1.lt
/-- another cursor is written -/
theorem CurIs.other {w w' : World} {g g' : Nat} {P D P' D' : List Int} (h : CurIs w g P D) (h' : CurIs w g' P' D') (hne : g ≠ g') (hf : Fr (Only g') w w') : CurIs w' g P D := by
  obtain ⟨Ap, cp, Ad, cd, h1, h2, h3, h4, h5, h6, h7⟩ := h
  obtain ⟨_, _, _, _, hb, _⟩ := h'
  exact ⟨Ap, cp, Ad, cd, h1.fr hf hne, h2, h3, h4, h5, h6.only hb (by decide) hf, h7.only hb (by decide) hf⟩

/- take -/
set_option maxHeartbeats 400000 in
theorem take_none (g j : Nat) (A : Option Addr) (c : Nat) (w : World) (h : w.cell? ⟨g, j, none⟩ = some (.slice A 0 c)) : Calls Try.prog 24 #[.pointer (some ⟨g, j, none⟩)] w fun e w' => e = .returned (.tuple #[.int .i64 0, .bool false]) ∧ w = w' := by
  go_enter Try.func24, Try.ntmps24
  go_wp2
  go_ret2
  exact ⟨rfl, rfl⟩
def Took (g j : Nat) (x : Int) (xs : List Int) (w : World) (e : Ending) (w' : World) : Prop := e = .returned (.tuple #[.int .i64 x, .bool true]) ∧ ∃ A' c', w' = w.setCell ⟨g, j, none⟩ (.slice A' xs.length c') ∧ Dat w A' xs ∧ xs.length ≤ c' ∧ c' ≤ maxLen
set_option maxHeartbeats 1000000 in
theorem take_some (g j : Nat) (A : Option Addr) (c : Nat) (x : Int) (xs : List Int) (w : World) (h : w.cell? ⟨g, j, none⟩ = some (.slice A (xs.length + 1) c)) (hz : w.frozen? ⟨g, j, none⟩ = false) (hd : Dat w A (x :: xs)) (hc : xs.length + 1 ≤ c) (hm : c ≤ maxLen) :
    Calls Try.prog 24 #[.pointer (some ⟨g, j, none⟩)] w (Took g j x xs w) := by
  unfold maxLen at hm
  obtain ⟨ad, rfl, _, hx⟩ := hd.1 (by simp)
  have cx : w.cell? ad = some (.int .i64 x) := by simpa [Addr.add] using hx 0 x rfl
  by_cases hc1 : c = 1
  · subst hc1
    obtain rfl : xs = [] := List.eq_nil_of_length_eq_zero (by omega)
    clear hx
    go_enter Try.func24, Try.ntmps24
    go_wp2
    go_ret2
    exact ⟨rfl, some ad, 0, rfl, ⟨Ints.nil _ _, hd.2⟩, Nat.le_refl _, Nat.zero_le _⟩
  · have hd2 := hd.drop1
    clear hx
    go_enter Try.func24, Try.ntmps24
    go_wp2
    go_ret2
    exact ⟨rfl, _, _, rfl, hd2, by omega, by unfold maxLen; omega⟩
end Go.Proofs.Ytlejcbcdjpjjmaa
