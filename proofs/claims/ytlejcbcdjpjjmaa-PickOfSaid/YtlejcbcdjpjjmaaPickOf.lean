/- PickOf: for every pick, list and truths, Of and the document's choose alike, and Nth tells the place of the p'th true one, or that there is none; no condition. -/
import Derived.Test.YtlejcbcdjpjjmaaD
import Derived.Test.YtlejcbcdjpjjmaaO
namespace Go.Proofs.Ytlejcbcdjpjjmaa
open Go.RowKit Go.WideShapes Go.ChangeShapes Go.ChangeAt

def Bools (w : World) (A : Option Addr) (xs : List Bool) : Prop :=
  0 < xs.length → ∃ ad, A = some ad ∧ ad.block < w.heap.size ∧ ∀ j x, xs[j]? = some x → w.cell? (ad.add j) = some (.bool x)
theorem Bools.at_ {w : World} {A : Option Addr} {xs : List Bool} (h : Bools w A xs) {k : Nat} (hk : k < xs.length) : ∃ ad t, A = some ad ∧ xs[k]? = some t ∧ w.cell? (ad.add k) = some (.bool t) := by
  obtain ⟨ad, h1, h2, h3⟩ := h (by omega)
  exact ⟨ad, xs[k], h1, List.getElem?_eq_getElem hk, h3 k _ (List.getElem?_eq_getElem hk)⟩

/-- how many are true ahead of place j -/
def cnt (bs : List Bool) (j : Nat) : Nat := ((bs.take j).filter id).length
theorem cnt_zero (bs : List Bool) : cnt bs 0 = 0 := by simp [cnt]
theorem cnt_le (bs : List Bool) (j : Nat) : cnt bs j ≤ j := by
  unfold cnt
  have := List.length_filter_le id (bs.take j)
  rw [List.length_take] at this
  omega
theorem cnt_succ {bs : List Bool} {j : Nat} {t : Bool} (h : bs[j]? = some t) : cnt bs (j + 1) = cnt bs j + (if t then 1 else 0) := by
  unfold cnt
  have hj : j < bs.length := by
    rcases Nat.lt_or_ge j bs.length with h' | h'
    · exact h'
    · rw [List.getElem?_eq_none h'] at h; cases h
  rw [List.take_succ_eq_append_getElem hj, List.filter_append, List.length_append]
  rw [List.getElem?_eq_getElem hj] at h
  injection h with h
  rw [h]
  cases t <;> simp
theorem cnt_mono (bs : List Bool) {i j : Nat} (h : i ≤ j) : cnt bs i ≤ cnt bs j := by
  unfold cnt
  have : bs.take i = (bs.take j).take i := by rw [List.take_take, Nat.min_eq_left h]
  rw [this]
  exact ((List.take_sublist i (bs.take j)).filter id).length_le
/-- place i is the p'th true one -/
def Hit (bs : List Bool) (p : Int) (i : Nat) : Prop := bs[i]? = some true ∧ (cnt bs i : Int) = p
theorem Hit.uniq {bs : List Bool} {p : Int} {i j : Nat} (h : Hit bs p i) (k : Hit bs p j) : i = j := by
  rcases Nat.lt_trichotomy i j with hlt | he | hgt
  · have h1 := cnt_succ h.1
    have h2 := cnt_mono bs (show i + 1 ≤ j from hlt)
    have := h.2; have := k.2
    simp at h1
    omega
  · exact he
  · have h1 := cnt_succ k.1
    have h2 := cnt_mono bs (show j + 1 ≤ i from hgt)
    have := h.2; have := k.2
    simp at h1
    omega

set_option maxHeartbeats 1000000 in
theorem nth_hit (A : Option Addr) (c i : Nat) (bs : List Bool) (p : Int) (w : World) (hb : Bools w A bs) (hl : bs.length ≤ 9223372036854775807) (h : Hit bs p i) : Calls Try.prog 19 #[.slice A bs.length c, .int .i64 p] w fun e w' => e = .returned (.tuple #[.int .i64 i, .bool true]) ∧ w = w' := by
  have hil : i < bs.length := by
    rcases Nat.lt_or_ge i bs.length with h' | h'
    · exact h'
    · have := h.1; rw [List.getElem?_eq_none h'] at this; cases this
  have H := Lib.hid h
  clear h
  go_enter Try.func19, Try.ntmps19
  go_wp2
  go_loop [6, 11] (fun k j => ∃ m : Nat, j = .int .i64 m ∧ m ≤ i ∧ k = .int .i64 (cnt bs m)) (fun _ j => i + 1 - (intOf j).toNat)
  case atStart => exact ⟨0, rfl, by omega, by rw [cnt_zero]; rfl⟩
  case round =>
    obtain ⟨m, rfl, hm, rfl⟩ := hrel
    have hlt : m < bs.length := by omega
    have hcl := cnt_le bs m
    obtain ⟨ad, t, rfl, hg, hc⟩ := hb.at_ hlt
    by_cases he : m = i
    · subst he
      have ht : t = true := by
        have := H.out.1
        rw [hg] at this
        injection this
      subst ht
      have hp : (p == (cnt bs m : Int)) = true := by have := H.out.2; simp; omega
      clear hg
      go_wp2
      go_ret2
      exact ⟨rfl, rfl⟩
    · have HG := Lib.hid hg
      clear hg
      have hlti : m < i := by omega
      clear he
      cases t with
      | false =>
        have hs := cnt_succ HG.out
        simp at hs
        have HS := Lib.hid hs
        clear hs
        go_wp2
        go_round
        case rel => exact ⟨m + 1, by go_num, by omega, by rw [HS.out]⟩
        case measure => simp [intOf]; omega
      | true =>
        have hs := cnt_succ HG.out
        simp at hs
        have HS := Lib.hid hs
        clear hs
        have hp : (p == (cnt bs m : Int)) = false := by
          simp
          intro e
          have := Hit.uniq H.out (⟨HG.out, e.symm⟩ : Hit bs p m)
          omega
        go_wp2
        go_round
        case rel => exact ⟨m + 1, by go_num, by omega, by rw [HS.out]; go_num⟩
        case measure => simp [intOf]; omega

set_option maxHeartbeats 1000000 in
theorem nth_none (A : Option Addr) (c : Nat) (bs : List Bool) (p : Int) (w : World) (hb : Bools w A bs) (hl : bs.length ≤ 9223372036854775807) (h : ∀ i, ¬ Hit bs p i) : Calls Try.prog 19 #[.slice A bs.length c, .int .i64 p] w fun e w' => e = .returned (.tuple #[.int .i64 0, .bool false]) ∧ w = w' := by
  have H := Lib.hid h
  clear h
  go_enter Try.func19, Try.ntmps19
  go_wp2
  go_loop [6, 11] (fun k j => ∃ m : Nat, j = .int .i64 m ∧ m ≤ bs.length ∧ k = .int .i64 (cnt bs m)) (fun _ j => bs.length - (intOf j).toNat)
  case atStart => exact ⟨0, rfl, by omega, by rw [cnt_zero]; rfl⟩
  case round =>
    obtain ⟨m, rfl, hm, rfl⟩ := hrel
    have hcl := cnt_le bs m
    by_cases hlt : m < bs.length
    · obtain ⟨ad, t, rfl, hg, hc⟩ := hb.at_ hlt
      have HG := Lib.hid hg
      clear hg
      have hs := cnt_succ HG.out
      have HS := Lib.hid hs
      clear hs
      cases t with
      | false =>
        go_wp2
        go_round
        case rel => exact ⟨m + 1, by go_num, by omega, by rw [HS.out]; rfl⟩
        case measure => simp [intOf]; omega
      | true =>
        have hp : (p == (cnt bs m : Int)) = false := by
          simp
          intro e
          exact H.out m ⟨HG.out, e.symm⟩
        go_wp2
        go_round
        case rel => exact ⟨m + 1, by go_num, by omega, by rw [HS.out]; go_num⟩
        case measure => simp [intOf]; omega
    · go_wp2
      go_ret2
      exact ⟨rfl, rfl⟩

/- the document's Of -/
set_option maxHeartbeats 400000 in
theorem rof_neg (p : Int) (A : Option Addr) (n c : Nat) (w : World) (h : p < 0) : Calls Try.prog 18 #[.int .i64 p, .slice A n c] w fun e w' => e = .returned (.tuple #[.int .i64 0, .int .i64 1]) ∧ w = w' := by
  go_enter Try.func18, Try.ntmps18
  go_wp2
  go_ret2
  exact ⟨rfl, rfl⟩
set_option maxHeartbeats 400000 in
theorem rof_none (p : Int) (A : Option Addr) (c : Nat) (w : World) (h : 0 ≤ p) : Calls Try.prog 18 #[.int .i64 p, .slice A 0 c] w fun e w' => e = .returned (.tuple #[.int .i64 0, .int .i64 6]) ∧ w = w' := by
  go_enter Try.func18, Try.ntmps18
  go_wp2
  go_ret2
  exact ⟨rfl, rfl⟩
set_option maxHeartbeats 400000 in
theorem rof_raw (p : Int) (ad : Addr) (n c k : Nat) (x : Int) (w : World) (h : 0 ≤ p) (hp : p ≤ 9223372036854775807) (hk : p % (n : Int) = k) (hkl : k < n) (hn : n ≤ 9223372036854775807) (hc : w.cell? (ad.add k) = some (.int .i64 x)) :
    Calls Try.prog 18 #[.int .i64 p, .slice (some ad) n c] w fun e w' => e = .returned (.tuple #[.int .i64 x, .int .i64 0]) ∧ w = w' := by
  have hn0 : ((n : Int) == 0) = false := by simp; omega
  go_enter Try.func18, Try.ntmps18
  go_wp2
  go_ret2
  exact ⟨rfl, rfl⟩

/-- both choose the same -/
theorem of_both (p : Int) (A : Option Addr) (c : Nat) (xs : List Int) (w : World) (hx : Ints w A xs) (hp : p ≤ 9223372036854775807) (hn : xs.length ≤ 9223372036854775807) :
    ∃ x r : Int, Calls Try.prog 9 #[.int .i64 p, .slice A xs.length c] w (fun e w' => e = .returned (.tuple #[.int .i64 x, .int .i64 r]) ∧ w = w') ∧ Calls Try.prog 18 #[.int .i64 p, .slice A xs.length c] w (fun e w' => e = .returned (.tuple #[.int .i64 x, .int .i64 r]) ∧ w = w') := by
  by_cases h : p < 0
  · exact ⟨0, 1, of_neg p A _ c w h, rof_neg p A _ c w h⟩
  · by_cases h0 : xs.length = 0
    · rw [h0]
      exact ⟨0, 6, of_none p A c w (by omega), rof_none p A c w (by omega)⟩
    · have e1 := Int.emod_nonneg p (show (xs.length : Int) ≠ 0 by omega)
      have e2 := Int.emod_lt_of_pos p (show 0 < (xs.length : Int) by omega)
      have hk : p % (xs.length : Int) = ((p % (xs.length : Int)).toNat : Int) := by omega
      have hkl : (p % (xs.length : Int)).toNat < xs.length := by omega
      obtain ⟨ad, rfl, hc⟩ := hx.at_ hkl
      exact ⟨_, 0, of_raw p ad _ c _ _ w (by omega) hp hk hkl hn hc, rof_raw p ad _ c _ _ w (by omega) hp hk hkl hn hc⟩

set_option maxHeartbeats 2000000 in
theorem pickOf_hit (p x r : Int) (A B : Option Addr) (n c d i : Nat) (bs : List Bool) (w : World)
    (h9 : Calls Try.prog 9 #[.int .i64 p, .slice A n c] w (fun e w' => e = .returned (.tuple #[.int .i64 x, .int .i64 r]) ∧ w = w'))
    (h18 : Calls Try.prog 18 #[.int .i64 p, .slice A n c] w (fun e w' => e = .returned (.tuple #[.int .i64 x, .int .i64 r]) ∧ w = w'))
    (hb : Bools w B bs) (hl : bs.length ≤ 9223372036854775807) (h : Hit bs p i) : Calls Try.prog 7 #[.int .i64 p, .slice A n c, .slice B bs.length d] w (Truly w) := by
  have hil : i < bs.length := by
    rcases Nat.lt_or_ge i bs.length with h' | h'
    · exact h'
    · have := h.1; rw [List.getElem?_eq_none h'] at this; cases this
  have H := Lib.hid h
  have H9 := Lib.hid h9
  have H18 := Lib.hid h18
  clear h h9 h18
  go_enter Try.func7, Try.ntmps7
  go_wp2_with (first
    | (go_at_call 9; refine (Hid.out H9).mono ?_; rintro e w' ⟨rfl, rfl⟩)
    | (go_at_call 18; refine (Hid.out H18).mono ?_; rintro e w' ⟨rfl, rfl⟩)
    | (go_at_call 19; refine (nth_hit B d i bs p _ hb hl H.out).mono ?_; rintro e w' ⟨rfl, rfl⟩))
  go_loop [13, 44] (fun k j => ∃ m : Nat, j = .int .i64 m ∧ m ≤ i ∧ k = .int .i64 (cnt bs m)) (fun _ j => i + 1 - (intOf j).toNat)
  case atStart => exact ⟨0, rfl, by omega, by rw [cnt_zero]; rfl⟩
  case round =>
    obtain ⟨m, rfl, hm, rfl⟩ := hrel
    have hlt : m < bs.length := by omega
    have hcl := cnt_le bs m
    obtain ⟨ad, t, rfl, hg, hc⟩ := hb.at_ hlt
    by_cases he : m = i
    · subst he
      have ht : t = true := by
        have := H.out.1
        rw [hg] at this
        injection this
      subst ht
      have hp : ((cnt bs m : Int) == p) = true := by have := H.out.2; simp; omega
      clear hg
      go_wp2_with (go_at_call 8; refine (draws_any _).mono ?_; rintro e w' ⟨rfl, hf⟩)
      go_ret
      exact ⟨rfl, hf⟩
    · have HG := Lib.hid hg
      clear hg
      have hlti : m < i := by omega
      clear he
      have hs := cnt_succ HG.out
      have HS := Lib.hid hs
      clear hs
      cases t with
      | false =>
        go_wp2
        go_round
        case rel => exact ⟨m + 1, by go_num, by omega, by rw [HS.out]; rfl⟩
        case measure => simp [intOf]; omega
      | true =>
        have hp : ((cnt bs m : Int) == p) = false := by
          simp
          intro e
          have := Hit.uniq H.out (⟨HG.out, e⟩ : Hit bs p m)
          omega
        go_wp2
        go_round
        case rel => exact ⟨m + 1, by go_num, by omega, by rw [HS.out]; go_num⟩
        case measure => simp [intOf]; omega

set_option maxHeartbeats 2000000 in
theorem pickOf_none (p x r : Int) (A B : Option Addr) (n c d : Nat) (bs : List Bool) (w : World)
    (h9 : Calls Try.prog 9 #[.int .i64 p, .slice A n c] w (fun e w' => e = .returned (.tuple #[.int .i64 x, .int .i64 r]) ∧ w = w'))
    (h18 : Calls Try.prog 18 #[.int .i64 p, .slice A n c] w (fun e w' => e = .returned (.tuple #[.int .i64 x, .int .i64 r]) ∧ w = w'))
    (hb : Bools w B bs) (hl : bs.length ≤ 9223372036854775807) (h : ∀ i, ¬ Hit bs p i) : Calls Try.prog 7 #[.int .i64 p, .slice A n c, .slice B bs.length d] w (Truly w) := by
  have H := Lib.hid h
  have H9 := Lib.hid h9
  have H18 := Lib.hid h18
  clear h h9 h18
  go_enter Try.func7, Try.ntmps7
  go_wp2_with (first
    | (go_at_call 9; refine (Hid.out H9).mono ?_; rintro e w' ⟨rfl, rfl⟩)
    | (go_at_call 18; refine (Hid.out H18).mono ?_; rintro e w' ⟨rfl, rfl⟩)
    | (go_at_call 19; refine (nth_none B d bs p _ hb hl H.out).mono ?_; rintro e w' ⟨rfl, rfl⟩))
  go_loop [13, 44] (fun k j => ∃ m : Nat, j = .int .i64 m ∧ m ≤ bs.length ∧ k = .int .i64 (cnt bs m)) (fun _ j => bs.length - (intOf j).toNat)
  case atStart => exact ⟨0, rfl, by omega, by rw [cnt_zero]; rfl⟩
  case round =>
    obtain ⟨m, rfl, hm, rfl⟩ := hrel
    have hcl := cnt_le bs m
    by_cases hlt : m < bs.length
    · obtain ⟨ad, t, rfl, hg, hc⟩ := hb.at_ hlt
      have HG := Lib.hid hg
      clear hg
      have hs := cnt_succ HG.out
      have HS := Lib.hid hs
      clear hs
      cases t with
      | false =>
        go_wp2
        go_round
        case rel => exact ⟨m + 1, by go_num, by omega, by rw [HS.out]; rfl⟩
        case measure => simp [intOf]; omega
      | true =>
        have hp : ((cnt bs m : Int) == p) = false := by
          simp
          intro e
          exact H.out m ⟨HG.out, e⟩
        go_wp2
        go_round
        case rel => exact ⟨m + 1, by go_num, by omega, by rw [HS.out]; go_num⟩
        case measure => simp [intOf]; omega
    · go_wp2_with (go_at_call 8; refine (draws_any _).mono ?_; rintro e w' ⟨rfl, hf⟩)
      go_ret
      exact ⟨rfl, hf⟩

set_option maxRecDepth 100000 in
theorem pickOf_lifted (os : Os) (started : os.Started) (H : Type) (enc : TypeId × Value → H) :
    ReturnsInHanded {} Try.checked os 7 .any (Rows.pickOfSpec.pre6 enc Try.prog Try.f7 Rows.pickOfRow.domain false) (Rows.pickOfSpec.post enc Try.prog Try.f7 false true false false) := by
  refine law_of_walk Try.underlying4 started H enc Try.func7 (by kernel_rfl) rfl rfl
    (ChangeSpec.witness6 (enc := enc) (C := Try.checked) false ⟨#[], #[.int .i64 0, .slice none 0 0, .slice none 0 0], []⟩ 8 (by kernel_rfl) (by kernel_rfl) (by kernel_rfl) (by kernel_rfl)) ?_ ?_ ?_
  · intro ds hl
    match ds, hl with
    | [d0, d1, d2], _ => rfl
  · rw [Try.params7]
    simp only [List.mem_cons, List.not_mem_nil, or_false, forall_eq_or_imp, forall_eq]
    exact ⟨⟨by kernel_rfl, of_decide_eq_true (by kernel_rfl)⟩, ⟨by kernel_rfl, of_decide_eq_true (by kernel_rfl)⟩, ⟨by kernel_rfl, of_decide_eq_true (by kernel_rfl)⟩⟩
  · intro W base args ds p hval hA hlt _
    rw [Try.params7] at hA hval
    obtain ⟨v0, vs0, d0, ds0, p0, q0, hargs, rfl, rfl, h0, r0⟩ := trodAll_cons hA
    obtain ⟨v1, vs1, d1, ds1, p1, q1, rfl, rfl, rfl, h1, r1⟩ := trodAll_cons r0
    obtain ⟨v2, vs2, d2, ds2, p2, q2, rfl, rfl, rfl, h2, r2⟩ := trodAll_cons r1
    obtain ⟨rfl, rfl, rfl⟩ := trodAll_nil r2
    obtain rfl : args = #[v0, v1, v2] := by cases args; simp_all
    obtain ⟨a0, rfl, rfl, rfl, w0⟩ := open_int Try.underlying3 (hval 0 3 v0 rfl rfl) h0
    have bd0 := wf_bounds w0
    obtain ⟨A1, c1, xs1, rfl, hl1, hm1, hw1, hc1⟩ := open_list Try.underlying22 Try.underlying3 (by kernel_rfl) (hval 1 22 v1 rfl rfl) h1
    unfold maxLen at hm1
    obtain ⟨A2, c2, xs2, rfl, hl2, hm2, hc2⟩ := open_bools Try.underlying46 Try.underlying4 (by kernel_rfl) (hval 2 46 v2 rfl rfl) h2
    unfold maxLen at hm2
    have hi : Ints W A1 xs1 := by
      intro h
      obtain ⟨b, off, e, hb, hc⟩ := hc1 h
      exact ⟨_, e, hb, fun j x hx => by rw [add_at]; exact hc j x hx⟩
    have hb : Bools W A2 xs2 := by
      intro h
      obtain ⟨b, off, e, hb, hc⟩ := hc2 h
      exact ⟨_, e, hb, fun j x hx => by rw [add_at]; exact hc j x hx⟩
    obtain ⟨x, r, h9, h18⟩ := of_both a0 A1 c1 xs1 W hi (by omega) (by omega)
    by_cases h : ∃ i, Hit xs2 a0 i
    · obtain ⟨i, h⟩ := h
      exact pickOf_hit a0 x r A1 A2 _ c1 c2 i xs2 W h9 h18 hb (by omega) h
    · exact pickOf_none a0 x r A1 A2 _ c1 c2 xs2 W h9 h18 hb (by omega) (fun i hi => h ⟨i, hi⟩)

theorem pickOf_holds : Rows.PickOfSaid :=
  OpenClaim.holds_of_wide 7 Try.f7 rfl rfl rfl rfl rfl rfl rfl ⟨rfl, rfl, rfl, rfl, rfl⟩ rfl rfl rfl rfl rfl (by kernel_rfl) Try.func7 (by kernel_rfl)
    (of_decide_eq_true (by kernel_rfl)) (by unfold Func.isWrapper; first | (rw [if_pos (by decide +kernel)]; kernel_rfl) | (rw [if_neg (by decide +kernel)]; exact ⟨rfl, rfl⟩))
    (fun os started H enc _ => pickOf_lifted os started H enc)
#print axioms pickOf_holds
end Go.Proofs.Ytlejcbcdjpjjmaa
