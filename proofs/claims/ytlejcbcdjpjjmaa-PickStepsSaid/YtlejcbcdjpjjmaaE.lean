/- The document's cursor: what each call does. -/
import Derived.Test.YtlejcbcdjpjjmaaPickCopies
namespace Go.Proofs.Ytlejcbcdjpjjmaa
open Go.RowKit

/-- a plan, draws, and how many of each were taken -/
def RefIs (w : World) (h : Nat) (A : Option Addr) (c : Nat) (xs : List Int) (B : Option Addr) (d : Nat) (ys : List Int) (p q : Nat) : Prop := Blk w h 41 #[.slice A xs.length c, .slice B ys.length d, .int .i64 p, .int .i64 q]

def RNew (r : Int) (w : World) (e : Ending) (w' : World) : Prop := e = .returned (.tuple #[.pointer none, .int .i64 r]) ∧ w = w'
set_option maxHeartbeats 1000000 in
theorem rnew_long (A B : Option Addr) (n c m d : Nat) (w : World) (h : 200 < n ∨ 64 < m) (hn : n ≤ 9223372036854775807) (hm : m ≤ 9223372036854775807) : Calls Try.prog 11 #[.slice A n c, .slice B m d] w (RNew 2 w) := by
  by_cases h0 : 200 < n
  · clear h
    go_enter Try.func11, Try.ntmps11
    go_wp2
    go_ret2
    exact ⟨rfl, rfl⟩
  · have h' : n ≤ 200 := by omega
    have h'' : 64 < m := by omega
    clear h
    go_enter Try.func11, Try.ntmps11
    go_wp2
    go_ret2
    exact ⟨rfl, rfl⟩

theorem first_bad {least : Int} {xs : List Int} (h : ∃ x ∈ xs, badB least x = true) : ∃ i : Nat, ∃ hi : i < xs.length, badB least xs[i] = true ∧ ∀ j (hj : j < i), badB least (xs[j]'(by omega)) = false := by
  induction xs with
  | nil => obtain ⟨x, hx, _⟩ := h; cases hx
  | cons a xs ih =>
    by_cases ha : badB least a = true
    · exact ⟨0, by simp, ha, fun j hj => by omega⟩
    · obtain ⟨x, hx, hb⟩ := h
      rcases List.mem_cons.1 hx with rfl | hx
      · exact absurd hb ha
      · obtain ⟨i, hi, h1, h2⟩ := ih ⟨x, hx, hb⟩
        refine ⟨i + 1, by simpa using hi, h1, fun j hj => ?_⟩
        cases j with
        | zero => simpa using ha
        | succ j => exact h2 j (by omega)
theorem bad_cases {least x : Int} (h : badB least x = true) : x < least ∨ 1000 < x := by unfold badB at h; simpa using h
theorem good_cases {least x : Int} (h : badB least x = false) : least ≤ x ∧ x ≤ 1000 := by unfold badB at h; simp at h; omega

set_option maxHeartbeats 1000000 in
theorem rnew_badplan (A B : Option Addr) (c m d : Nat) (xs : List Int) (w : World) (hn : xs.length ≤ 200) (hm : m ≤ 64) (hx : Ints w A xs) (hb : ∃ x ∈ xs, badB (-1) x = true) : Calls Try.prog 11 #[.slice A xs.length c, .slice B m d] w (RNew 4 w) := by
  obtain ⟨i, hi, hbi, hgi⟩ := first_bad hb
  have HG := Lib.hid hgi
  have HB := Lib.hid hbi
  clear hb hbi hgi
  go_enter Try.func11, Try.ntmps11
  go_wp2
  go_loop [20] (fun j => ∃ k : Nat, j = .int .i64 k ∧ k ≤ i) (fun j => i + 1 - (intOf j).toNat)
  case atStart => exact ⟨0, rfl, by omega⟩
  case round =>
    obtain ⟨k, rfl, hk⟩ := hrel
    have hlt : k < xs.length := by omega
    obtain ⟨ad, rfl, hc⟩ := hx.at_ hlt
    by_cases he : k = i
    · subst he
      have hbb := bad_cases HB.out
      by_cases h1 : xs[k] < -1
      · clear hbb
        go_wp2
        go_ret2
        exact ⟨rfl, rfl⟩
      · have h1' : -1 ≤ xs[k] := by omega
        have h2 : 1000 < xs[k] := by omega
        clear hbb
        go_wp2
        go_ret2
        exact ⟨rfl, rfl⟩
    · have hki : k < i := by omega
      have hgg := good_cases (HG.out k hki)
      have h1 : -1 ≤ xs[k] := hgg.1
      have h2 : xs[k] ≤ 1000 := hgg.2
      clear hgg he
      go_wp2
      go_round
      case rel => exact ⟨k + 1, by go_num, by omega⟩
      case measure => simp [intOf]; omega

set_option maxHeartbeats 1000000 in
theorem rnew_baddraws (A B : Option Addr) (c d : Nat) (xs ys : List Int) (w : World) (hn : xs.length ≤ 200) (hm : ys.length ≤ 64) (hx : Ints w A xs) (hy : Ints w B ys) (hg : ∀ x ∈ xs, badB (-1) x = false) (hb : ∃ y ∈ ys, badB 0 y = true) : Calls Try.prog 11 #[.slice A xs.length c, .slice B ys.length d] w (RNew 4 w) := by
  obtain ⟨i, hi, hbi, hgi⟩ := first_bad hb
  have HG := Lib.hid hgi
  have HB := Lib.hid hbi
  have HX := Lib.hid hg
  clear hb hbi hgi hg
  go_enter Try.func11, Try.ntmps11
  go_wp2
  go_loop [20] (fun j => ∃ k : Nat, j = .int .i64 k ∧ k ≤ xs.length) (fun j => xs.length - (intOf j).toNat)
  case atStart => exact ⟨0, rfl, by omega⟩
  case round =>
    obtain ⟨k, rfl, hk⟩ := hrel
    by_cases hlt : k < xs.length
    · obtain ⟨ad, rfl, hc⟩ := hx.at_ hlt
      have hgg := good_cases (HX.out _ (List.getElem_mem hlt))
      have h1 : -1 ≤ xs[k] := hgg.1
      have h2 : xs[k] ≤ 1000 := hgg.2
      clear hgg
      go_wp2
      go_round
      case rel => exact ⟨k + 1, by go_num, by omega⟩
      case measure => simp [intOf]; omega
    · go_wp2
      go_loop [33] (fun j => ∃ k : Nat, j = .int .i64 k ∧ k ≤ i) (fun j => i + 1 - (intOf j).toNat)
      case atStart => exact ⟨0, rfl, by omega⟩
      case round =>
        obtain ⟨k2, rfl, hk2⟩ := hrel
        have hlt2 : k2 < ys.length := by omega
        obtain ⟨ad, rfl, hc⟩ := hy.at_ hlt2
        by_cases he : k2 = i
        · subst he
          have hbb := bad_cases HB.out
          by_cases h1 : ys[k2] < 0
          · clear hbb
            go_wp2
            go_ret2
            exact ⟨rfl, rfl⟩
          · have h1' : 0 ≤ ys[k2] := by omega
            have h2 : 1000 < ys[k2] := by omega
            clear hbb
            go_wp2
            go_ret2
            exact ⟨rfl, rfl⟩
        · have hki : k2 < i := by omega
          have hgg := good_cases (HG.out k2 hki)
          have h1 : 0 ≤ ys[k2] := hgg.1
          have h2 : ys[k2] ≤ 1000 := hgg.2
          clear hgg he
          go_wp2
          go_round
          case rel => exact ⟨k2 + 1, by go_num, by omega⟩
          case measure => simp [intOf]; omega

def RMade (A : Option Addr) (c : Nat) (xs : List Int) (B : Option Addr) (d : Nat) (ys : List Int) (w : World) (e : Ending) (w' : World) : Prop := e = .returned (.tuple #[.pointer (some ⟨w.heap.size, 0, none⟩), .int .i64 0]) ∧ RefIs w' w.heap.size A c xs B d ys 0 0 ∧ Fr No w w'
set_option maxHeartbeats 1000000 in
theorem rnew_good (A B : Option Addr) (c d : Nat) (xs ys : List Int) (w : World) (hn : xs.length ≤ 200) (hm : ys.length ≤ 64) (hx : Ints w A xs) (hy : Ints w B ys) (hg : ∀ x ∈ xs, badB (-1) x = false) (hb : ∀ y ∈ ys, badB 0 y = false) : Calls Try.prog 11 #[.slice A xs.length c, .slice B ys.length d] w (RMade A c xs B d ys w) := by
  have HY := Lib.hid hb
  have HX := Lib.hid hg
  clear hb hg
  go_enter Try.func11, Try.ntmps11
  go_wp2
  go_loop [20] (fun j => ∃ k : Nat, j = .int .i64 k ∧ k ≤ xs.length) (fun j => xs.length - (intOf j).toNat)
  case atStart => exact ⟨0, rfl, by omega⟩
  case round =>
    obtain ⟨k, rfl, hk⟩ := hrel
    by_cases hlt : k < xs.length
    · obtain ⟨ad, rfl, hc⟩ := hx.at_ hlt
      have hgg := good_cases (HX.out _ (List.getElem_mem hlt))
      have h1 : -1 ≤ xs[k] := hgg.1
      have h2 : xs[k] ≤ 1000 := hgg.2
      clear hgg
      go_wp2
      go_round
      case rel => exact ⟨k + 1, by go_num, by omega⟩
      case measure => simp [intOf]; omega
    · go_wp2
      go_loop [33] (fun j => ∃ k : Nat, j = .int .i64 k ∧ k ≤ ys.length) (fun j => ys.length - (intOf j).toNat)
      case atStart => exact ⟨0, rfl, by omega⟩
      case round =>
        obtain ⟨k2, rfl, hk2⟩ := hrel
        by_cases hlt2 : k2 < ys.length
        · obtain ⟨ad, rfl, hc⟩ := hy.at_ hlt2
          have hgg := good_cases (HY.out _ (List.getElem_mem hlt2))
          have h1 : 0 ≤ ys[k2] := hgg.1
          have h2 : ys[k2] ≤ 1000 := hgg.2
          clear hgg
          go_wp2
          go_round
          case rel => exact ⟨k2 + 1, by go_num, by omega⟩
          case measure => simp [intOf]; omega
        · go_wp2
          go_ret2
          exact ⟨rfl, Blk.new _ _ _, (Fr.refl _ _).alloc _⟩

/- Next -/
set_option maxHeartbeats 1000000 in
theorem rnext_none {h c d p q : Nat} {A B : Option Addr} {xs ys : List Int} {w : World} (hr : RefIs w h A c xs B d ys p q) (hp : xs.length ≤ p) (hl : p ≤ 1000) : Calls Try.prog 15 #[.pointer (some ⟨h, 0, none⟩)] w fun e w' => e = .returned (.tuple #[.int .i64 0, .bool false]) ∧ ∃ n, w' = w.drewN n := by
  have c0 : w.cell? ⟨h, 0, none⟩ = some (.slice A xs.length c) := hr.cell 0
  have c2 : w.cell? ⟨h, 2, none⟩ = some (.int .i64 p) := hr.cell 2
  go_enter Try.func15, Try.ntmps15
  go_wp2
  go_quiet (fail)
  go_wp2
  go_ret2
  exact ⟨rfl, _, rfl⟩
def RTook (h : Nat) (A : Option Addr) (c : Nat) (xs : List Int) (B : Option Addr) (d : Nat) (ys : List Int) (p q : Nat) (v : Value) (w : World) (e : Ending) (w' : World) : Prop := e = .returned v ∧ RefIs w' h A c xs B d ys p q ∧ Fr (Only h) w w'
set_option maxHeartbeats 1000000 in
theorem rnext_some {h c d p q : Nat} {A B : Option Addr} {xs ys : List Int} {w : World} (hr : RefIs w h A c xs B d ys p q) (hx : Ints w A xs) (hp : p < xs.length) (hl : xs.length ≤ 1000) (hA : ∀ ad, A = some ad → ad.block ≠ h) : Calls Try.prog 15 #[.pointer (some ⟨h, 0, none⟩)] w (RTook h A c xs B d ys (p + 1) q (.tuple #[.int .i64 xs[p], .bool true]) w) := by
  obtain ⟨ad, rfl, hc⟩ := hx.at_ hp
  have hne := hA ad rfl
  have c0 : w.cell? ⟨h, 0, none⟩ = some (.slice (some ad) xs.length c) := hr.cell 0
  have c2 : w.cell? ⟨h, 2, none⟩ = some (.int .i64 p) := hr.cell 2
  have z2 := hr.frozen 2
  have hd : decide (xs.length ≤ p) = false := by simp; omega
  go_enter Try.func15, Try.ntmps15
  go_wp2
  go_quiet (fail)
  rename_i nq
  go_wp2
  have hb2 := (hr.drewN nq).set_ 2 (.int .i64 ((p : Int) + 1))
  have hfr := ((Fr.refl (Only h) w).drewN nq).setOnly 2 (.int .i64 ((p : Int) + 1))
  have f0 : ((w.drewN nq).setCell ⟨h, 2, none⟩ (.int .i64 ((p : Int) + 1))).cell? ⟨h, 0, none⟩ = some (.slice (some ad) xs.length c) := hb2.cell 0
  have f2 : ((w.drewN nq).setCell ⟨h, 2, none⟩ (.int .i64 ((p : Int) + 1))).cell? ⟨h, 2, none⟩ = some (.int .i64 ((p : Int) + 1)) := hb2.cell 2
  have fx : ((w.drewN nq).setCell ⟨h, 2, none⟩ (.int .i64 ((p : Int) + 1))).cell? (ad.add p) = some (.int .i64 xs[p]) := (World.cell?_setCell_other _ _ _ _ (fun e => by have := congrArg Addr.block e; rw [block_of_add] at this; exact hne this.symm)).trans hc
  have HB := Lib.hid hb2
  have HF := Lib.hid hfr
  clear hb2 hfr c0 c2 z2 hc hx
  generalize (w.drewN nq).setCell ⟨h, 2, none⟩ (.int .i64 ((p : Int) + 1)) = wq at *
  have e1 : IntKind.i64.wrap ((p : Int) + 1 - 1) = p := by have := IntWalk.i64_in (p : Int) (by omega); rw [Int.add_sub_cancel]; exact this
  go_quiet (fail)
  go_wp2
  go_ret2
  exact ⟨rfl, HB.out.drewN _, HF.out.drewN _⟩

/- Draw -/
set_option maxHeartbeats 400000 in
theorem rdraw_bad (p : Option Addr) (n : Int) (w : World) (h : n < 1 ∨ 64 < n) : Calls Try.prog 13 #[.pointer p, .int .i64 n] w fun e w' => e = .returned (.tuple #[.int .i64 0, .int .i64 1]) ∧ w = w' := by
  by_cases h0 : n < 1
  · clear h
    go_enter Try.func13, Try.ntmps13
    go_wp2
    go_ret2
    exact ⟨rfl, rfl⟩
  · have h1 : 64 < n := by omega
    have h2 : ¬ n < 1 := h0
    clear h
    go_enter Try.func13, Try.ntmps13
    go_wp2
    go_ret2
    exact ⟨rfl, rfl⟩
def Zero (w : World) (e : Ending) (w' : World) : Prop := e = .returned (.tuple #[.int .i64 0, .int .i64 0]) ∧ ∃ n, w' = w.drewN n
set_option maxHeartbeats 400000 in
theorem rdraw_one (g : Nat) (w : World) : Calls Try.prog 13 #[.pointer (some ⟨g, 0, none⟩), .int .i64 1] w (Zero w) := by
  go_enter Try.func13, Try.ntmps13
  go_wp2
  go_quiet (fail)
  go_wp2
  go_ret2
  exact ⟨rfl, _, rfl⟩
set_option maxHeartbeats 1000000 in
theorem rdraw_none {h c d p q : Nat} {A B : Option Addr} {xs ys : List Int} {w : World} (hr : RefIs w h A c xs B d ys p q) (n : Int) (h1 : 2 ≤ n) (h2 : n ≤ 64) (hq : ys.length ≤ q) (hl : q ≤ 1000) : Calls Try.prog 13 #[.pointer (some ⟨h, 0, none⟩), .int .i64 n] w (Zero w) := by
  have c1 : w.cell? ⟨h, 1, none⟩ = some (.slice B ys.length d) := hr.cell 1
  have c3 : w.cell? ⟨h, 3, none⟩ = some (.int .i64 q) := hr.cell 3
  have hn0 : (n == 1) = false := by simp; omega
  have hd : decide (ys.length ≤ q) = true := by simp; omega
  go_enter Try.func13, Try.ntmps13
  go_wp2
  go_quiet (fail)
  go_wp2
  go_ret2
  exact ⟨rfl, _, rfl⟩
set_option maxHeartbeats 1000000 in
theorem rdraw_some {h c d p q : Nat} {A B : Option Addr} {xs ys : List Int} {w : World} (hr : RefIs w h A c xs B d ys p q) (n : Int) (h1 : 2 ≤ n) (h2 : n ≤ 64) (hx : Ints w B ys) (hp : q < ys.length) (hy : 0 ≤ ys[q]) (hl : ys.length ≤ 1000) (hB : ∀ ad, B = some ad → ad.block ≠ h) : Calls Try.prog 13 #[.pointer (some ⟨h, 0, none⟩), .int .i64 n] w (RTook h A c xs B d ys p (q + 1) (.tuple #[.int .i64 (ys[q] % n), .int .i64 0]) w) := by
  obtain ⟨ad, rfl, hc⟩ := hx.at_ hp
  have hne := hB ad rfl
  have c1 : w.cell? ⟨h, 1, none⟩ = some (.slice (some ad) ys.length d) := hr.cell 1
  have c3 : w.cell? ⟨h, 3, none⟩ = some (.int .i64 q) := hr.cell 3
  have z3 := hr.frozen 3
  have hn0 : (n == 1) = false := by simp; omega
  have hd : decide (ys.length ≤ q) = false := by simp; omega
  go_enter Try.func13, Try.ntmps13
  go_wp2
  go_quiet (fail)
  rename_i nq
  go_wp2
  have hb2 := (hr.drewN nq).set_ 3 (.int .i64 ((q : Int) + 1))
  have hfr := ((Fr.refl (Only h) w).drewN nq).setOnly 3 (.int .i64 ((q : Int) + 1))
  have f0 : ((w.drewN nq).setCell ⟨h, 3, none⟩ (.int .i64 ((q : Int) + 1))).cell? ⟨h, 1, none⟩ = some (.slice (some ad) ys.length d) := hb2.cell 1
  have f2 : ((w.drewN nq).setCell ⟨h, 3, none⟩ (.int .i64 ((q : Int) + 1))).cell? ⟨h, 3, none⟩ = some (.int .i64 ((q : Int) + 1)) := hb2.cell 3
  have fx : ((w.drewN nq).setCell ⟨h, 3, none⟩ (.int .i64 ((q : Int) + 1))).cell? (ad.add q) = some (.int .i64 ys[q]) := (World.cell?_setCell_other _ _ _ _ (fun e => by have := congrArg Addr.block e; rw [block_of_add] at this; exact hne this.symm)).trans hc
  have HB := Lib.hid hb2
  have HF := Lib.hid hfr
  clear hb2 hfr c1 c3 z3 hc hx
  generalize (w.drewN nq).setCell ⟨h, 3, none⟩ (.int .i64 ((q : Int) + 1)) = wq at *
  have e1 : IntKind.i64.wrap ((q : Int) + 1 - 1) = q := by have := IntWalk.i64_in (q : Int) (by omega); rw [Int.add_sub_cancel]; exact this
  generalize hv : ys[q] = yv at *
  have e2 : yv.tmod n = yv % n := Int.tmod_eq_emod_of_nonneg hy
  have E2 := Lib.hid e2
  clear e2
  go_quiet (fail)
  go_wp2
  go_ret2
  subst hv
  exact ⟨by rw [← E2.out]; rfl, HB.out.drewN _, HF.out.drewN _⟩
end Go.Proofs.Ytlejcbcdjpjjmaa
