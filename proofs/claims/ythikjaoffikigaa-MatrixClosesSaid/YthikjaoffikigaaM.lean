/- Equal lists of whole numbers; the small case that each statement asks. -/
import Derived.Test.YthikjaoffikigaaK
namespace Go.Proofs.Ythikjaoffikigaa
open Go.RowKit

theorem take_eq_step {xs ys : List Int} {k : Nat} (ha : k < xs.length) (hb : k < ys.length) (h : xs.take k = ys.take k) (he : xs[k] = ys[k]) : xs.take (k + 1) = ys.take (k + 1) := by
  rw [List.take_succ_eq_append_getElem ha, List.take_succ_eq_append_getElem hb, h, he]

def Says (b : Bool) (w : World) (e : Ending) (w' : World) : Prop := e = .returned (.bool b) ∧ ∃ n, w' = w.drewN n

set_option maxHeartbeats 1000000 in
theorem ints_any (A B : Option Addr) (c d : Nat) (xs ys : List Int) (w : World) (ha : Ints w A xs) (hb : Ints w B ys) (la : xs.length ≤ 9223372036854775807) (lb : ys.length ≤ 9223372036854775807) :
    Calls Try.prog 17 #[.slice A xs.length c, .slice B ys.length d] w (Says (decide (xs = ys)) w) := by
  go_enter Try.func17, Try.ntmps17
  go_wp2
  go_loopw [8] (fun i wr => ∃ k n : Nat, i = .int .i64 k ∧ wr = w.drewN n ∧ k ≤ xs.length ∧ k ≤ ys.length ∧ xs.take k = ys.take k) (fun i _ => xs.length - (intOf i).toNat)
  case atStart => exact ⟨0, 0, rfl, rfl, by omega, by omega, by simp⟩
  case round =>
    obtain ⟨k, n, rfl, rfl, hk1, hk2, he⟩ := hrel
    have HE := Lib.hid he
    clear he
    by_cases hlt : k < xs.length
    · obtain ⟨ad, rfl, hca⟩ := ha.at_ hlt
      by_cases hlb : k < ys.length
      · obtain ⟨bd, rfl, hcb⟩ := hb.at_ hlb
        have hd : decide (ys.length ≤ k) = false := by simp; omega
        by_cases hx : xs[k] = ys[k]
        · have hx2 : (xs[k] != ys[k]) = false := by simp [hx]
          have HX := Lib.hid hx
          clear hx
          go_wp2
          go_quiet (fail)
          go_wp2
          go_roundw
          case rel => exact ⟨k + 1, _, by go_num, by first | rfl | exact World.drewN_drewN _ _ _, by omega, by omega, take_eq_step hlt hlb HE.out HX.out⟩
          case measure => simp [intOf]; omega
        · have hx2 : (xs[k] != ys[k]) = true := by simp [hx]
          have HX := Lib.hid hx
          clear hx
          go_wp2
          go_quiet (fail)
          go_wp2
          go_ret
          exact ⟨ret_bool (decide_eq_false (fun e => HX.out (by subst e; rfl))).symm, _, World.drewN_drewN _ _ _⟩
      · have hd : decide (ys.length ≤ k) = true := by simp; omega
        go_wp2
        go_quiet (fail)
        go_wp2
        go_ret
        exact ⟨ret_bool (decide_eq_false (fun e => by subst e; omega)).symm, _, World.drewN_drewN _ _ _⟩
    · go_wp2
      go_ret
      exact ⟨ret_bool (by
        have h1 := HE.out
        rw [List.take_of_length_le (by omega)] at h1
        by_cases hl : xs.length = ys.length
        · rw [List.take_of_length_le (by omega)] at h1
          subst h1
          simp
        · rw [decide_eq_false (fun e => hl (by rw [e]))]
          simp; omega), _, rfl⟩

theorem ints_len (A B : Option Addr) (n c m d : Nat) (xs ys : List Int) (w : World) (ha : Ints w A xs) (hb : Ints w B ys) (hn : xs.length = n) (hm : ys.length = m) (la : n ≤ 9223372036854775807) (lb : m ≤ 9223372036854775807) :
    Calls Try.prog 17 #[.slice A n c, .slice B m d] w (Says (decide (xs = ys)) w) := by
  subst hn
  subst hm
  exact ints_any A B c d xs ys w ha hb la lb


def r0 : Nat → Nat → Bool := fun _ _ => false
theorem three_has : hasB 3 (war 3 (setR 3 (setR 3 r0 0 1) 1 2) 3) 0 2 = true := by decide
theorem three_cnt : cnt 3 (war 3 (setR 3 (setR 3 r0 0 1) 1 2) 3) = 3 := by decide
theorem three_sel : sel (fun k => hasB 3 (war 3 (setR 3 (setR 3 r0 0 1) 1 2) 3) 0 k) 3 = [1, 2] := by decide
theorem Fr.inn {a w w' : World} {hi : Nat} (h : Fr No a w) (k : Fr (In a.heap.size hi) w w') : Fr No a w' := h.then_ k fun i hi' hs => by unfold In at hs; omega
def Tells (b : Bool) (w : World) (e : Ending) (w' : World) : Prop := e = .returned (.bool b) ∧ Fr No w w'
theorem ints_12 {w : World} : Ints (w.alloc (.cells #[.int .i64 1, .int .i64 2] 3)) (some ⟨w.heap.size, 0, none⟩) [1, 2] := by
  intro _
  refine ⟨_, rfl, by simp, fun j x hx => ?_⟩
  have hb := Blk.new w 3 #[.int .i64 1, .int .i64 2]
  match j, hx with
  | 0, hx => cases hx; exact hb.cell 0
  | 1, hx => cases hx; exact hb.cell 1
attribute [local irreducible] war setR hasB cnt sel r0
set_option maxHeartbeats 600000 in
theorem three_any (w : World) : Calls Try.prog 8 #[] w (Tells true w) := by
  go_enter Try.func8, Try.ntmps8
  go_wp2_with (first
    | (go_at_call 9; refine (new_ok 3 (by decide) _).mono ?_; rintro e1 w1 ⟨m, rfl, hm1, hf1⟩
       have K1 := Lib.hid (show Mx w1 m 3 r0 w.heap.size w1.heap.size by unfold r0; exact hm1)
       have g1 := Lib.hid hf1
       clear hm1)
    | (go_at_call 10; have g := g1; clear g g1; refine (set_any K1.out 0 1).mono ?_; rintro e2 w2 ⟨rfl, hm2, hf2⟩
       have K2 := Lib.hid hm2
       rw [show setE 3 0 1 = 0 by decide]
       have G2 := Lib.hid (hf1.inn hf2)
       clear hm2 hf2)
    | (go_at_call 10; refine (set_any K2.out 1 2).mono ?_; rintro e3 w3 ⟨rfl, hm3, hf3⟩
       have K3 := Lib.hid hm3
       rw [show setE 3 1 2 = 0 by decide]
       have G3 := Lib.hid (G2.out.inn hf3)
       clear hm3 hf3)
    | (go_at_call 11; refine (close_any K3.out).mono ?_; rintro e4 w4 ⟨rfl, hm4, hf4⟩
       have K4 := Lib.hid hm4
       have G4 := Lib.hid (G3.out.inn hf4)
       clear hm4 hf4)
    | (go_at_call 12; refine (has_any K4.out _ _).mono ?_; rintro e5 w5 ⟨rfl, rfl⟩; rw [three_has])
    | (go_at_call 13; refine (count_any K4.out).mono ?_; rintro e6 w6 ⟨rfl, rfl⟩; rw [three_cnt])
    | (go_at_call 18; refine (row_any K4.out _).mono ?_; rintro e7 w7 ⟨v, rfl, hown, hf7⟩
       rw [three_sel] at hown
       obtain ⟨A, c, rfl, hi, _⟩ := hown.form
       have HI := Lib.hid hi
       clear hown hi)
    | (go_at_call 17; refine (ints_len _ _ _ _ _ _ [1, 2] [1, 2] _ (HI.out.fr ((Fr.refl No w7).alloc (.cells #[.int .i64 1, .int .i64 2] 3)) (fun _ _ h => h)) ints_12 rfl rfl (by decide) (by decide)).mono ?_; rintro e8 w8 ⟨rfl, n, rfl⟩))
  go_ret
  exact ⟨rfl, ((G4.out.trans hf7).alloc _).drewN n⟩
end Go.Proofs.Ythikjaoffikigaa
