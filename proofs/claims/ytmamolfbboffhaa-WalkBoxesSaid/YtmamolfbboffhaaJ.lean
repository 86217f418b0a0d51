/- The area of a closed path; twice it on whole numbers; are places large. -/
import Derived.Test.YtmamolfbboffhaaI
namespace Go.Proofs.Ytmamolfbboffhaa
open Go.RowKit
attribute [local go_sem] run_store_float run_store_complex

theorem next_mod {k n : Nat} (hk : k < n) (hn : n ≤ 500) : (IntKind.i64.wrap ((k : Int) + 1)).tmod n = ((k + 1) % n : Nat) := by
  rw [IntKind.wrap_i64, show ((k : Int) + 1 + 9223372036854775808) % 18446744073709551616 - 9223372036854775808 = (k : Int) + 1 by omega, Int.tmod_eq_emod_of_nonneg (by omega)]; push_cast; rfl
theorem next_emod {k n : Nat} : ((k : Int) + 1) % n = ((k + 1) % n : Nat) := by push_cast; rfl
def Areaed (l : List (Int × Int)) (w : World) (e : Ending) (w' : World) : Prop := ∃ r, e = .returned (.float .f64 r) ∧ Val 1 r (dsum l l.length) ∧ Fr No w w'
attribute [local irreducible] dsum pt cr Op.negFloat
set_option maxHeartbeats 4000000 in
theorem area_any {w : World} {A : Option Addr} (c : Nat) {zs : List Zw} {l : List (Int × Int)} (hA : SlS zS w A zs) (hz : Zvs zs l) (hs : Small l) (hl : l.length ≤ 500) : Calls Try.prog 14 #[.slice A zs.length c] w (Areaed l w) := by
  have hzl : zs.length = l.length := hz.1
  go_enter Try.func14, Try.ntmps14
  go_wp2
  go_loopw [3, 8] (fun s i wr => ∃ (k sw : Nat), s = .float .f64 sw ∧ i = .int .i64 k ∧ k ≤ l.length ∧ Val 0 sw (dsum l k) ∧ Fr No w wr) (fun _ i _ => l.length - (intOf i).toNat)
  case atStart => exact ⟨0, 0, rfl, rfl, by omega, by unfold dsum; exact val_zero, Fr.refl _ _⟩
  case round =>
    obtain ⟨k, sw, rfl, rfl, hk, hv, hf⟩ := hrel
    by_cases hlt : k < l.length
    · obtain ⟨j, hj⟩ : ∃ j, (k + 1) % l.length = j := ⟨_, rfl⟩
      have hlt2 : j < l.length := by rw [← hj]; exact Nat.mod_lt _ (by omega)
      obtain ⟨ba, off, rfl, hbb, d0⟩ := Zs_at (hA.no hf) (k := k) (by omega)
      obtain ⟨_, _, e2, _, d1⟩ := Zs_at (hA.no hf) (k := j) (by omega)
      cases e2
      have hz0 := hz.2 k (by omega) hlt
      have hz1 := hz.2 j (by omega) hlt2
      rw [← pt_at hlt] at hz0
      rw [← pt_at hlt2] at hz1
      have hnm := next_mod hlt hl
      have hnm2 := @next_emod k l.length
      rw [hj] at hnm hnm2
      have hnz : ¬ ((l.length : Int) = 0) := by omega
      have hlz : ¬ l.length = 0 := by omega
      have hle : ¬ l = [] := by rintro rfl; simp at hlt
      have hcz : Zv (zs[k].1, Op.negFloat .f64 zs[k].2) ((pt l k).1, -(pt l k).2) := ⟨hz0.1, val_neg hz0.2⟩
      have s0 := hs.pt k
      have s1 := hs.pt j
      obtain ⟨r, i, em, hm⟩ := zv_mul hcz hz1 10000 (by decide) s0.1 (by simpa using s0.2) s1.1 s1.2
      have hrun := fun w => run_complex_mul (P := Try.prog) w 23 _ _ _ _ _ _ em
      have hd := dsum_le hs k
      have hc := cr_le s0.1 s0.2 s1.1 s1.2
      have hcr : (mulZ ((pt l k).1, -(pt l k).2) (pt l j)).2 = cr (pt l k) (pt l j) := by unfold mulZ cr; simp [Int.sub_eq_add_neg, Int.neg_mul]
      have hm2 : Val 0 i (cr (pt l k) (pt l j)) := hcr ▸ hm.2
      obtain ⟨r2, em2, hv2⟩ := val_add hv hm2 (by decide) (by omega)
      have hrun2 := fun w => run_float_arith (P := Try.prog) w .add 34 .f64 _ _ _ em2
      have hv3 : Val 0 r2 (dsum l (k + 1)) := by unfold dsum; rw [hj]; exact hv2
      have hjb : 0 ≤ (j : Int) ∧ (j : Int) < l.length := by omega
      clear hA hcr hm2 hm hcz hj hz0 hz1 hs hz s0 s1 hd hc hv2 em em2
      rw [hzl] at *
      go_wp2
      go_region_with (go_at_call 21; refine (conj_any _ _ _).mono ?_; rintro e9 w9 ⟨rfl, rfl⟩)
      all_goals go_wp2
      all_goals
        go_roundw
        case rel => exact ⟨k + 1, r2, rfl, by go_num, by omega, hv3, hf.drew⟩
        case measure => simp [intOf]; omega
    · obtain rfl : k = l.length := by omega
      have hd := dsum_le hs l.length
      obtain ⟨r, em, hv2⟩ := val_half hv (by omega)
      have hrun := fun w => run_float_arith (P := Try.prog) w .quo 34 .f64 _ _ _ em
      clear hA hz hs
      rw [hzl] at *
      go_wp2
      go_ret
      exact ⟨r, rfl, hv2, hf⟩

set_option maxHeartbeats 4000000 in
theorem double_any {w : World} {A : Option Addr} (c : Nat) {l : List (Int × Int)} (hA : SlS plS w A l) (hs : Small l) (hl : l.length ≤ 500) : Calls Try.prog 20 #[.slice A l.length c] w (fun e w' => e = .returned (.int .i64 (dsum l l.length)) ∧ Fr No w w') := by
  go_enter Try.func20, Try.ntmps20
  go_wp2
  go_loopw [3, 9] (fun s i wr => ∃ (k : Nat), s = .int .i64 (dsum l k) ∧ i = .int .i64 k ∧ k ≤ l.length ∧ Fr No w wr) (fun _ i _ => l.length - (intOf i).toNat)
  case atStart => exact ⟨0, by unfold dsum; rfl, rfl, by omega, Fr.refl _ _⟩
  case round =>
    obtain ⟨k, rfl, rfl, hk, hf⟩ := hrel
    have hd := dsum_le hs k
    by_cases hlt : k < l.length
    · obtain ⟨j, hj⟩ : ∃ j, (k + 1) % l.length = j := ⟨_, rfl⟩
      have hlt2 : j < l.length := by rw [← hj]; exact Nat.mod_lt _ (by omega)
      obtain ⟨ba, off, rfl, hbb, d0, d1⟩ := Places_at (hA.no hf) (k := k) (by omega)
      obtain ⟨_, _, e2, _, d2, d3⟩ := Places_at (hA.no hf) (k := j) (by omega)
      cases e2
      rw [← pt_at hlt] at d0 d1
      rw [← pt_at hlt2] at d2 d3
      have hnm := next_mod hlt hl
      have hnm2 := @next_emod k l.length
      rw [hj] at hnm hnm2
      have hnz : ¬ ((l.length : Int) = 0) := by omega
      have hlz : ¬ l.length = 0 := by omega
      have hle : ¬ l = [] := by rintro rfl; simp at hlt
      obtain ⟨s1, s2⟩ := hs.pt k
      obtain ⟨s3, s4⟩ := hs.pt j
      have hc := cr_le s1 s2 s3 s4
      have hjb : 0 ≤ (j : Int) ∧ (j : Int) < l.length := by omega
      have key : ∀ x y : Int, x.natAbs ≤ 10000 → y.natAbs ≤ 10000 → (x * y).natAbs ≤ 10000 * 10000 := fun x y hx hy => by rw [Int.natAbs_mul]; exact Nat.mul_le_mul hx hy
      have k1 := key _ _ s1 s4
      have k2 := key _ _ s2 s3
      have hsum : dsum l (k + 1) = dsum l k + (pt l k).1 * (pt l j).2 - (pt l k).2 * (pt l j).1 := by
        conv => lhs; unfold dsum cr
        rw [hj]; omega
      clear hA hj hs key
      go_wp2
      go_roundw
      case rel => exact ⟨k + 1, by rw [hsum], by go_num, by omega, (hf.alloc _).alloc _⟩
      case measure => simp [intOf]; omega
    · obtain rfl : k = l.length := by omega
      clear hA hs
      go_wp2
      go_ret
      exact ⟨rfl, hf⟩
end Go.Proofs.Ytmamolfbboffhaa
