/- The box around places. -/
import Derived.Test.YtmamolfbboffhaaV
namespace Go.Proofs.Ytmamolfbboffhaa
open Go.RowKit
attribute [local go_sem] run_store_float run_store_complex

def lo2 (x y : Int) : Int := if y < x then y else x
def hi2 (x y : Int) : Int := if x < y then y else x
theorem min_val {a b : Nat} {x y : Int} (h : Val 0 a x) (h' : Val 0 b y) : ∃ r, (∀ (ts : Array TypeId) (t : TypeId) (w : World), (Builtin.min_ ts t #[.float .f64 a, .float .f64 b]).run Try.prog w = .ok (.float .f64 r) w) ∧ Val 0 r (lo2 x y) := by
  have ho : FloatKind.f64.format.order a b = some (compare x y) := val_order h h'
  unfold lo2
  rcases Int.lt_trichotomy x y with hlt | heq | hgt
  · rw [Int.compare_eq_lt.2 hlt] at ho
    exact ⟨a, fun ts t w => by simp [Builtin.min_, Builtin.min2, ho], by rw [if_neg (by omega)]; exact h⟩
  · subst heq
    rw [show compare x x = .eq by simp] at ho
    refine ⟨if (FloatKind.f64.decode a).neg then a else b, fun ts t w => by simp [Builtin.min_, Builtin.min2, ho], ?_⟩
    rw [show (if x < x then x else x) = x by simp]
    split
    · exact h
    · exact h'
  · rw [Int.compare_eq_gt.2 hgt] at ho
    exact ⟨b, fun ts t w => by simp [Builtin.min_, Builtin.min2, ho], by rw [if_pos (by omega)]; exact h'⟩
theorem max_val {a b : Nat} {x y : Int} (h : Val 0 a x) (h' : Val 0 b y) : ∃ r, (∀ (ts : Array TypeId) (t : TypeId) (w : World), (Builtin.max_ ts t #[.float .f64 a, .float .f64 b]).run Try.prog w = .ok (.float .f64 r) w) ∧ Val 0 r (hi2 x y) := by
  have ho : FloatKind.f64.format.order a b = some (compare x y) := val_order h h'
  unfold hi2
  rcases Int.lt_trichotomy x y with hlt | heq | hgt
  · rw [Int.compare_eq_lt.2 hlt] at ho
    exact ⟨b, fun ts t w => by simp [Builtin.max_, Builtin.max2, ho], by rw [if_pos (by omega)]; exact h'⟩
  · subst heq
    rw [show compare x x = .eq by simp] at ho
    refine ⟨if (FloatKind.f64.decode a).neg then b else a, fun ts t w => by simp [Builtin.max_, Builtin.max2, ho], ?_⟩
    rw [show (if x < x then x else x) = x by simp]
    split
    · exact h'
    · exact h
  · rw [Int.compare_eq_gt.2 hgt] at ho
    exact ⟨a, fun ts t w => by simp [Builtin.max_, Builtin.max2, ho], by rw [if_neg (by omega)]; exact h⟩
def low (l : List (Int × Int)) : Nat → Int × Int | 0 => pt l 0 | n + 1 => (lo2 (low l n).1 (pt l n).1, lo2 (low l n).2 (pt l n).2)
def high (l : List (Int × Int)) : Nat → Int × Int | 0 => pt l 0 | n + 1 => (hi2 (high l n).1 (pt l n).1, hi2 (high l n).2 (pt l n).2)
theorem low_small {l : List (Int × Int)} (h : Small l) (n : Nat) : (low l n).1.natAbs ≤ 10000 ∧ (low l n).2.natAbs ≤ 10000 := by
  induction n with
  | zero => exact h.pt 0
  | succ n ih => have := h.pt n; simp only [low, lo2]; split <;> split <;> omega
theorem high_small {l : List (Int × Int)} (h : Small l) (n : Nat) : (high l n).1.natAbs ≤ 10000 ∧ (high l n).2.natAbs ≤ 10000 := by
  induction n with
  | zero => exact h.pt 0
  | succ n ih => have := h.pt n; simp only [high, hi2]; split <;> split <;> omega

def Boxed (l : List (Int × Int)) (w : World) (e : Ending) (w' : World) : Prop :=
  ∃ (a b : Zw) (ok : Bool), e = .returned (.tuple #[.complex .f64 a.1 a.2, .complex .f64 b.1 b.2, .bool ok]) ∧ ok = decide (0 < l.length) ∧ (0 < l.length → Zv a (low l l.length) ∧ Zv b (high l l.length)) ∧ Fr No w w'
attribute [local irreducible] pt low high lo2 hi2
set_option maxHeartbeats 600000 in
theorem box_any {w : World} {A : Option Addr} (c : Nat) {n : Nat} {zs : List Zw} {l : List (Int × Int)} (hzn : zs.length = n) (hA : SlS zS w A zs) (hz : Zvs zs l) (hn : n ≤ 500) : Calls Try.prog 18 #[.slice A n c] w (Boxed l w) := by
  have hzl : n = l.length := hzn.symm.trans hz.1
  have KL := Lib.hid hzl
  have KN := Lib.hid hzn
  have KA := Lib.hid hA
  have KZ := Lib.hid hz
  clear hzl hzn hA hz
  rcases Nat.eq_zero_or_pos n with h0 | h0
  · subst h0
    go_enter Try.func18, Try.ntmps18
    go_wp2
    have h := KL.out
    refine bodyPost_ret (results_tmp3 rfl _ _ _) rfl ⟨(0, 0), (0, 0), false, rfl, by rw [← h]; rfl, fun h' => absurd h' (by omega), Fr.refl _ _⟩
  have h0z : 0 < zs.length := by rw [KN.out]; exact h0
  have hne : ¬ n = 0 := by omega
  obtain ⟨ba, off, rfl, hbb, d0⟩ := Zs_at (KA.out) (k := 0) h0z
  rw [Nat.add_zero] at d0
  have hz0 : Zv zs[0] (pt l 0) := by rw [pt_at (by rw [← KL.out]; exact h0)]; exact KZ.out.2 0 _ _
  have H0 := Lib.hid hz0
  clear hz0
  go_enter Try.func18, Try.ntmps18
  go_wp2
  go_quiet (fail)
  rename_i nq
  go_wp2
  go_loopw [5, 6, 20] (fun v5 v6 i wr => ∃ (k : Nat) (a b : Zw), v5 = .complex .f64 a.1 a.2 ∧ v6 = .complex .f64 b.1 b.2 ∧ i = .int .i64 k ∧ k ≤ n ∧ Zv a (low l k) ∧ Zv b (high l k) ∧ Fr No w wr) (fun _ _ i _ => n - (intOf i).toNat)
  case atStart => exact ⟨0, zs[0], zs[0], rfl, rfl, rfl, by omega, by unfold low; exact H0.out, by unfold high; exact H0.out, (Fr.refl No w).drewN nq⟩
  case round =>
    obtain ⟨k, a, b, rfl, rfl, rfl, hk, ha, hb, hf⟩ := hrel
    by_cases hlt : k < n
    · have hlz : k < zs.length := by rw [KN.out]; exact hlt
      have hll : k < l.length := by rw [← KL.out]; exact hlt
      obtain ⟨_, _, e2, _, d1⟩ := Zs_at (KA.out.no hf) (k := k) hlz
      cases e2
      have hzk := KZ.out.2 k hlz hll
      rw [← pt_at hll] at hzk
      generalize zs[k] = z at *
      obtain ⟨r1, m1, v1⟩ := min_val ha.1 hzk.1
      obtain ⟨r2, m2, v2⟩ := min_val ha.2 hzk.2
      obtain ⟨r3, m3, v3⟩ := max_val hb.1 hzk.1
      obtain ⟨r4, m4, v4⟩ := max_val hb.2 hzk.2
      have V1 : Hid (Zv (r1, r2) (low l (k + 1))) := Lib.hid ⟨by unfold low; exact v1, by unfold low; exact v2⟩
      have V2 : Hid (Zv (r3, r4) (high l (k + 1))) := Lib.hid ⟨by unfold high; exact v3, by unfold high; exact v4⟩
      clear v1 v2 v3 v4 ha hb hzk
      go_wp2
      go_roundw
      case rel => exact ⟨k + 1, (r1, r2), (r3, r4), rfl, rfl, by go_num, by omega, V1.out, V2.out, hf⟩
      case measure => simp [intOf]; omega
    · obtain rfl : k = n := by omega
      have hkl := KL.out
      have V1 := Lib.hid ha
      have V2 := Lib.hid hb
      clear ha hb hkl
      go_wp2
      refine bodyPost_ret (results_tmp3 rfl _ _ _) rfl ⟨a, b, true, rfl, (decide_eq_true (by rw [← KL.out]; exact h0)).symm, fun _ => by rw [← KL.out]; exact ⟨V1.out, V2.out⟩, hf⟩
end Go.Proofs.Ytmamolfbboffhaa
