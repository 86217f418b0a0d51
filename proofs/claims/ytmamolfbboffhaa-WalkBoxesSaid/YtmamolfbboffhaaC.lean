/- The walker: a step, the path, the end. -/
import Derived.Test.YtmamolfbboffhaaB
import Derived.Test.YtmamolfbboffhaaG
namespace Go.Proofs.Ytmamolfbboffhaa
open Go.RowKit
attribute [local go_sem] run_store_float run_store_complex

/-- an event -/
structure Ev where
  k : Int
  g : Int
  c : Int
  s : Int
  v : Int
  m : Int
  b : Bool
  o : Bool
def evCells (e : Ev) : List Value := [.int .i64 e.k, .int .i64 e.g, .int .i64 e.c, .int .i64 e.s, .int .i64 e.v, .int .i64 e.m, .bool e.b, .bool e.o]
def evS : Shape Ev := ⟨evCells, 8, fun _ => rfl, by decide, fun x u hu => by simp [evCells] at hu; rcases hu with rfl | rfl | rfl | rfl | rfl | rfl | rfl | rfl <;> rfl⟩
def evV (e : Ev) : Value := .agg #[.int .i64 e.k, .int .i64 e.g, .int .i64 e.c, .int .i64 e.s, .int .i64 e.v, .int .i64 e.m, .bool e.b, .bool e.o]
/-- a complex number's words -/
abbrev Zw := Nat × Nat
def zV (z : Zw) : Value := .complex .f64 z.1 z.2
def zS : Shape Zw := ⟨fun z => [zV z], 1, fun _ => rfl, by decide, fun x u hu => by simp at hu; subst hu; rfl⟩
/-- the words stand for a place on whole numbers -/
def Zv (z : Zw) (p : Int × Int) : Prop := Val 0 z.1 p.1 ∧ Val 0 z.2 p.2

/-- who goes: the place, the direction -/
abbrev Wk := (Int × Int) × (Int × Int)
def mulZ (p q : Int × Int) : Int × Int := (p.1 * q.1 - p.2 * q.2, p.1 * q.2 + p.2 * q.1)
def stepZ (s : Wk) (e : Ev) : Wk :=
  if e.k = 13 ∨ e.g < 0 ∨ 511 < e.g then s
  else
    let d := mulZ s.2 (tz (e.k % 4))
    ((s.1.1 + d.1 * (1 + e.g % 4), s.1.2 + d.2 * (1 + e.g % 4)), d)
/-- a direction has a part that is 1, the other is none -/
def Dir (d : Int × Int) : Prop := d = (1, 0) ∨ d = (0, 1) ∨ d = (-1, 0) ∨ d = (0, -1)
theorem tz_dir (r : Int) : Dir (tz r) := by
  unfold Dir tz
  split
  · simp
  · split
    · simp
    · split <;> simp
theorem mulZ_dir {d e : Int × Int} (h : Dir d) (h' : Dir e) : Dir (mulZ d e) := by
  unfold Dir at *
  rcases h with rfl | rfl | rfl | rfl <;> rcases h' with rfl | rfl | rfl | rfl <;> simp [mulZ]

/-- the product of two complex numbers on whole numbers -/
theorem zv_mul {a b : Zw} {p q : Int × Int} (h : Zv a p) (h' : Zv b q) (m : Nat) (hm : 2 * (m * m) < 2 ^ 53) (h1 : p.1.natAbs ≤ m) (h2 : p.2.natAbs ≤ m) (h3 : q.1.natAbs ≤ m) (h4 : q.2.natAbs ≤ m) :
    ∃ r i, cMulBits a.1 a.2 b.1 b.2 = some (r, i) ∧ Zv (r, i) (mulZ p q) := by
  have key : ∀ x y : Int, x.natAbs ≤ m → y.natAbs ≤ m → (x * y).natAbs ≤ m * m := fun x y hx hy => by rw [Int.natAbs_mul]; exact Nat.mul_le_mul hx hy
  obtain ⟨r1, e1, v1⟩ := val_mul h.1 h'.1 (by have := key _ _ h1 h3; omega)
  obtain ⟨r2, e2, v2⟩ := val_mul h.2 h'.2 (by have := key _ _ h2 h4; omega)
  obtain ⟨r3, e3, v3⟩ := val_mul h.1 h'.2 (by have := key _ _ h1 h4; omega)
  obtain ⟨r4, e4, v4⟩ := val_mul h.2 h'.1 (by have := key _ _ h2 h3; omega)
  obtain ⟨r, e5, v5⟩ := val_sub v1 v2 (by decide) (by have := key _ _ h1 h3; have := key _ _ h2 h4; omega)
  obtain ⟨i, e6, v6⟩ := val_add v3 v4 (by decide) (by have := key _ _ h1 h4; have := key _ _ h2 h3; omega)
  exact ⟨r, i, by simp [cMulBits, e1, e2, e3, e4, e5, e6], v5, v6⟩
theorem zv_add {a b : Zw} {p q : Int × Int} (h : Zv a p) (h' : Zv b q) (h1 : (p.1 + q.1).natAbs < 2 ^ 53) (h2 : (p.2 + q.2).natAbs < 2 ^ 53) :
    ∃ r i, cSumBits .add .f64 a.1 a.2 b.1 b.2 = some (r, i) ∧ Zv (r, i) (p.1 + q.1, p.2 + q.2) := by
  obtain ⟨r, e1, v1⟩ := val_add h.1 h'.1 (by decide) h1
  obtain ⟨i, e2, v2⟩ := val_add h.2 h'.2 (by decide) h2
  exact ⟨r, i, by simp [cSumBits, e1, e2], v1, v2⟩

def Stepped (s : Wk) (w : World) (e : Ending) (w' : World) : Prop := ∃ a b : Zw, e = .returned (.agg #[.complex .f64 a.1 a.2, .complex .f64 b.1 b.2]) ∧ Zv a s.1 ∧ Zv b s.2 ∧ Fr No w w'
set_option maxHeartbeats 2000000 in
theorem step_any {a b : Zw} {s : Wk} (h1 : Zv a s.1) (h2 : Zv b s.2) (hd : Dir s.2) (hb1 : s.1.1.natAbs ≤ 1000000) (hb2 : s.1.2.natAbs ≤ 1000000) (e : Ev) (w : World) : Calls Try.prog 22 #[.agg #[.complex .f64 a.1 a.2, .complex .f64 b.1 b.2], evV e] w (Stepped (stepZ s e) w) := by
  unfold evV
  by_cases hno : e.k = 13 ∨ e.g < 0 ∨ 511 < e.g
  · have hs : stepZ s e = s := by unfold stepZ; rw [if_pos hno]
    rw [hs]
    clear hs
    go_enter Try.func22, Try.ntmps22
    by_cases hk : e.k = 13
    · have hk' : (e.k == 13) = true := by simp [hk]
      clear hno hk
      go_wp2
      refine bodyPost_ret (v := .agg #[zV a, zV b]) (by simp [results, Try.results22, go_sem, zV]) rfl ⟨a, b, rfl, h1, h2, ?_⟩
      exact (((Fr.refl _ _).alloc _).alloc _).alloc _
    · have hk' : (e.k == 13) = false := by simp [hk]
      by_cases hg : e.g < 0
      · clear hno hk
        go_wp2
        refine bodyPost_ret (v := .agg #[zV a, zV b]) (by simp [results, Try.results22, go_sem, zV]) rfl ⟨a, b, rfl, h1, h2, ?_⟩
        exact (((Fr.refl _ _).alloc _).alloc _).alloc _
      · have hg1 : 511 < e.g := by omega
        have hg0 : 0 ≤ e.g := by omega
        clear hno hk hg
        go_wp2
        refine bodyPost_ret (v := .agg #[zV a, zV b]) (by simp [results, Try.results22, go_sem, zV]) rfl ⟨a, b, rfl, h1, h2, ?_⟩
        exact (((Fr.refl _ _).alloc _).alloc _).alloc _
  · have hk' : (e.k == 13) = false := by simp; omega
    have hg0 : 0 ≤ e.g := by omega
    have hg1 : e.g ≤ 511 := by omega
    have HN := Lib.hid hno
    clear hno
    have hdb : s.2.1.natAbs ≤ 1000000 ∧ s.2.2.natAbs ≤ 1000000 := by unfold Dir at hd; rcases hd with h | h | h | h <;> rw [h] <;> decide
    have htb : (tz (e.k % 4)).1.natAbs ≤ 1000000 ∧ (tz (e.k % 4)).2.natAbs ≤ 1000000 := by have := tz_dir (e.k % 4); unfold Dir at this; rcases this with h | h | h | h <;> rw [h] <;> decide
    obtain ⟨r1, i1, em1, hv1⟩ := zv_mul (a := b) (b := tw (e.k % 4)) h2 (tw_val (e.k % 4)) 1000000 (by decide) hdb.1 hdb.2 htb.1 htb.2
    have hm1 := fun w => run_complex_mul (P := Try.prog) w 23 _ _ _ _ _ _ em1
    have hd1 := mulZ_dir hd (tz_dir (e.k % 4))
    have hdb1 : (mulZ s.2 (tz (e.k % 4))).1.natAbs ≤ 1000000 ∧ (mulZ s.2 (tz (e.k % 4))).2.natAbs ≤ 1000000 := by unfold Dir at hd1; rcases hd1 with h | h | h | h <;> rw [h] <;> decide
    have hng : (1 + e.g % 4).natAbs ≤ 1000000 := by omega
    have hvn : Zv (floatOfInt .f64 (1 + e.g % 4), 0) (1 + e.g % 4, 0) := ⟨val_int _ (by omega), val_zero⟩
    obtain ⟨r2, i2, em2, hv2⟩ := zv_mul hv1 hvn 1000000 (by decide) hdb1.1 hdb1.2 hng (by show (0 : Int).natAbs ≤ _; decide)
    have hm2 := fun w => run_complex_mul (P := Try.prog) w 23 _ _ _ _ _ _ em2
    have hx2 : (mulZ (mulZ s.2 (tz (e.k % 4))) (1 + e.g % 4, 0)).1.natAbs ≤ 1000000 ∧ (mulZ (mulZ s.2 (tz (e.k % 4))) (1 + e.g % 4, 0)).2.natAbs ≤ 1000000 := by
      unfold Dir at hd1
      rcases hd1 with h | h | h | h <;> rw [h] <;> simp [mulZ] <;> omega
    obtain ⟨r3, i3, em3, hv3⟩ := zv_add h1 hv2 (by omega) (by omega)
    have hm3 := fun w => run_complex_sum (P := Try.prog) w .add (.inl rfl) 23 .f64 _ _ _ _ _ _ em3
    have hst : stepZ s e = ((s.1.1 + (mulZ (mulZ s.2 (tz (e.k % 4))) (1 + e.g % 4, 0)).1, s.1.2 + (mulZ (mulZ s.2 (tz (e.k % 4))) (1 + e.g % 4, 0)).2), mulZ s.2 (tz (e.k % 4))) := by
      unfold stepZ
      rw [if_neg HN.out]
      simp [mulZ]
    have HS := Lib.hid hst
    clear hst
    go_enter Try.func22, Try.ntmps22
    go_wp2
    go_region_with (go_at_call 9; refine (turn_any _ _).mono ?_; rintro e9 w9 ⟨rfl, rfl⟩)
    all_goals go_wp2
    all_goals
      rw [HS.out]
      refine bodyPost_ret (v := .agg #[zV (r3, i3), zV (r1, i1)]) (by simp [results, Try.results22, go_sem, zV]) rfl ⟨(r3, i3), (r1, i1), rfl, hv3, hv1, ?_⟩
      exact ((((Fr.refl _ _).alloc _).alloc _).alloc _).drew

end Go.Proofs.Ytmamolfbboffhaa
