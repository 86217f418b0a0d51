/- Turn, whole, Turned: what each call does. -/
import Derived.Test.YtmamolfbboffhaaF
import Derived.Laws.BitsAllLaws
import Derived.Test.YtmamolfbboffhaaW
import Derived.Test.YtmamolfbboffhaaR
namespace Go.Proofs.Ytmamolfbboffhaa
open Go.RowKit

theorem run_store_float (P : Program) (w : World) (a : Addr) (m : Mode) (k : FloatKind) (b : Nat) : (store a (.float k b) m).run P w = stored P w a (.float k b) m := run_store P w a _ m rfl
theorem run_store_complex (P : Program) (w : World) (a : Addr) (m : Mode) (k : FloatKind) (x y : Nat) : (store a (.complex k x y) m).run P w = stored P w a (.complex k x y) m := run_store P w a _ m rfl
attribute [local go_sem] run_store_float run_store_complex

theorem and3 (k : Int) : bits .and .i64 k 3 = k % 4 := by
  show IntKind.i64.wrap ((BitVec.ofInt 64 k &&& BitVec.ofInt 64 3).toNat : Int) = _
  rw [BitVec.toNat_and, show (BitVec.ofInt 64 3).toNat = 3 by decide, nat_mask2, BitVec.toNat_ofInt, IntKind.wrap_i64]
  omega

/-- the words of a turn -/
def one : Nat := 4607182418800017408
def mone : Nat := 13830554455654793216
def tw (r : Int) : Nat × Nat := if r = 1 then (0, one) else if r = 2 then (mone, 0) else if r = 3 then (0, mone) else (one, 0)
/-- .. and what they stand for -/
def tz (r : Int) : Int × Int := if r = 1 then (0, 1) else if r = 2 then (-1, 0) else if r = 3 then (0, -1) else (1, 0)
theorem val_zero : Val 0 0 0 := by
  obtain ⟨k, hk⟩ := read_rung false 0 0 (by decide) (by decide)
  exact ⟨false, k, hk, fun h => absurd rfl h⟩
theorem val_one : Val 0 one 1 := ⟨false, 52, by decide, fun _ => by decide⟩
theorem val_mone : Val 0 mone (-1) := ⟨true, 52, by decide, fun _ => by decide⟩
theorem tw_val (r : Int) : Val 0 (tw r).1 (tz r).1 ∧ Val 0 (tw r).2 (tz r).2 := by
  unfold tw tz
  split
  · exact ⟨val_zero, val_one⟩
  · split
    · exact ⟨val_mone, val_zero⟩
    · split
      · exact ⟨val_zero, val_mone⟩
      · exact ⟨val_one, val_zero⟩

def Turns (k : Int) (w : World) (e : Ending) (w' : World) : Prop := e = .returned (.complex .f64 (tw (k % 4)).1 (tw (k % 4)).2) ∧ w = w'
set_option maxHeartbeats 1000000 in
theorem turn_any (k : Int) (w : World) : Calls Try.prog 9 #[.int .i64 k] w (Turns k w) := by
  have h := and3 k
  have hr : k % 4 = 0 ∨ k % 4 = 1 ∨ k % 4 = 2 ∨ k % 4 = 3 := by omega
  rcases hr with hr | hr | hr | hr <;> (rw [hr] at h; have HR := Lib.hid hr; clear hr; go_enter Try.func9, Try.ntmps9; go_wp2; go_ret; refine ⟨?_, rfl⟩; rw [HR.out]; rfl)

set_option maxHeartbeats 1000000 in
theorem whole_yes {a b : Nat} {x y : Int} (h1 : Val 0 a x) (h2 : Val 0 b y) (hx : x.natAbs < 2 ^ 53) (hy : y.natAbs < 2 ^ 53) (w : World) : Calls Try.prog 10 #[.complex .f64 a b, .agg #[.int .i64 x, .int .i64 y]] w (fun e w' => e = .returned (.bool true) ∧ Fr No w w') := by
  have e1 : FloatKind.f64.format.order a (floatOfInt .f64 x) = some .eq := (val_order h1 (val_int x hx)).trans (by simp)
  have e2 : FloatKind.f64.format.order b (floatOfInt .f64 y) = some .eq := (val_order h2 (val_int y hy)).trans (by simp)
  go_enter Try.func10, Try.ntmps10
  go_wp2
  go_ret
  exact ⟨rfl, (Fr.refl _ _).alloc _⟩

/- Turned -/
def rot : Nat → Int × Int → Int × Int | 0, p => p | m + 1, p => (-(rot m p).2, (rot m p).1)
theorem rot_le (m : Nat) {p : Int × Int} {b : Nat} (h1 : p.1.natAbs ≤ b) (h2 : p.2.natAbs ≤ b) : (rot m p).1.natAbs ≤ b ∧ (rot m p).2.natAbs ≤ b := by
  induction m with
  | zero => exact ⟨h1, h2⟩
  | succ m ih => simp only [rot]; omega
theorem tmod4 (k : Int) : ((k.tmod 4 + 4).tmod 4) = k % 4 := by
  have h1 : -3 ≤ k.tmod 4 ∧ k.tmod 4 ≤ 3 := by
    have := Int.tmod_lt_of_pos k (show (0 : Int) < 4 by decide)
    have := Int.lt_tmod_of_pos k (show (0 : Int) < 4 by decide)
    omega
  rw [Int.tmod_eq_emod_of_nonneg (by omega)]
  have h2 := Int.tmod_def k 4
  omega
theorem new2 (w : World) (o : Obj) (t : TypeId) (cs : Array Value) : Blk ((w.alloc o).alloc (.cells cs t)) (w.heap.size + 1) t cs := by
  have h := Blk.new (w.alloc o) t cs
  rw [show (w.alloc o).heap.size = w.heap.size + 1 by simp] at h
  exact h
theorem new3 (w : World) (o o' : Obj) (t : TypeId) (cs : Array Value) : Blk (((w.alloc o).alloc o').alloc (.cells cs t)) (w.heap.size + 1 + 1) t cs := by
  have h := Blk.new ((w.alloc o).alloc o') t cs
  rw [show ((w.alloc o).alloc o').heap.size = w.heap.size + 1 + 1 by simp] at h
  exact h
def Rotated (k : Int) (p : Int × Int) (w : World) (e : Ending) (w' : World) : Prop := e = .returned (.agg #[.int .i64 (rot (k % 4).toNat p).1, .int .i64 (rot (k % 4).toNat p).2]) ∧ Fr No w w'
set_option maxHeartbeats 2000000 in
theorem turned_any (x y k : Int) (w : World) (hx : x.natAbs ≤ 2 ^ 60) (hy : y.natAbs ≤ 2 ^ 60) (hk1 : -9223372036854775808 ≤ k) (hk2 : k ≤ 9223372036854775807) : Calls Try.prog 11 #[.agg #[.int .i64 x, .int .i64 y], .int .i64 k] w (Rotated k (x, y) w) := by
  obtain ⟨r, hr⟩ : ∃ r : Nat, k % 4 = r := ⟨(k % 4).toNat, by omega⟩
  have hr4 : r < 4 := by omega
  have h1 : -3 ≤ k.tmod 4 ∧ k.tmod 4 ≤ 3 := by
    have := Int.tmod_lt_of_pos k (show (0 : Int) < 4 by decide)
    have := Int.lt_tmod_of_pos k (show (0 : Int) < 4 by decide)
    omega
  have h2 : (k.tmod 4 + 4).tmod 4 = r := (tmod4 k).trans hr
  have HR := Lib.hid hr
  clear hr
  generalize hka : k.tmod 4 = a at h1 h2
  obtain ⟨h1a, h1b⟩ := h1
  go_enter Try.func11, Try.ntmps11
  go_wp2
  go_loopw [6] (fun j wr => ∃ m : Nat, j = .int .i64 m ∧ m ≤ r ∧ Blk wr (w.heap.size + 1 + 1) 27 #[.int .i64 (rot m (x, y)).1, .int .i64 (rot m (x, y)).2] ∧ Blk wr (w.heap.size + 1) 27 #[.int .i64 0, .int .i64 0] ∧ Fr No w wr) (fun j _ => r - (intOf j).toNat)
  case atStart =>
    refine ⟨0, rfl, by omega, new3 _ _ _ _ _, (new2 _ _ _ _).alloc _, (((Fr.refl No w).alloc _).alloc _).alloc _⟩
  case round =>
    obtain ⟨m, rfl, hm, hb2, hb1, hf⟩ := hrel
    obtain ⟨q1, q2⟩ := rot_le m (p := (x, y)) hx hy
    have c0 : wr.cell? ⟨w.heap.size + 1 + 1, 0, none⟩ = some (.int .i64 (rot m (x, y)).1) := hb2.cell 0
    have c1 : wr.cell? ⟨w.heap.size + 1 + 1, 1, none⟩ = some (.int .i64 (rot m (x, y)).2) := hb2.cell 1
    have z0 := hb2.frozen 0
    have z1 := hb2.frozen 1
    have d0 : wr.cell? ⟨w.heap.size + 1, 0, none⟩ = some (.int .i64 0) := hb1.cell 0
    have d1 : wr.cell? ⟨w.heap.size + 1, 1, none⟩ = some (.int .i64 0) := hb1.cell 1
    have y0 := hb1.frozen 0
    have y1 := hb1.frozen 1
    by_cases hlt : m < r
    · go_wp2
      go_roundw
      case rel => exact ⟨m + 1, by go_num, by omega, (hb2.set_ 0 _).set_ 1 _, (hb1.far (p := ⟨w.heap.size + 1 + 1, 0, none⟩) (by simp) _).far (p := ⟨w.heap.size + 1 + 1, 1, none⟩) (by simp) _, (hf.setNew (by omega) 0 _).setNew (by omega) 1 _⟩
      case measure => simp [intOf]; omega
    · go_wp2
      have hmr : m = r := by omega
      have hlt1 := hb1.lt
      refine bodyPost_ret (v := .agg #[.int .i64 (rot m (x, y)).1, .int .i64 (rot m (x, y)).2]) (by simp [results, Try.results11, go_sem, d0, d1, hlt1]) rfl ⟨?_, ?_⟩
      · rw [HR.out, hmr]; rfl
      · exact (hf.setNew (by omega) 0 _).setNew (by omega) 1 _
end Go.Proofs.Ytmamolfbboffhaa
