/- The count of a word's bits. -/
import Derived.Test.YthikjaoffikigaaP
import Derived.Test.YthikjaoffikigaaW
import Derived.Test.YthikjaoffikigaaG
import Derived.Laws.BitsAllLaws
namespace Go.Proofs.Ythikjaoffikigaa
open Go.RowKit

theorem wrapN {x : Nat} (h : x < 18446744073709551616) : IntKind.u64.wrap (x : Int) = x := by
  have : IntKind.u64.wrap (x : Int) = (x : Int) % 18446744073709551616 := by simp [IntKind.wrap, IntKind.bits, IntKind.signed]
  rw [this]; omega
theorem and_le_right' (a m : Nat) : a &&& m ≤ m := Nat.and_le_right
theorem stepA {x : Nat} (hx : x < 18446744073709551616) (m d : Nat) (hm : 2 * m < 18446744073709551616) : IntKind.u64.wrap (bits .and .u64 ((x : Int) / (d : Int)) (m : Int) + bits .and .u64 (x : Int) (m : Int)) = (((x / d &&& m) + (x &&& m) : Nat) : Int) := by
  have h1 : (x : Int) / (d : Int) = ((x / d : Nat) : Int) := by omega
  have hd : x / d ≤ x := Nat.div_le_self _ _
  rw [h1, u64_and_nat _ _ (by omega) (by omega), u64_and_nat _ _ hx (by omega), ← Int.natCast_add]
  exact wrapN (by have := and_le_right' (x / d) m; have := and_le_right' x m; omega)
theorem and127 (v : Nat) : bits .and .i64 (wrap64 (v : Int)) 127 = ((v % 128 : Nat) : Int) := by
  show IntKind.i64.wrap ((BitVec.ofInt 64 (wrap64 (v : Int)) &&& BitVec.ofInt 64 127).toNat : Int) = _
  rw [BitVec.toNat_and, show (BitVec.ofInt 64 127).toNat = 127 by decide, nat_mask7, BitVec.toNat_ofInt, IntKind.wrap_i64]
  unfold wrap64
  omega
theorem addC {a b : Nat} (h : a + b < 18446744073709551616) : IntKind.u64.wrap ((a : Int) + (b : Int)) = ((a + b : Nat) : Int) := by
  rw [← Int.natCast_add]; exact wrapN h
theorem divC (a d : Nat) : (a : Int) / (d : Int) = ((a / d : Nat) : Int) := by omega
theorem ones_eq (x : Nat) (hx : x < 18446744073709551616) (a1 a2 a3 b1 b2 b3 r : Int)
    (e1 : a1 = IntKind.u64.wrap (bits .and .u64 ((x : Int) / 2) 6148914691236517205 + bits .and .u64 (x : Int) 6148914691236517205))
    (e2 : a2 = IntKind.u64.wrap (bits .and .u64 (a1 / 4) 3689348814741910323 + bits .and .u64 a1 3689348814741910323))
    (e3 : a3 = bits .and .u64 (IntKind.u64.wrap (a2 / 16 + a2)) 1085102592571150095)
    (e4 : b1 = IntKind.u64.wrap (a3 + a3 / 256)) (e5 : b2 = IntKind.u64.wrap (b1 + b1 / 65536)) (e6 : b3 = IntKind.u64.wrap (b2 + b2 / 4294967296)) (e7 : r = bits .and .i64 (wrap64 b3) 127) : r = (cb 64 x : Int) := by
  obtain ⟨z, hz, p1, p2, p3, p4⟩ := pop x hx
  have m1 : rep 85 8 = 6148914691236517205 := by decide
  have m2 : rep 51 8 = 3689348814741910323 := by decide
  have m3 : rep 15 8 = 1085102592571150095 := by decide
  have f1 : a1 = ((s1 6148914691236517205 x : Nat) : Int) := e1.trans (stepA hx 6148914691236517205 2 (by decide))
  have q1 : s1 6148914691236517205 x < 18446744073709551616 := by
    have := and_le_right' (x / 2) 6148914691236517205; have := and_le_right' x 6148914691236517205; unfold s1; omega
  rw [f1] at e2
  have f2 : a2 = ((s2 3689348814741910323 (s1 6148914691236517205 x) : Nat) : Int) := e2.trans (stepA q1 3689348814741910323 4 (by decide))
  have q2 : s2 3689348814741910323 (s1 6148914691236517205 x) ≤ 7378697629483820646 := by
    have := and_le_right' (s1 6148914691236517205 x / 4) 3689348814741910323; have := and_le_right' (s1 6148914691236517205 x) 3689348814741910323; unfold s2; omega
  rw [f2] at e3
  have hy : s3 1085102592571150095 (s2 3689348814741910323 (s1 6148914691236517205 x)) = z := by rw [← hz]; unfold y3 y2; rw [m1, m2, m3]
  generalize s2 3689348814741910323 (s1 6148914691236517205 x) = t2 at *
  have f3 : a3 = (z : Int) := by
    rw [e3, show ((t2 : Int) / 16 : Int) = ((t2 / 16 : Nat) : Int) by omega, addC (by omega)]
    rw [show (1085102592571150095 : Int) = ((1085102592571150095 : Nat) : Int) from rfl, u64_and_nat _ _ (by omega) (by decide), ← hy]
    rfl
  subst f3
  have f4 : b1 = ((z + z / 256 : Nat) : Int) := by rw [e4, show ((z : Int) / 256 : Int) = ((z / 256 : Nat) : Int) by omega, addC p1]
  generalize z + z / 256 = y1 at *
  subst f4
  have f5 : b2 = ((y1 + y1 / 65536 : Nat) : Int) := by rw [e5, show ((y1 : Int) / 65536 : Int) = ((y1 / 65536 : Nat) : Int) by omega, addC p2]
  generalize y1 + y1 / 65536 = y2' at *
  subst f5
  have f6 : b3 = ((y2' + y2' / 4294967296 : Nat) : Int) := by rw [e6, show ((y2' : Int) / 4294967296 : Int) = ((y2' / 4294967296 : Nat) : Int) by omega, addC p3]
  rw [e7, f6, and127, p4]
set_option maxHeartbeats 1000000 in
theorem ones_any (x : Nat) (hx : x < 18446744073709551616) (w : World) : Calls Try.prog 25 #[.int .u64 x] w fun e w' => e = .returned (.int .i64 (cb 64 x)) ∧ w = w' := by
  go_enter Try.func25, Try.ntmps25
  go_wp2
  go_ret
  refine ⟨?_, rfl⟩
  exact congrArg (fun v => Ending.returned (Value.int .i64 v)) (ones_eq x hx _ _ _ _ _ _ _ rfl rfl rfl rfl rfl rfl rfl)
end Go.Proofs.Ythikjaoffikigaa
