/- Of and Nth. -/
import Derived.Test.YtlejcbcdjpjjmaaC
namespace Go.Proofs.Ytlejcbcdjpjjmaa
open Go.RowKit

set_option maxHeartbeats 400000 in
theorem of_neg (p : Int) (A : Option Addr) (n c : Nat) (w : World) (h : p < 0) : Calls Try.prog 9 #[.int .i64 p, .slice A n c] w fun e w' => e = .returned (.tuple #[.int .i64 0, .int .i64 1]) ∧ w = w' := by
  go_enter Try.func9, Try.ntmps9
  go_wp2
  go_ret2
  exact ⟨rfl, rfl⟩
set_option maxHeartbeats 400000 in
theorem of_none (p : Int) (A : Option Addr) (c : Nat) (w : World) (h : 0 ≤ p) : Calls Try.prog 9 #[.int .i64 p, .slice A 0 c] w fun e w' => e = .returned (.tuple #[.int .i64 0, .int .i64 6]) ∧ w = w' := by
  go_enter Try.func9, Try.ntmps9
  go_wp2
  go_ret2
  exact ⟨rfl, rfl⟩
set_option maxHeartbeats 400000 in
theorem of_raw (p : Int) (ad : Addr) (n c k : Nat) (x : Int) (w : World) (h : 0 ≤ p) (hp : p ≤ 9223372036854775807) (hk : p % (n : Int) = k) (hkl : k < n) (hn : n ≤ 9223372036854775807) (hc : w.cell? (ad.add k) = some (.int .i64 x)) :
    Calls Try.prog 9 #[.int .i64 p, .slice (some ad) n c] w fun e w' => e = .returned (.tuple #[.int .i64 x, .int .i64 0]) ∧ w = w' := by
  have hn0 : ((n : Int) == 0) = false := by simp; omega
  go_enter Try.func9, Try.ntmps9
  go_wp2
  go_ret2
  exact ⟨rfl, rfl⟩
theorem of_some (p : Int) (A : Option Addr) (c k : Nat) (xs : List Int) (w : World) (hx : Ints w A xs) (h : 0 ≤ p) (hp : p ≤ 9223372036854775807) (hk : p % (xs.length : Int) = k) (hkl : k < xs.length) (hn : xs.length ≤ 9223372036854775807) :
    Calls Try.prog 9 #[.int .i64 p, .slice A xs.length c] w fun e w' => e = .returned (.tuple #[.int .i64 xs[k], .int .i64 0]) ∧ w = w' := by
  obtain ⟨ad, rfl, hc⟩ := hx.at_ hkl
  exact of_raw p ad xs.length c k _ w h hp hk hkl hn hc
end Go.Proofs.Ytlejcbcdjpjjmaa
