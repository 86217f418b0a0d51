/- Are places large. -/
import Derived.Test.YtmamolfbboffhaaJ
namespace Go.Proofs.Ytmamolfbboffhaa
open Go.RowKit

def Largely (l : List (Int × Int)) (w : World) (e : Ending) (w' : World) : Prop := ∃ b, e = .returned (.bool b) ∧ (b = false → Small l ∧ l.length ≤ 500) ∧ Fr No w w'
set_option maxHeartbeats 4000000 in
theorem large_any {w : World} {A : Option Addr} (c : Nat) {l : List (Int × Int)} (hA : SlS plS w A l) (hm : l.length ≤ maxLen) : Calls Try.prog 12 #[.slice A l.length c] w (Largely l w) := by
  unfold maxLen at hm
  by_cases hl : 500 < l.length
  · clear hA
    go_enter Try.func12, Try.ntmps12
    go_wp2
    go_ret
    exact ⟨true, rfl, by simp, Fr.refl _ _⟩
  have hl : l.length ≤ 500 := by omega
  go_enter Try.func12, Try.ntmps12
  go_wp2
  go_loopw [10] (fun i wr => ∃ (k : Nat), i = .int .i64 k ∧ k ≤ l.length ∧ Small (l.take k) ∧ Fr No w wr) (fun i _ => l.length - (intOf i).toNat)
  case atStart => exact ⟨0, rfl, by omega, by intro p hp; simp at hp, Fr.refl _ _⟩
  case round =>
    obtain ⟨k, rfl, hk, hs, hf⟩ := hrel
    by_cases hlt : k < l.length
    · obtain ⟨ba, off, rfl, hbb, d0, d1⟩ := Places_at (hA.no hf) hlt
      have htk := Lib.hid (List.take_succ_eq_append_getElem hlt)
      generalize l[k] = p at *
      have HS := Lib.hid hs
      clear hA hs
      by_cases h1 : p.1 < -10000
      · go_wp2
        go_ret
        exact ⟨true, rfl, by simp, hf.alloc _⟩
      by_cases h2 : 10000 < p.1
      · go_wp2
        go_ret
        exact ⟨true, rfl, by simp, hf.alloc _⟩
      by_cases h3 : p.2 < -10000
      · go_wp2
        go_ret
        exact ⟨true, rfl, by simp, hf.alloc _⟩
      by_cases h4 : 10000 < p.2
      · go_wp2
        go_ret
        exact ⟨true, rfl, by simp, hf.alloc _⟩
      go_wp2
      go_roundw
      case rel =>
        refine ⟨k + 1, by go_num, by omega, ?_, hf.alloc _⟩
        rw [htk.out]
        intro q hq
        rcases List.mem_append.1 hq with h | h
        · exact HS.out q h
        · obtain rfl : q = p := by simpa using h
          omega
      case measure => simp [intOf]; omega
    · clear hA
      rw [List.take_of_length_le (by omega)] at hs
      go_wp2
      go_ret
      exact ⟨false, rfl, fun _ => ⟨hs, hl⟩, hf⟩
end Go.Proofs.Ytmamolfbboffhaa
