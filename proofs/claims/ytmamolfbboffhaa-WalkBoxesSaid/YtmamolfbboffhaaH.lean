/- Places as complex numbers, conj, the area. -/
import Derived.Test.YtmamolfbboffhaaE
import Derived.Test.YtmamolfbboffhaaO
namespace Go.Proofs.Ytmamolfbboffhaa
open Go.RowKit
attribute [local go_sem] run_store_float run_store_complex

theorem run_neg_complex (P : Program) (w : World) (k : FloatKind) (a b : Nat) : (Op.unary .neg (.complex k a b)).run P w = .ok (.complex k (Op.negFloat k a) (Op.negFloat k b)) w := by simp [Op.unary]
theorem run_neg_float (P : Program) (w : World) (k : FloatKind) (a : Nat) : (Op.unary .neg (.float k a)).run P w = .ok (.float k (Op.negFloat k a)) w := by simp [Op.unary]
attribute [local go_sem] run_neg_complex run_neg_float

/-- a place, as it lies -/
def plS : Shape (Int × Int) := ⟨fun p => [.int .i64 p.1, .int .i64 p.2], 2, fun _ => rfl, by decide, fun x u hu => by simp at hu; rcases hu with rfl | rfl <;> rfl⟩
theorem Places_at {w : World} {A : Option Addr} {l : List (Int × Int)} (h : SlS plS w A l) {k : Nat} (hk : k < l.length) : ∃ b off, A = some ⟨b, off, none⟩ ∧ b < w.heap.size ∧ w.cell? ⟨b, off + k * 2, none⟩ = some (.int .i64 l[k].1) ∧ w.cell? ⟨b, off + k * 2 + 1, none⟩ = some (.int .i64 l[k].2) := by
  obtain ⟨b, off, h1, h2, hd⟩ := h.at_ hk
  exact ⟨b, off, h1, h2, hd 0 _ rfl, hd 1 _ rfl⟩
theorem Zs_at {w : World} {A : Option Addr} {l : List Zw} (h : SlS zS w A l) {k : Nat} (hk : k < l.length) : ∃ b off, A = some ⟨b, off, none⟩ ∧ b < w.heap.size ∧ w.cell? ⟨b, off + k, none⟩ = some (.complex .f64 l[k].1 l[k].2) := by
  obtain ⟨b, off, h1, h2, hd⟩ := h.at_ hk
  have := hd 0 _ rfl
  simp only [show zS.size = 1 from rfl, Nat.mul_one, Nat.add_zero] at this
  exact ⟨b, off, h1, h2, this⟩

/-- the words of a place on whole numbers -/
def pw (p : Int × Int) : Zw := (floatOfInt .f64 p.1, floatOfInt .f64 p.2)
def Placed (l : List (Int × Int)) (w : World) (e : Ending) (w' : World) : Prop := ∃ v, e = .returned v ∧ OwnS zS 23 w.heap.size w' v (l.map pw) ∧ Fr No w w'
set_option maxHeartbeats 2000000 in
theorem places_any {w : World} {A : Option Addr} (c : Nat) {l : List (Int × Int)} (hA : SlS plS w A l) (hl : l.length ≤ 500) : Calls Try.prog 13 #[.slice A l.length c] w (Placed l w) := by
  go_enter Try.func13, Try.ntmps13
  go_wp2
  go_loopw [3, 8] (fun v i wr => ∃ (k : Nat), i = .int .i64 k ∧ k ≤ l.length ∧ OwnS zS 23 w.heap.size wr v ((l.take k).map pw) ∧ Fr No w wr) (fun _ i _ => l.length - (intOf i).toNat)
  case atStart => exact ⟨0, rfl, by omega, OwnS.nil _ _ _, Fr.refl _ _⟩
  case round =>
    obtain ⟨k, rfl, hk, hown, hf⟩ := hrel
    have hlk : ((l.take k).map pw).length ≤ 500 := by simp; omega
    by_cases hlt : k < l.length
    · obtain ⟨ba, off, rfl, hbb, d0, d1⟩ := Places_at (hA.no hf) hlt
      have htk := Lib.hid (take_snoc hlt)
      clear hA
      have hf1 := (hf.alloc (.cells #[.int .i64 l[k].1, .int .i64 l[k].2] 27)).alloc (.cells #[.complex .f64 (floatOfInt .f64 l[k].1) (floatOfInt .f64 l[k].2)] 23)
      go_wp2_with (at_builtin; go_must (refine wpList_apdAll (S := zS) el32 rfl (.tmp 12) (.tmp 20) rfl w.heap.size u3 ((l.take k).map pw) [pw l[k]] rfl ((hown.alloc _).alloc _) ⟨wr.heap.size + 1, 0, none⟩ 1 1 rfl rfl (fun _ => SlS.blk1 (new2 wr _ 23 #[.complex .f64 (floatOfInt .f64 l[k].1) (floatOfInt .f64 l[k].2)]) rfl) (by simp; omega) (by decide) hf1.size ?_); intro v' w3 hap)
      go_roundw
      case rel => exact ⟨k + 1, by go_num, by omega, hap.1.congr (by rw [← htk.out, List.map_append]; rfl), hap.fr hf1 hown (Nat.le_refl _)⟩
      case measure => simp [intOf]; omega
    · clear hA
      have hkl : l.take k = l := List.take_of_length_le (by omega)
      rw [hkl] at hown
      clear hkl
      go_wp2
      go_ret
      exact ⟨_, rfl, hown, hf⟩

set_option maxHeartbeats 1000000 in
theorem conj_any (a b : Nat) (w : World) : Calls Try.prog 21 #[.complex .f64 a b] w fun e w' => e = .returned (.complex .f64 a (Op.negFloat .f64 b)) ∧ w = w' := by
  go_enter Try.func21, Try.ntmps21
  go_wp2
  go_ret
  exact ⟨rfl, rfl⟩
end Go.Proofs.Ytmamolfbboffhaa
