/- PickNil: for every n, a nil cursor has no next entry, draws 0 of each n that is right, has nothing left, and its copy is nil; no condition. -/
import Derived.Test.YtlejcbcdjpjjmaaC
import Derived.Test.YtlejcbcdjpjjmaaO
namespace Go.Proofs.Ytlejcbcdjpjjmaa
open Go.RowKit Go.WideShapes Go.ChangeShapes Go.ChangeAt

set_option maxHeartbeats 1000000 in
theorem pickNil_bad (n : Int) (w : World) (h : n < 1 ∨ 64 < n) : Calls Try.prog 6 #[.int .i64 n] w (Truly w) := by
  have H := Lib.hid h
  have h0 : (decide (1 ≤ n) && decide (n ≤ 64)) = false := by simp; omega
  by_cases h1 : 1 ≤ n
  · have h2 : 64 < n := by omega
    have hd1 : decide (1 ≤ n) = true := by simp; omega
    have hd2 : decide (n ≤ 64) = false := by simp; omega
    clear h h0
    go_enter Try.func6, Try.ntmps6
    go_wp2_with (first
      | (go_at_call 14; refine (next_nil _).mono ?_; rintro e w' ⟨rfl, rfl⟩)
      | (go_at_call 12; refine (draw_bad _ _ _ H.out).mono ?_; rintro e w' ⟨rfl, rfl⟩)
      | (go_at_call 16; refine (left_nil _).mono ?_; rintro e w' ⟨rfl, rfl⟩)
      | (go_at_call 17; refine (copy_nil _).mono ?_; rintro e w' ⟨rfl, rfl⟩)
      | (go_at_call 8; refine (draws_any _).mono ?_; rintro e w' ⟨rfl, hf⟩))
    go_ret
    exact ⟨rfl, hf⟩
  · have h2 : n < 1 := by omega
    have hd1 : decide (1 ≤ n) = false := by simp; omega
    clear h h0 h1
    go_enter Try.func6, Try.ntmps6
    go_wp2_with (first
      | (go_at_call 14; refine (next_nil _).mono ?_; rintro e w' ⟨rfl, rfl⟩)
      | (go_at_call 12; refine (draw_bad _ _ _ H.out).mono ?_; rintro e w' ⟨rfl, rfl⟩)
      | (go_at_call 16; refine (left_nil _).mono ?_; rintro e w' ⟨rfl, rfl⟩)
      | (go_at_call 17; refine (copy_nil _).mono ?_; rintro e w' ⟨rfl, rfl⟩)
      | (go_at_call 8; refine (draws_any _).mono ?_; rintro e w' ⟨rfl, hf⟩))
    go_ret
    exact ⟨rfl, hf⟩
set_option maxHeartbeats 1000000 in
theorem pickNil_good (n : Int) (w : World) (h1 : 1 ≤ n) (h2 : n ≤ 64) : Calls Try.prog 6 #[.int .i64 n] w (Truly w) := by
  have hd1 : decide (1 ≤ n) = true := by simp; omega
  have hd2 : decide (n ≤ 64) = true := by simp; omega
  go_enter Try.func6, Try.ntmps6
  go_wp2_with (first
    | (go_at_call 14; refine (next_nil _).mono ?_; rintro e w' ⟨rfl, rfl⟩)
    | (go_at_call 12; refine (draw_nil _ _ h1 h2).mono ?_; rintro e w' ⟨rfl, rfl⟩)
    | (go_at_call 16; refine (left_nil _).mono ?_; rintro e w' ⟨rfl, rfl⟩)
    | (go_at_call 17; refine (copy_nil _).mono ?_; rintro e w' ⟨rfl, rfl⟩)
    | (go_at_call 8; refine (draws_any _).mono ?_; rintro e w' ⟨rfl, hf⟩))
  go_ret
  exact ⟨rfl, hf⟩

set_option maxRecDepth 100000 in
theorem pickNil_lifted (os : Os) (started : os.Started) (H : Type) (enc : TypeId × Value → H) :
    ReturnsInHanded {} Try.checked os 6 .any (Rows.pickNilSpec.pre6 enc Try.prog Try.f6 Rows.pickNilRow.domain false) (Rows.pickNilSpec.post enc Try.prog Try.f6 false true false false) := by
  refine law_of_walk Try.underlying4 started H enc Try.func6 (by kernel_rfl) rfl rfl
    (ChangeSpec.witness6 (enc := enc) (C := Try.checked) false ⟨#[], #[.int .i64 0], []⟩ 8 (by kernel_rfl) (by kernel_rfl) (by kernel_rfl) (by kernel_rfl)) ?_ ?_ ?_
  · intro ds hl
    match ds, hl with
    | [d0], _ => rfl
  · rw [Try.params6]
    simp only [List.mem_cons, List.not_mem_nil, or_false, forall_eq_or_imp, forall_eq]
    exact ⟨by kernel_rfl, of_decide_eq_true (by kernel_rfl)⟩
  · intro W base args ds p hval hA hlt _
    rw [Try.params6] at hA hval
    obtain ⟨v0, vs0, d0, ds0, p0, q0, hargs, rfl, rfl, h0, r0⟩ := trodAll_cons hA
    obtain ⟨rfl, rfl, rfl⟩ := trodAll_nil r0
    obtain rfl : args = #[v0] := by cases args; simp_all
    obtain ⟨a0, rfl, rfl, rfl, w0⟩ := open_int Try.underlying3 (hval 0 3 v0 rfl rfl) h0
    have bd0 := wf_bounds w0
    by_cases h : a0 < 1 ∨ 64 < a0
    · exact pickNil_bad a0 W h
    · exact pickNil_good a0 W (by omega) (by omega)

theorem pickNil_holds : Rows.PickNilSaid :=
  OpenClaim.holds_of_wide 6 Try.f6 rfl rfl rfl rfl rfl rfl rfl ⟨rfl, rfl, rfl, rfl, rfl⟩ rfl rfl rfl rfl rfl (by kernel_rfl) Try.func6 (by kernel_rfl)
    (of_decide_eq_true (by kernel_rfl)) (by unfold Func.isWrapper; first | (rw [if_pos (by decide +kernel)]; kernel_rfl) | (rw [if_neg (by decide +kernel)]; exact ⟨rfl, rfl⟩))
    (fun os started H enc _ => pickNil_lifted os started H enc)
#print axioms pickNil_holds
end Go.Proofs.Ytlejcbcdjpjjmaa
