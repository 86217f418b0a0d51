/- MatrixNil: in a nil matrix nothing is related, and Set says so, whatever the numbers; no condition. -/
import Derived.Test.YthikjaoffikigaaM
import Derived.Test.YthikjaoffikigaaO
namespace Go.Proofs.Ythikjaoffikigaa
open Go.RowKit Go.WideShapes Go.ChangeShapes Go.ChangeAt

theorem setnil_low (i k : Int) (h : i < 0 ∨ k < 0) (w : World) : Calls Try.prog 10 #[.pointer none, .int .i64 i, .int .i64 k] w fun e w' => e = .returned (.int .i64 1) ∧ w = w' := by
  by_cases h0 : i < 0
  · clear h
    go_enter Try.func10, Try.ntmps10
    go_wp2
    go_ret
    exact ⟨rfl, rfl⟩
  · have h1 : k < 0 := by omega
    clear h
    go_enter Try.func10, Try.ntmps10
    go_wp2
    go_ret
    exact ⟨rfl, rfl⟩
theorem setnil_in (i k : Int) (h0 : ¬ i < 0) (h1 : ¬ k < 0) (w : World) : Calls Try.prog 10 #[.pointer none, .int .i64 i, .int .i64 k] w fun e w' => e = .returned (.int .i64 7) ∧ w = w' := by
  go_enter Try.func10, Try.ntmps10
  go_wp2
  go_ret
  exact ⟨rfl, rfl⟩
theorem closenil (w : World) : Calls Try.prog 11 #[.pointer none] w fun e w' => e = .returned (.tuple #[]) ∧ w = w' := by
  go_enter Try.func11, Try.ntmps11
  go_wp2_with (go_at_call 21; refine (size_nil _).mono ?_; rintro e w1 ⟨rfl, rfl⟩)
  go_loopw [8] (fun i wr => i = .int .i64 0 ∧ wr = w) (fun _ _ => 0)
  case atStart => exact ⟨rfl, rfl⟩
  case round =>
    obtain ⟨rfl, rfl⟩ := hrel
    go_wp2
    go_end0
    exact ⟨rfl, rfl⟩
theorem hasnil (i k : Int) (w : World) : Calls Try.prog 12 #[.pointer none, .int .i64 i, .int .i64 k] w fun e w' => e = .returned (.bool false) ∧ w = w' := by
  go_enter Try.func12, Try.ntmps12
  go_wp2_with (go_at_call 24; refine (in_nil _ _).mono ?_; rintro e w1 ⟨rfl, rfl⟩)
  go_ret
  exact ⟨rfl, rfl⟩
theorem thosenil (f : Value) (w : World) : Calls Try.prog 27 #[.pointer none, f] w fun e w' => e = .returned (.slice none 0 0) ∧ w = w' := by
  go_enter Try.func27, Try.ntmps27
  go_wp2_with (go_at_call 21; refine (size_nil _).mono ?_; rintro e w1 ⟨rfl, rfl⟩)
  go_loopw [5, 9] (fun v i wr => v = .slice none 0 0 ∧ i = .int .i64 0 ∧ wr = w) (fun _ _ _ => 0)
  case atStart => exact ⟨rfl, rfl, rfl⟩
  case round =>
    obtain ⟨rfl, rfl, rfl⟩ := hrel
    go_wp2
    go_ret
    exact ⟨rfl, rfl⟩
theorem rownil (i : Int) (w : World) : Calls Try.prog 18 #[.pointer none, .int .i64 i] w fun e w' => e = .returned (.slice none 0 0) ∧ Fr No w w' := by
  go_enter Try.func18, Try.ntmps18
  go_wp2_with (go_at_call 27; refine (thosenil _ _).mono ?_; rintro e w1 ⟨rfl, rfl⟩)
  go_ret
  exact ⟨rfl, ((Fr.refl No w).alloc _).alloc _⟩
theorem columnnil (i : Int) (w : World) : Calls Try.prog 19 #[.pointer none, .int .i64 i] w fun e w' => e = .returned (.slice none 0 0) ∧ Fr No w w' := by
  go_enter Try.func19, Try.ntmps19
  go_wp2_with (go_at_call 27; refine (thosenil _ _).mono ?_; rintro e w1 ⟨rfl, rfl⟩)
  go_ret
  exact ⟨rfl, ((Fr.refl No w).alloc _).alloc _⟩
theorem loopsnil (w : World) : Calls Try.prog 20 #[.pointer none] w fun e w' => e = .returned (.slice none 0 0) ∧ Fr No w w' := by
  go_enter Try.func20, Try.ntmps20
  go_wp2_with (go_at_call 27; refine (thosenil _ _).mono ?_; rintro e w1 ⟨rfl, rfl⟩)
  go_ret
  exact ⟨rfl, (Fr.refl No w).alloc _⟩
theorem countnil (w : World) : Calls Try.prog 13 #[.pointer none] w fun e w' => e = .returned (.int .i64 0) ∧ w = w' := by
  go_enter Try.func13, Try.ntmps13
  go_wp2_with (go_at_call 21; refine (size_nil _).mono ?_; rintro e w1 ⟨rfl, rfl⟩)
  go_loopw [3, 9] (fun v i wr => v = .int .i64 0 ∧ i = .int .i64 0 ∧ wr = w) (fun _ _ _ => 0)
  case atStart => exact ⟨rfl, rfl, rfl⟩
  case round =>
    obtain ⟨rfl, rfl, rfl⟩ := hrel
    go_wp2
    go_ret
    exact ⟨rfl, rfl⟩
theorem copynil (w : World) : Calls Try.prog 22 #[.pointer none] w fun e w' => e = .returned (.pointer none) ∧ w = w' := by
  go_enter Try.func22, Try.ntmps22
  go_wp2
  go_ret
  exact ⟨rfl, rfl⟩
set_option maxRecDepth 100000 in
set_option maxHeartbeats 600000 in
theorem matrixNil_walk (i k : Int) (w : World) : Calls Try.prog 7 #[.int .i64 i, .int .i64 k] w (Truly w) := by
  by_cases h0 : i < 0
  · have h0' : ¬ 0 ≤ i := by omega
    have H := Lib.hid h0
    clear h0
    go_enter Try.func7, Try.ntmps7
    go_wp2_with (first
      | (go_at_call 10; refine (setnil_low _ _ (.inl H.out) _).mono ?_; rintro e w1 ⟨rfl, rfl⟩)
      | (go_at_call 11; refine (closenil _).mono ?_; rintro e w1 ⟨rfl, rfl⟩)
      | (go_at_call 12; refine (hasnil _ _ _).mono ?_; rintro e w1 ⟨rfl, rfl⟩)
      | (go_at_call 20; refine (loopsnil _).mono ?_; rintro e w1 ⟨rfl, hf1⟩)
      | (go_at_call 18; refine (rownil _ _).mono ?_; rintro e w2 ⟨rfl, hf2⟩)
      | (go_at_call 19; refine (columnnil _ _).mono ?_; rintro e w3 ⟨rfl, hf3⟩)
      | (go_at_call 13; refine (countnil _).mono ?_; rintro e w1 ⟨rfl, rfl⟩)
      | (go_at_call 22; refine (copynil _).mono ?_; rintro e w1 ⟨rfl, rfl⟩)
      | (go_at_call 21; refine (size_nil _).mono ?_; rintro e w1 ⟨rfl, rfl⟩)
      | (go_at_call 8; refine (three_any _).mono ?_; rintro e w8 ⟨rfl, hf8⟩))
    go_ret
    exact ⟨rfl, ((hf1.trans hf2).trans hf3).trans hf8⟩
  by_cases h1 : k < 0
  · have h0' : 0 ≤ i := by omega
    have h1' : ¬ 0 ≤ k := by omega
    have hd : decide (0 ≤ k) = false := decide_eq_false h1'
    have H := Lib.hid h1
    clear h0 h1
    go_enter Try.func7, Try.ntmps7
    go_wp2_with (first
      | (go_at_call 10; refine (setnil_low _ _ (.inr H.out) _).mono ?_; rintro e w1 ⟨rfl, rfl⟩)
      | (go_at_call 11; refine (closenil _).mono ?_; rintro e w1 ⟨rfl, rfl⟩)
      | (go_at_call 12; refine (hasnil _ _ _).mono ?_; rintro e w1 ⟨rfl, rfl⟩)
      | (go_at_call 20; refine (loopsnil _).mono ?_; rintro e w1 ⟨rfl, hf1⟩)
      | (go_at_call 18; refine (rownil _ _).mono ?_; rintro e w2 ⟨rfl, hf2⟩)
      | (go_at_call 19; refine (columnnil _ _).mono ?_; rintro e w3 ⟨rfl, hf3⟩)
      | (go_at_call 13; refine (countnil _).mono ?_; rintro e w1 ⟨rfl, rfl⟩)
      | (go_at_call 22; refine (copynil _).mono ?_; rintro e w1 ⟨rfl, rfl⟩)
      | (go_at_call 21; refine (size_nil _).mono ?_; rintro e w1 ⟨rfl, rfl⟩)
      | (go_at_call 8; refine (three_any _).mono ?_; rintro e w8 ⟨rfl, hf8⟩))
    go_ret
    exact ⟨rfl, ((hf1.trans hf2).trans hf3).trans hf8⟩
  have h0' : 0 ≤ i := by omega
  have h1' : 0 ≤ k := by omega
  have H0 := Lib.hid h0
  have H1 := Lib.hid h1
  clear h0 h1
  go_enter Try.func7, Try.ntmps7
  go_wp2_with (first
    | (go_at_call 10; refine (setnil_in _ _ H0.out H1.out _).mono ?_; rintro e w1 ⟨rfl, rfl⟩)
    | (go_at_call 11; refine (closenil _).mono ?_; rintro e w1 ⟨rfl, rfl⟩)
    | (go_at_call 12; refine (hasnil _ _ _).mono ?_; rintro e w1 ⟨rfl, rfl⟩)
    | (go_at_call 20; refine (loopsnil _).mono ?_; rintro e w1 ⟨rfl, hf1⟩)
    | (go_at_call 18; refine (rownil _ _).mono ?_; rintro e w2 ⟨rfl, hf2⟩)
    | (go_at_call 19; refine (columnnil _ _).mono ?_; rintro e w3 ⟨rfl, hf3⟩)
    | (go_at_call 13; refine (countnil _).mono ?_; rintro e w1 ⟨rfl, rfl⟩)
    | (go_at_call 22; refine (copynil _).mono ?_; rintro e w1 ⟨rfl, rfl⟩)
    | (go_at_call 21; refine (size_nil _).mono ?_; rintro e w1 ⟨rfl, rfl⟩)
    | (go_at_call 8; refine (three_any _).mono ?_; rintro e w8 ⟨rfl, hf8⟩))
  go_ret
  exact ⟨rfl, ((hf1.trans hf2).trans hf3).trans hf8⟩
set_option maxRecDepth 100000 in
theorem matrixNil_lifted (os : Os) (started : os.Started) (H : Type) (enc : TypeId × Value → H) :
    ReturnsInHanded {} Try.checked os 7 .any (Rows.matrixNilSpec.pre6 enc Try.prog Try.f7 Rows.matrixNilRow.domain false) (Rows.matrixNilSpec.post enc Try.prog Try.f7 false true false false) := by
  refine law_of_walk Try.underlying4 started H enc Try.func7 (by kernel_rfl) rfl rfl
    (ChangeSpec.witness6 (enc := enc) (C := Try.checked) false ⟨#[], #[.int .i64 0, .int .i64 0], []⟩ 8 (by kernel_rfl) (by kernel_rfl) (by kernel_rfl) (by kernel_rfl)) ?_ ?_ ?_
  · intro ds hl
    match ds, hl with
    | [d0, d1], _ => rfl
  · rw [Try.params7]
    simp only [List.mem_cons, List.not_mem_nil, or_false, forall_eq_or_imp, forall_eq]
    exact ⟨⟨by kernel_rfl, of_decide_eq_true (by kernel_rfl)⟩, ⟨by kernel_rfl, of_decide_eq_true (by kernel_rfl)⟩⟩
  · intro W base args ds p hval hA hlt _
    rw [Try.params7] at hA hval
    obtain ⟨v0, vs0, d0, ds0, p0, q0, hargs, rfl, rfl, h0, r0⟩ := trodAll_cons hA
    obtain ⟨v1, vs1, d1, ds1, p1, q1, rfl, rfl, rfl, h1, r1⟩ := trodAll_cons r0
    obtain ⟨rfl, rfl, rfl⟩ := trodAll_nil r1
    obtain rfl : args = #[v0, v1] := by cases args; simp_all
    obtain ⟨a0, rfl, rfl, rfl, w0⟩ := open_int Try.underlying3 (hval 0 3 v0 rfl rfl) h0
    have bd0 := wf_bounds w0
    obtain ⟨a1, rfl, rfl, rfl, w1⟩ := open_int Try.underlying3 (hval 1 3 v1 rfl rfl) h1
    have bd1 := wf_bounds w1
    exact matrixNil_walk a0 a1 W

theorem matrixNil_holds : Rows.MatrixNilSaid :=
  OpenClaim.holds_of_wide 7 Try.f7 rfl rfl rfl rfl rfl rfl rfl ⟨rfl, rfl, rfl, rfl, rfl⟩ rfl rfl rfl rfl rfl (by kernel_rfl) Try.func7 (by kernel_rfl)
    (of_decide_eq_true (by kernel_rfl)) (by unfold Func.isWrapper; first | (rw [if_pos (by decide +kernel)]; kernel_rfl) | (rw [if_neg (by decide +kernel)]; exact ⟨rfl, rfl⟩))
    (fun os started H enc _ => matrixNil_lifted os started H enc)
#print axioms matrixNil_holds
end Go.Proofs.Ythikjaoffikigaa
