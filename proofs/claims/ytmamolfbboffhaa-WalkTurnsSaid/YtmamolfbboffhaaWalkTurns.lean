/- WalkTurns: for every k, a turn by k quarters is the document's, four more are none, two more are back; no condition. -/
import Derived.Test.YtmamolfbboffhaaE
import Derived.Test.YtmamolfbboffhaaO
namespace Go.Proofs.Ytmamolfbboffhaa
open Go.RowKit Go.WideShapes Go.ChangeShapes Go.ChangeAt

set_option maxHeartbeats 1000000 in
theorem walkTurns_far (k : Int) (w : World) (h : k < -1099511627776 ∨ 1099511627776 < k) : Calls Try.prog 3 #[.int .i64 k] w (Truly w) := by
  by_cases h1 : k < -1099511627776
  · clear h
    go_enter Try.func3, Try.ntmps3
    go_wp2_with (go_at_call 8; refine (two_any _).mono ?_; rintro e w' ⟨rfl, hf⟩)
    go_ret
    exact ⟨rfl, hf⟩
  · have h2 : 1099511627776 < k := by omega
    have h3 : -1099511627776 ≤ k := by omega
    clear h h1
    go_enter Try.func3, Try.ntmps3
    go_wp2_with (go_at_call 8; refine (two_any _).mono ?_; rintro e w' ⟨rfl, hf⟩)
    go_ret
    exact ⟨rfl, hf⟩

theorem rot_tz (k : Int) : rot (k % 4).toNat (1, 0) = tz (k % 4) := by
  have hr : k % 4 = 0 ∨ k % 4 = 1 ∨ k % 4 = 2 ∨ k % 4 = 3 := by omega
  rcases hr with h | h | h | h <;> rw [h] <;> decide
theorem tz_neg (k : Int) : tz ((k + 2) % 4) = (-(tz (k % 4)).1, -(tz (k % 4)).2) := by
  have hr : k % 4 = 0 ∨ k % 4 = 1 ∨ k % 4 = 2 ∨ k % 4 = 3 := by omega
  rcases hr with h | h | h | h
  · rw [show (k + 2) % 4 = 2 by omega, h]; decide
  · rw [show (k + 2) % 4 = 3 by omega, h]; decide
  · rw [show (k + 2) % 4 = 0 by omega, h]; decide
  · rw [show (k + 2) % 4 = 1 by omega, h]; decide
theorem tz_four (r : Int) : mulZ (mulZ (mulZ (tz r) (tz r)) (tz r)) (tz r) = (1, 0) := by
  have := tz_dir r
  unfold Dir at this
  rcases this with h | h | h | h <;> rw [h] <;> decide

theorem run_neg_complex (P : Program) (w : World) (k : FloatKind) (a b : Nat) : (Op.unary .neg (.complex k a b)).run P w = .ok (.complex k (Op.negFloat k a) (Op.negFloat k b)) w := by simp [Op.unary]
theorem run_neg_float (P : Program) (w : World) (k : FloatKind) (a : Nat) : (Op.unary .neg (.float k a)).run P w = .ok (.float k (Op.negFloat k a)) w := by simp [Op.unary]
attribute [local go_sem] run_neg_complex run_neg_float
theorem dir_le {d : Int × Int} (h : Dir d) : d.1.natAbs ≤ 1 ∧ d.2.natAbs ≤ 1 := by
  unfold Dir at h
  rcases h with rfl | rfl | rfl | rfl <;> decide

attribute [local irreducible] tw tz rot mulZ Op.negFloat
set_option maxHeartbeats 1000000 in
theorem walkTurns_near (k : Int) (w : World) (h1 : -1099511627776 ≤ k) (h2 : k ≤ 1099511627776) : Calls Try.prog 3 #[.int .i64 k] w (Truly w) := by
  have hv := tw_val (k % 4)
  have ht : (tz (k % 4)).1.natAbs ≤ 1 ∧ (tz (k % 4)).2.natAbs ≤ 1 := dir_le (tz_dir (k % 4))
  have e4 : (k + 4) % 4 = k % 4 := by omega
  have hz : Zv (tw (k % 4)) (tz (k % 4)) := hv
  obtain ⟨p1, i1, em1, hz1⟩ := zv_mul hz hz 10 (by decide) (by omega) (by omega) (by omega) (by omega)
  have b1 := dir_le (mulZ_dir (tz_dir (k % 4)) (tz_dir (k % 4)))
  obtain ⟨p2, i2, em2, hz2⟩ := zv_mul hz1 hz 10 (by decide) (by omega) (by omega) (by omega) (by omega)
  have b2 := dir_le (mulZ_dir (mulZ_dir (tz_dir (k % 4)) (tz_dir (k % 4))) (tz_dir (k % 4)))
  obtain ⟨p3, i3, em3, hz3⟩ := zv_mul hz2 hz 10 (by decide) (by omega) (by omega) (by omega) (by omega)
  rw [tz_four] at hz3
  have hm1 := fun w => run_complex_mul (P := Try.prog) w 23 _ _ _ _ _ _ em1
  have hm2 := fun w => run_complex_mul (P := Try.prog) w 23 _ _ _ _ _ _ em2
  have hm3 := fun w => run_complex_mul (P := Try.prog) w 23 _ _ _ _ _ _ em3
  obtain ⟨q1, q2⟩ := zv_eq hz hz
  have hn : Zv (tw ((k + 2) % 4)) (-(tz (k % 4)).1, -(tz (k % 4)).2) := by rw [← tz_neg]; exact tw_val _
  obtain ⟨q3, q4⟩ := zv_eq hn (b := (Op.negFloat .f64 (tw (k % 4)).1, Op.negFloat .f64 (tw (k % 4)).2)) ⟨val_neg hv.1, val_neg hv.2⟩
  obtain ⟨q5, q6⟩ := zv_eq hz3 (b := (one, 0)) ⟨val_one, val_zero⟩
  unfold one at q5
  clear e4 hz hz1 hz2 hz3 hn em1 em2 em3 b1 b2
  go_enter Try.func3, Try.ntmps3
  go_wp2_with (first
    | (go_at_call 11; refine (turned_any 1 0 k _ (by decide) (by decide) (by omega) (by omega)).mono ?_; rintro e w1 ⟨rfl, hf1⟩; rw [rot_tz])
    | (go_at_call 10; refine (whole_yes hv.1 hv.2 (by omega) (by omega) _).mono ?_; rintro e w2 ⟨rfl, hf2⟩)
    | (go_at_call 9; refine (turn_any _ _).mono ?_; rintro e w3 ⟨rfl, rfl⟩)
    | (go_at_call 8; refine (two_any _).mono ?_; rintro e w4 ⟨rfl, hf4⟩))
  go_ret
  exact ⟨rfl, (hf1.trans hf2).trans hf4⟩
set_option maxRecDepth 100000 in
theorem walkTurns_lifted (os : Os) (started : os.Started) (H : Type) (enc : TypeId × Value → H) :
    ReturnsInHanded {} Try.checked os 3 .any (Rows.walkTurnsSpec.pre6 enc Try.prog Try.f3 Rows.walkTurnsRow.domain false) (Rows.walkTurnsSpec.post enc Try.prog Try.f3 false true false false) := by
  refine law_of_walk Try.underlying4 started H enc Try.func3 (by kernel_rfl) rfl rfl
    (ChangeSpec.witness6 (enc := enc) (C := Try.checked) false ⟨#[], #[.int .i64 0], []⟩ 8 (by kernel_rfl) (by kernel_rfl) (by kernel_rfl) (by kernel_rfl)) ?_ ?_ ?_
  · intro ds hl
    match ds, hl with
    | [d0], _ => rfl
  · rw [Try.params3]
    simp only [List.mem_cons, List.not_mem_nil, or_false, forall_eq_or_imp, forall_eq]
    exact ⟨by kernel_rfl, of_decide_eq_true (by kernel_rfl)⟩
  · intro W base args ds p hval hA hlt _
    rw [Try.params3] at hA hval
    obtain ⟨v0, vs0, d0, ds0, p0, q0, hargs, rfl, rfl, h0, r0⟩ := trodAll_cons hA
    obtain ⟨rfl, rfl, rfl⟩ := trodAll_nil r0
    obtain rfl : args = #[v0] := by cases args; simp_all
    obtain ⟨a0, rfl, rfl, rfl, w0⟩ := open_int Try.underlying3 (hval 0 3 v0 rfl rfl) h0
    have bd0 := wf_bounds w0
    by_cases h : a0 < -1099511627776 ∨ 1099511627776 < a0
    · exact walkTurns_far a0 W h
    · exact walkTurns_near a0 W (by omega) (by omega)

theorem walkTurns_holds : Rows.WalkTurnsSaid :=
  OpenClaim.holds_of_wide 3 Try.f3 rfl rfl rfl rfl rfl rfl rfl ⟨rfl, rfl, rfl, rfl, rfl⟩ rfl rfl rfl rfl rfl (by kernel_rfl) Try.func3 (by kernel_rfl)
    (of_decide_eq_true (by kernel_rfl)) (by unfold Func.isWrapper; first | (rw [if_pos (by decide +kernel)]; kernel_rfl) | (rw [if_neg (by decide +kernel)]; exact ⟨rfl, rfl⟩))
    (fun os started H enc _ => walkTurns_lifted os started H enc)
#print axioms walkTurns_holds
end Go.Proofs.Ytmamolfbboffhaa
