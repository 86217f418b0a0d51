/- RingFull: for every size and v, a new ring takes just as many values as its size, a turn of a full one gives the first and keeps it full; no condition. -/
import Derived.Test.YtiebkndefjbgjaaD
import Derived.Test.YtiebkndefjbgjaaL
namespace Go.Proofs.Ytiebkndefjbgjaa
open Go.RowKit Go.WideShapes Go.ChangeShapes Go.ChangeAt

set_option maxHeartbeats 1000000 in
theorem ringFull_bad (s v : Int) (w : World) (h : s < 0 ∨ 4 < s) : Calls Try.prog 6 #[.int .i64 s, .int .i64 v] w (Truly w) := by
  have H := Lib.hid h
  by_cases h0 : s < 0
  · clear h
    go_enter Try.func6, Try.ntmps6
    go_wp2_with (first
      | (go_at_call 7; refine (new_bad _ H.out).mono ?_; rintro e w' ⟨rfl, rfl⟩)
      | (go_at_call 9; refine (two_any _).mono ?_; rintro e w' ⟨rfl, hf⟩))
    go_ret
    exact ⟨rfl, hf⟩
  · have h1 : 4 < s := by omega
    clear h
    go_enter Try.func6, Try.ntmps6
    go_wp2_with (first
      | (go_at_call 7; refine (new_bad _ H.out).mono ?_; rintro e w' ⟨rfl, rfl⟩)
      | (go_at_call 9; refine (two_any _).mono ?_; rintro e w' ⟨rfl, hf⟩))
    go_ret
    exact ⟨rfl, hf⟩

set_option maxHeartbeats 1000000 in
theorem ringFull_good (s : Nat) (v : Int) (w : World) (h : s ≤ 4) : Calls Try.prog 6 #[.int .i64 s, .int .i64 v] w (Truly w) := by
  go_enter Try.func6, Try.ntmps6
  go_wp2_with (go_at_call 7; refine (new_good _ h).mono ?_; rintro e w1 ⟨rfl, hr1, hf1⟩)
  go_loopw [7] (fun i wr => ∃ k : Nat, i = .int .i64 k ∧ k ≤ s ∧ RingIs wr w.heap.size s (List.replicate k v) ∧ Fr No w wr) (fun i _ => s - (intOf i).toNat)
  case atStart => exact ⟨0, rfl, by omega, hr1, hf1⟩
  case round =>
    obtain ⟨k, rfl, hk, hr, hf⟩ := hrel
    clear hr1 hf1
    by_cases hlt : k < s
    · go_wp2_with (go_at_call 10; refine (push_room hr (by simp; omega) v).mono ?_; rintro e w2 ⟨rfl, hr2, hf2⟩)
      go_roundw
      case rel => exact ⟨k + 1, by go_num, by omega, by rw [List.replicate_succ']; exact hr2, hf.only_new (Nat.le_refl _) hf2⟩
      case measure => simp [intOf]; omega
    · have hks : k = s := by omega
      have HK := Lib.hid hks
      clear hks
      by_cases hz : s = 0
      · have h0 : k = 0 := by omega
        subst hz
        subst h0
        go_wp2_with (first
          | (go_at_call 14; refine (turn_none hr v).mono ?_; rintro e w' ⟨rfl, rfl⟩)
          | (go_at_call 10; refine (push_full hr rfl v).mono ?_; rintro e w' ⟨rfl, rfl⟩)
          | (go_at_call 9; refine (two_any _).mono ?_; rintro e w' ⟨rfl, hf'⟩))
        go_ret
        exact ⟨rfl, hf.trans hf'⟩
      · obtain ⟨m, rfl⟩ : ∃ m, s = m + 1 := ⟨s - 1, by omega⟩
        have hr' : RingIs wr w.heap.size (m + 1) (v :: List.replicate m v) := by
          have e : List.replicate k v = v :: List.replicate m v := by rw [HK.out, List.replicate_succ]
          rw [← e]
          exact hr
        clear hr
        go_wp2_with (first
          | (go_at_call 14; refine (turn_some hr' v).mono ?_; rintro e w2 ⟨rfl, hr2, hf2⟩)
          | (go_at_call 18; refine (len_any hr2).mono ?_; rintro e w' ⟨rfl, rfl⟩)
          | (go_at_call 10; refine (push_full hr2 (by simp) v).mono ?_; rintro e w' ⟨rfl, rfl⟩)
          | (go_at_call 9; refine (two_any _).mono ?_; rintro e w' ⟨rfl, hf'⟩))
        go_ret
        exact ⟨rfl, (hf.only_new (Nat.le_refl _) hf2).trans hf'⟩

set_option maxRecDepth 100000 in
theorem ringFull_lifted (os : Os) (started : os.Started) (H : Type) (enc : TypeId × Value → H) :
    ReturnsInHanded {} Try.checked os 6 .any (Rows.ringFullSpec.pre6 enc Try.prog Try.f6 Rows.ringFullRow.domain false) (Rows.ringFullSpec.post enc Try.prog Try.f6 false true false false) := by
  refine law_of_walk Try.underlying4 started H enc Try.func6 (by kernel_rfl) rfl rfl
    (ChangeSpec.witness6 (enc := enc) (C := Try.checked) false ⟨#[], #[.int .i64 0, .int .i64 0], []⟩ 8 (by kernel_rfl) (by kernel_rfl) (by kernel_rfl) (by kernel_rfl)) ?_ ?_ ?_
  · intro ds hl
    match ds, hl with
    | [d, d'], _ => rfl
  · rw [Try.params6]
    simp only [List.mem_cons, List.not_mem_nil, or_false, forall_eq_or_imp, forall_eq]
    exact ⟨⟨by kernel_rfl, of_decide_eq_true (by kernel_rfl)⟩, ⟨by kernel_rfl, of_decide_eq_true (by kernel_rfl)⟩⟩
  · intro W base args ds p hval hA hlt _
    rw [Try.params6] at hA hval
    obtain ⟨v0, vs0, d0, ds0, p0, q0, hargs, rfl, rfl, h0, r0⟩ := trodAll_cons hA
    obtain ⟨v1, vs1, d1, ds1, p1, q1, rfl, rfl, rfl, h1, r1⟩ := trodAll_cons r0
    obtain ⟨rfl, rfl, rfl⟩ := trodAll_nil r1
    obtain rfl : args = #[v0, v1] := by cases args; simp_all
    obtain ⟨a0, rfl, rfl, rfl, w0⟩ := open_int Try.underlying3 (hval 0 3 v0 rfl rfl) h0
    obtain ⟨a1, rfl, rfl, rfl, w1⟩ := open_int Try.underlying3 (hval 1 3 v1 rfl rfl) h1
    by_cases h : a0 < 0 ∨ 4 < a0
    · exact ringFull_bad a0 a1 W h
    · obtain ⟨s, rfl⟩ : ∃ s : Nat, a0 = s := ⟨a0.toNat, by omega⟩
      exact ringFull_good s a1 W (by omega)

theorem ringFull_holds : Rows.RingFullSaid :=
  OpenClaim.holds_of_wide 6 Try.f6 rfl rfl rfl rfl rfl rfl rfl ⟨rfl, rfl, rfl, rfl, rfl⟩ rfl rfl rfl rfl rfl (by kernel_rfl) Try.func6 (by kernel_rfl)
    (of_decide_eq_true (by kernel_rfl)) (by unfold Func.isWrapper; first | (rw [if_pos (by decide +kernel)]; kernel_rfl) | (rw [if_neg (by decide +kernel)]; exact ⟨rfl, rfl⟩))
    (fun os started H enc _ => ringFull_lifted os started H enc)
#print axioms ringFull_holds
end Go.Proofs.Ytiebkndefjbgjaa
