/- PewFull: for every 'more', just 1024 wait at most, and behind a drop there is room again; no condition. -/
import Derived.Test.YtbmobikhfcmgjaaE
import Derived.Test.YtbmobikhfcmgjaaO
namespace Go.Proofs.Ytbmobikhfcmgjaa
open Go.RowKit Go.WideShapes Go.ChangeShapes Go.ChangeAt

set_option maxHeartbeats 1000000 in
theorem pewFull_out (m : Int) (w : World) (h : m < 0 ∨ 20 < m) : Calls Try.prog 4 #[.int .i64 m] w (Truly w) := by
  by_cases h0 : m < 0
  · clear h
    go_enter Try.func4, Try.ntmps4
    go_wp2_with (first
      | (go_at_call 8; refine (new_any _).mono ?_; rintro e w1 ⟨rfl, h1, hf1⟩)
      | (go_at_call 9; refine (three_any _).mono ?_; rintro e w' ⟨rfl, hf⟩))
    go_ret
    exact ⟨rfl, hf1.trans hf⟩
  · have h1 : 0 ≤ m := by omega
    have h2 : 20 < m := by omega
    clear h
    go_enter Try.func4, Try.ntmps4
    go_wp2_with (first
      | (go_at_call 8; refine (new_any _).mono ?_; rintro e w1 ⟨rfl, h1, hf1⟩)
      | (go_at_call 9; refine (three_any _).mono ?_; rintro e w' ⟨rfl, hf⟩))
    go_ret
    exact ⟨rfl, hf1.trans hf⟩

/-- the waiters 0 to k - 1 -/
def line (k : Nat) : List Tr := (List.range k).map fun (i : Nat) => ((i : Int), 0, 0)
theorem line_succ (k : Nat) : line (k + 1) = line k ++ [((k : Int), 0, 0)] := by unfold line; rw [List.range_succ, List.map_append]; rfl
theorem line_len (k : Nat) : (line k).length = k := by simp [line]
theorem rest_line (k : Nat) : (rest 7 (line k)).length = if 7 < k then k - 1 else k := by
  induction k with
  | zero => rfl
  | succ k ih =>
    rw [line_succ, rest_snoc]
    by_cases h : (k : Int) = 7
    · rw [if_pos h, ih, if_neg (by omega), if_pos (by omega)]; rfl
    · rw [if_neg h, List.length_append, ih]
      by_cases h7 : 7 < k
      · rw [if_pos h7, if_pos (by omega)]; simp; omega
      · rw [if_neg h7, if_neg (by omega)]; simp

set_option maxRecDepth 100000 in
set_option maxHeartbeats 2000000 in
theorem pewFull_in (m : Nat) (w : World) (h : m ≤ 20) : Calls Try.prog 4 #[.int .i64 m] w (Truly w) := by
  go_enter Try.func4, Try.ntmps4
  go_wp2_with (go_at_call 8; refine (new_any _).mono ?_; rintro e w1 ⟨rfl, h1, hf1⟩)
  go_loopw [4] (fun i wr => ∃ (k : Nat) (ns : List Seat), i = .int .i64 k ∧ k ≤ 1024 ∧ PewIs wr w.heap.size w.heap.size ns ∧ who ns = line k ∧ Fr No w wr) (fun i _ => 1024 - (intOf i).toNat)
  case atStart => exact ⟨0, [], rfl, by omega, h1, rfl, hf1⟩
  case round =>
    obtain ⟨k, ns, rfl, hk, hp, hw, hf⟩ := hrel
    have hl : ns.length = k := by have e := congrArg List.length hw; rw [line_len] at e; simpa [who] using e
    have HW := Lib.hid hw
    have HL := Lib.hid hl
    have hln : ns.length ≤ k := by omega
    have hsz := hf.size
    clear hw hl h1 hf1
    by_cases hlt : k < 1024
    · go_wp2_with (go_at_call 10; refine (add_room hp (by omega) hsz _ _ _ (by omega) (by decide)).mono ?_; rintro e w2 ⟨rfl, ⟨b, hb, hp2⟩, hf2⟩)
      go_roundw
      case rel => exact ⟨k + 1, _, by go_num, by omega, hp2, by rw [line_succ, ← HW.out]; simp [who], hp.new_ hf (Nat.le_refl _) hf2⟩
      case measure => simp [intOf]; omega
    · have hn : ns.length = 1024 := by have := HL.out; omega
      have HN := Lib.hid hn
      clear hn
      go_wp2
      go_loopw [5] (fun i w3 => ∃ k2 : Nat, i = .int .i64 k2 ∧ k2 ≤ m ∧ Fr No wr w3) (fun i _ => m - (intOf i).toNat)
      case atStart => exact ⟨0, rfl, by omega, Fr.refl _ _⟩
      case round =>
        rename_i wq
        obtain ⟨k2, rfl, hk2, hf3⟩ := hrel
        have hp3 := hp.no hf3
        by_cases hlt2 : k2 < m
        · go_wp2_with (go_at_call 10; refine (add_full hp3 HN.out _ _ _ (by omega) (by decide)).mono ?_; rintro e w4 ⟨rfl, hf4⟩)
          go_roundw
          case rel => exact ⟨k2 + 1, by go_num, by omega, hf3.trans hf4⟩
          case measure => simp [intOf]; omega
        · have hv : ((who ns).length : Int) - (rest 7 (who ns)).length = 1 := by
            rw [HW.out, rest_line, line_len, if_pos (by omega)]
            have := HL.out; have := HN.out; omega
          have hl2 : ∀ ns' : List Seat, who ns' = rest 7 (who ns) → ns'.length < 1024 := by
            intro ns' e
            have e2 := congrArg List.length e
            have e3 : (who ns').length = ns'.length := by simp [who]
            have e4 : (who ns).length = ns.length := by simp [who]
            have := HN.out
            omega
          have HV := Lib.hid hv
          have HL2 := Lib.hid hl2
          have hszq := hf3.size
          have c1024 : ((ns.length : Int) == 1024) = true := by have := HN.out; simp; omega
          clear hv hl2
          go_wp2_with (first
            | (go_at_call 13; refine (len_any hp3).mono ?_; rintro e w' ⟨rfl, rfl⟩)
            | (go_at_call 11; refine (drop_any hp3 (Nat.le_trans hsz hszq) 7).mono ?_; rintro e w4 ⟨rfl, ⟨ns', hp4, hw4⟩, hf4⟩; rw [HV.out]
               have hl4 := HL2.out ns' hw4
               have hsz4 := hf4.size
               clear hw4)
            | (go_at_call 10; refine (add_room hp4 hl4 (Nat.le_trans hsz (Nat.le_trans hszq hsz4)) _ _ _ (by decide) (by decide)).mono ?_; rintro e w5 ⟨rfl, ⟨b, hb, hp5⟩, hf5⟩)
            | (go_at_call 9; refine (three_any _).mono ?_; rintro e w' ⟨rfl, hf9⟩))
          go_ret
          exact ⟨rfl, (hp4.new_ ((hf.trans hf3).only_new (Nat.le_refl _) hf4) (Nat.le_refl _) hf5).trans hf9⟩

set_option maxRecDepth 100000 in
theorem pewFull_lifted (os : Os) (started : os.Started) (H : Type) (enc : TypeId × Value → H) :
    ReturnsInHanded {} Try.checked os 4 .any (Rows.pewFullSpec.pre6 enc Try.prog Try.f4 Rows.pewFullRow.domain false) (Rows.pewFullSpec.post enc Try.prog Try.f4 false true false false) := by
  refine law_of_walk Try.underlying4 started H enc Try.func4 (by kernel_rfl) rfl rfl
    (ChangeSpec.witness6 (enc := enc) (C := Try.checked) false ⟨#[], #[.int .i64 0], []⟩ 8 (by kernel_rfl) (by kernel_rfl) (by kernel_rfl) (by kernel_rfl)) ?_ ?_ ?_
  · intro ds hl
    match ds, hl with
    | [d0], _ => rfl
  · rw [Try.params4]
    simp only [List.mem_cons, List.not_mem_nil, or_false, forall_eq_or_imp, forall_eq]
    exact ⟨by kernel_rfl, of_decide_eq_true (by kernel_rfl)⟩
  · intro W base args ds p hval hA hlt _
    rw [Try.params4] at hA hval
    obtain ⟨v0, vs0, d0, ds0, p0, q0, hargs, rfl, rfl, h0, r0⟩ := trodAll_cons hA
    obtain ⟨rfl, rfl, rfl⟩ := trodAll_nil r0
    obtain rfl : args = #[v0] := by cases args; simp_all
    obtain ⟨a0, rfl, rfl, rfl, w0⟩ := open_int Try.underlying3 (hval 0 3 v0 rfl rfl) h0
    have bd0 := wf_bounds w0
    by_cases h : a0 < 0 ∨ 20 < a0
    · exact pewFull_out a0 W h
    · obtain ⟨m, rfl⟩ : ∃ m : Nat, a0 = m := ⟨a0.toNat, by omega⟩
      exact pewFull_in m W (by omega)

theorem pewFull_holds : Rows.PewFullSaid :=
  OpenClaim.holds_of_wide 4 Try.f4 rfl rfl rfl rfl rfl rfl rfl ⟨rfl, rfl, rfl, rfl, rfl⟩ rfl rfl rfl rfl rfl (by kernel_rfl) Try.func4 (by kernel_rfl)
    (of_decide_eq_true (by kernel_rfl)) (by unfold Func.isWrapper; first | (rw [if_pos (by decide +kernel)]; kernel_rfl) | (rw [if_neg (by decide +kernel)]; exact ⟨rfl, rfl⟩))
    (fun os started H enc _ => pewFull_lifted os started H enc)
#print axioms pewFull_holds
end Go.Proofs.Ytbmobikhfcmgjaa
