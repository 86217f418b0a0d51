/- MatrixTurned: for every size and all pairs, the closure of the relation turned around is the closure turned around, of as many pairs; no condition. -/
import Derived.Test.YthikjaoffikigaaQ
namespace Go.Proofs.Ythikjaoffikigaa
open Go.RowKit Go.WideShapes Go.ChangeShapes Go.ChangeAt

set_option maxRecDepth 100000 in
set_option maxHeartbeats 600000 in
theorem turned_far (i : Int) (A : Option Addr) (n c : Nat) (w : World) (h : i < 0 ∨ 60 < i ∨ 200 < n) (hn : n ≤ 9223372036854775807) : Calls Try.prog 4 #[.int .i64 i, .slice A n c] w (Truly w) := by
  by_cases h0 : i < 0
  · clear h
    go_enter Try.func4, Try.ntmps4
    go_wp2_with (go_at_call 8; refine (three_any _).mono ?_; rintro e w' ⟨rfl, hf⟩)
    go_ret
    exact ⟨rfl, hf⟩
  by_cases h1 : 60 < i
  · clear h
    go_enter Try.func4, Try.ntmps4
    go_wp2_with (go_at_call 8; refine (three_any _).mono ?_; rintro e w' ⟨rfl, hf⟩)
    go_ret
    exact ⟨rfl, hf⟩
  have h2 : 200 < n := by omega
  clear h
  go_enter Try.func4, Try.ntmps4
  go_wp2_with (go_at_call 8; refine (three_any _).mono ?_; rintro e w' ⟨rfl, hf⟩)
  go_ret
  exact ⟨rfl, hf⟩

theorem addR_zero (n : Nat) (l : List (Int × Int)) : addR n l 0 = r0 := rfl
theorem addT_zero (n : Nat) (l : List (Int × Int)) : addT n l 0 = r0 := rfl
theorem addR_succ (n : Nat) (l : List (Int × Int)) (k : Nat) : addR n l (k + 1) = setR n (addR n l k) (l.getD k (0, 0)).1 (l.getD k (0, 0)).2 := rfl
theorem addT_succ (n : Nat) (l : List (Int × Int)) (k : Nat) : addT n l (k + 1) = setR n (addT n l k) (l.getD k (0, 0)).2 (l.getD k (0, 0)).1 := rfl
theorem r0_is : (fun _ _ => false : Nat → Nat → Bool) = r0 := rfl
theorem war_clo (n : Nat) (r : Nat → Nat → Bool) : war n r n = clo n r := rfl
attribute [local irreducible] war clo setR setE hasB cnt sel r0 addR addT
set_option maxRecDepth 100000 in
set_option maxHeartbeats 600000 in
theorem turned_near {w : World} {A : Option Addr} (n c : Nat) {l : List (Int × Int)} (hA : SlS plS w A l) (hn : n ≤ 60) (hl : l.length ≤ 200) : Calls Try.prog 4 #[.int .i64 n, .slice A l.length c] w (Truly w) := by
  have HA := Lib.hid hA
  have g1 := Lib.hid hA
  clear hA
  go_enter Try.func4, Try.ntmps4
  go_wp2_with (first
    | (go_at_call 9; have g := g1; clear g g1; refine (new_ok n (by omega) _).mono ?_; rintro e1 w1 ⟨m1, rfl, hm1, hf1⟩
       rw [r0_is] at hm1
       have K1 := Lib.hid hm1
       have F1 := Lib.hid hf1
       clear hm1 hf1)
    | (go_at_call 9; refine (new_ok n (by omega) _).mono ?_; rintro e2 w2 ⟨m2, rfl, hm2, hf2⟩
       rw [r0_is] at hm2
       have K2 := Lib.hid hm2
       have F2 := Lib.hid hf2
       clear hm2 hf2))
  go_loopw [51] (fun i wr => ∃ k : Nat, i = .int .i64 k ∧ k ≤ l.length ∧ Hid (Mx wr m1 n (addR n l k) w.heap.size w1.heap.size) ∧ Hid (Mx wr m2 n (addT n l k) w1.heap.size w2.heap.size) ∧ Fr No w wr) (fun i _ => l.length - (intOf i).toNat)
  case atStart => exact ⟨0, rfl, by omega, Lib.hid (by rw [addR_zero]; exact K1.out.no F2.out), Lib.hid (by rw [addT_zero]; exact K2.out), F1.out.trans F2.out⟩
  case round =>
    obtain ⟨k, rfl, hk, hM1, hM2, hf⟩ := hrel
    by_cases hlt : k < l.length
    · obtain ⟨ba, off, rfl, hbb, d0, d1⟩ := Pairs_at (HA.out.no hf) hlt
      have S1 := Lib.hid (addR_succ n l k)
      have S2 := Lib.hid (addT_succ n l k)
      generalize l.getD k (0, 0) = p at *
      have hfA := Lib.hid (hf.alloc (.cells #[.int .i64 p.1, .int .i64 p.2] 29))
      have hal := Lib.hid ((Fr.refl No wr).alloc (.cells #[.int .i64 p.1, .int .i64 p.2] 29))
      have g1 := Lib.hid hM1.out
      have hsz := hM2.out.top
      have hs1 := F1.out.size
      have hs2 := F2.out.size
      go_wp2_with (first
        | (go_at_call 10; have g := g1; clear g g1; refine (set_any (hM1.out.no hal.out) _ _).mono ?_; rintro e3 w3 ⟨rfl, hm3, hf3⟩
           have K3 := Lib.hid hm3
           have K4 := Lib.hid ((hM2.out.no hal.out).far hf3 (.inr (Nat.le_refl _)))
           have F3 := Lib.hid (hfA.out.inn' hf3 (Nat.le_refl _))
           have hbp := (Blk.new wr 29 #[.int .i64 p.1, .int .i64 p.2]).fr hf3 (by unfold In; omega)
           have p0 := hbp.cell 0
           have p1 := hbp.cell 1
           have hgp := hbp.lt
           clear hm3 hf3 hbp)
        | (go_at_call 10; refine (set_any K4.out _ _).mono ?_; rintro e4 w4 ⟨rfl, hm4, hf4⟩
           have K5 := Lib.hid hm4
           have K6 := Lib.hid (K3.out.far hf4 (.inl (Nat.le_refl _)))
           have F4 := Lib.hid (F3.out.inn' hf4 hs1)
           clear hm4 hf4))
      go_roundw
      case rel => exact ⟨k + 1, by go_num, by omega, Lib.hid (by rw [S1.out]; exact K6.out), Lib.hid (by rw [S2.out]; exact K5.out), F4.out⟩
      case measure => simp [intOf]; omega
    · obtain rfl : k = l.length := by omega
      have g1 := Lib.hid hM1.out
      have hs1 := F1.out.size
      have HB := Lib.hid (add_back n l l.length)
      generalize addR n l l.length = R at *
      generalize addT n l l.length = T at *
      go_wp2_with (first
        | (go_at_call 11; have g := g1; clear g g1; refine (close_any hM1.out).mono ?_; rintro e3 w3 ⟨rfl, hm3, hf3⟩
           rw [war_clo] at hm3
           have K3 := Lib.hid hm3
           have K4 := Lib.hid (hM2.out.far hf3 (.inr (Nat.le_refl _)))
           have F3 := Lib.hid (hf.inn' hf3 (Nat.le_refl _))
           clear hm3 hf3)
        | (go_at_call 11; refine (close_any K4.out).mono ?_; rintro e4 w4 ⟨rfl, hm4, hf4⟩
           rw [war_clo] at hm4
           have K5 := Lib.hid hm4
           have K6 := Lib.hid (K3.out.far hf4 (.inl (Nat.le_refl _)))
           have F4 := Lib.hid (F3.out.inn' hf4 hs1)
           clear hm4 hf4))
      have HC := Lib.hid (fun i j (hi : i < n) (hj : j < n) => clo_back (r := R) (r' := T) hi hj HB.out)
      generalize clo n R = R' at *
      generalize clo n T = T' at *
      clear hM1 hM2 hf K4 F3 K3
      go_loopw [11] (fun i wr => ∃ k : Nat, i = .int .i64 k ∧ k ≤ n ∧ wr = w4) (fun i _ => n - (intOf i).toNat)
      case atStart => exact ⟨0, rfl, by omega, rfl⟩
      case round =>
        clear hk hlt
        obtain ⟨i, rfl, hi, rfl⟩ := hrel
        by_cases hlt : i < n
        · go_wp2
          go_loopw [12] (fun j wr' => ∃ k : Nat, j = .int .i64 k ∧ k ≤ n ∧ wr' = wr) (fun j _ => n - (intOf j).toNat)
          case atStart => exact ⟨0, rfl, by omega, rfl⟩
          case round =>
            obtain ⟨j, rfl, hj, rfl⟩ := hrel
            by_cases hlj : j < n
            · have e1 := hasB_nat (r := R') hlt hlj
              have e2 := hasB_nat (r := T') hlj hlt
              rw [HC.out i j hlt hlj] at e1
              have E1 := Lib.hid e1
              have E2 := Lib.hid e2
              clear e1 e2
              have g1 := Lib.hid K6.out
              go_wp2_with (first
                | (go_at_call 12; have g := g1; clear g g1; refine (has_any K6.out _ _).mono ?_; rintro e7 w7 ⟨rfl, rfl⟩; rw [E1.out])
                | (go_at_call 12; refine (has_any K5.out _ _).mono ?_; rintro e7 w7 ⟨rfl, rfl⟩; rw [E2.out]))
              go_roundw
              case rel => exact ⟨j + 1, by go_num, by omega, by first | rfl | trivial⟩
              case measure => simp [intOf]; omega
            · go_wp2
              go_roundw
              case rel => exact ⟨i + 1, by go_num, by omega, by first | rfl | trivial⟩
              case measure => simp [intOf]; omega
        · have HN := Lib.hid (cnt_back (n := n) (r := R') (r' := T') HC.out)
          have g1 := Lib.hid K6.out
          go_wp2_with (first
            | (go_at_call 13; have g := g1; clear g g1; refine (count_any K6.out).mono ?_; rintro e7 w7 ⟨rfl, rfl⟩; rw [HN.out])
            | (go_at_call 13; refine (count_any K5.out).mono ?_; rintro e7 w7 ⟨rfl, rfl⟩)
            | (go_at_call 8; refine (three_any _).mono ?_; rintro e w8 ⟨rfl, hf8⟩))
          go_ret
          exact ⟨rfl, F4.out.trans hf8⟩
set_option maxRecDepth 100000 in
theorem matrixTurned_lifted (os : Os) (started : os.Started) (H : Type) (enc : TypeId × Value → H) :
    ReturnsInHanded {} Try.checked os 4 .any (Rows.matrixTurnedSpec.pre6 enc Try.prog Try.f4 Rows.matrixTurnedRow.domain false) (Rows.matrixTurnedSpec.post enc Try.prog Try.f4 false true false false) := by
  refine law_of_walk Try.underlying4 started H enc Try.func4 (by kernel_rfl) rfl rfl
    (ChangeSpec.witness6 (enc := enc) (C := Try.checked) false ⟨#[], #[.int .i64 0, .slice none 0 0], []⟩ 8 (by kernel_rfl) (by kernel_rfl) (by kernel_rfl) (by kernel_rfl)) ?_ ?_ ?_
  · intro ds hl
    match ds, hl with
    | [d0, d1], _ => rfl
  · rw [Try.params4]
    simp only [List.mem_cons, List.not_mem_nil, or_false, forall_eq_or_imp, forall_eq]
    exact ⟨⟨by kernel_rfl, of_decide_eq_true (by kernel_rfl)⟩, ⟨by kernel_rfl, of_decide_eq_true (by kernel_rfl)⟩⟩
  · intro W base args ds p hval hA hlt _
    rw [Try.params4] at hA hval
    obtain ⟨v0, vs0, d0, ds0, p0, q0, hargs, rfl, rfl, h0, r0⟩ := trodAll_cons hA
    obtain ⟨v1, vs1, d1, ds1, p1, q1, rfl, rfl, rfl, h1, r1⟩ := trodAll_cons r0
    obtain ⟨rfl, rfl, rfl⟩ := trodAll_nil r1
    obtain rfl : args = #[v0, v1] := by cases args; simp_all
    obtain ⟨a0, rfl, rfl, rfl, w0⟩ := open_int Try.underlying3 (hval 0 3 v0 rfl rfl) h0
    have bd0 := wf_bounds w0
    obtain ⟨A1, c1, xs1, rfl, hl1, hm1, hc1⟩ := open_pairs (hval 1 22 v1 rfl rfl) h1
    have hm1' : xs1.length ≤ 9223372036854775807 := by unfold maxLen at hm1; omega
    by_cases h : a0 < 0 ∨ 60 < a0 ∨ 200 < xs1.length
    · exact turned_far a0 A1 _ c1 W h hm1'
    · obtain ⟨n, rfl⟩ : ∃ n : Nat, a0 = n := ⟨a0.toNat, by omega⟩
      exact turned_near n c1 hc1 (by omega) (by omega)

theorem matrixTurned_holds : Rows.MatrixTurnedSaid :=
  OpenClaim.holds_of_wide 4 Try.f4 rfl rfl rfl rfl rfl rfl rfl ⟨rfl, rfl, rfl, rfl, rfl⟩ rfl rfl rfl rfl rfl (by kernel_rfl) Try.func4 (by kernel_rfl)
    (of_decide_eq_true (by kernel_rfl)) (by unfold Func.isWrapper; first | (rw [if_pos (by decide +kernel)]; kernel_rfl) | (rw [if_neg (by decide +kernel)]; exact ⟨rfl, rfl⟩))
    (fun os started H enc _ => matrixTurned_lifted os started H enc)
#print axioms matrixTurned_holds
end Go.Proofs.Ythikjaoffikigaa
