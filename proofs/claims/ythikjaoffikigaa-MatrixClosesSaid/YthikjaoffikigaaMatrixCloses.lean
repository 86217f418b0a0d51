/- MatrixCloses: for every size and all pairs, the matrix closed agrees pair by pair with the document's one closed, and a copy made ahead stays as it was; no condition. -/
import Derived.Test.YthikjaoffikigaaY
import Derived.Test.YthikjaoffikigaaZ
namespace Go.Proofs.Ythikjaoffikigaa
open Go.RowKit Go.WideShapes Go.ChangeShapes Go.ChangeAt

set_option maxRecDepth 100000 in
set_option maxHeartbeats 600000 in
theorem closes_far (i : Int) (A : Option Addr) (n c : Nat) (w : World) (h : 30 < i ∨ 200 < n) (hn : n ≤ 9223372036854775807) : Calls Try.prog 6 #[.int .i64 i, .slice A n c] w (Truly w) := by
  by_cases h1 : 30 < i
  · clear h
    go_enter Try.func6, Try.ntmps6
    go_wp2_with (go_at_call 8; refine (three_any _).mono ?_; rintro e w' ⟨rfl, hf⟩)
    go_ret
    exact ⟨rfl, hf⟩
  have h2 : 200 < n := by omega
  clear h
  go_enter Try.func6, Try.ntmps6
  go_wp2_with (go_at_call 8; refine (three_any _).mono ?_; rintro e w' ⟨rfl, hf⟩)
  go_ret
  exact ⟨rfl, hf⟩
set_option maxRecDepth 100000 in
set_option maxHeartbeats 600000 in
theorem closes_bad (i : Int) (A : Option Addr) (n c : Nat) (w : World) (h : i < 0) (hn : n ≤ 200) : Calls Try.prog 6 #[.int .i64 i, .slice A n c] w (Truly w) := by
  have H : Hid (i < 0 ∨ 1024 < i) := Lib.hid (.inl h)
  have h1 : i ≤ 30 := by omega
  go_enter Try.func6, Try.ntmps6
  go_wp2_with (first
    | (go_at_call 9; refine (new_bad _ H.out _).mono ?_; rintro e w' ⟨rfl, rfl⟩)
    | (go_at_call 14; refine (rnew_bad _ H.out _).mono ?_; rintro e w' ⟨rfl, rfl⟩)
    | (go_at_call 8; refine (three_any _).mono ?_; rintro e w' ⟨rfl, hf⟩))
  go_ret
  exact ⟨rfl, hf⟩
theorem addR_zero (n : Nat) (l : List (Int × Int)) : addR n l 0 = r0 := rfl
theorem addR_succ (n : Nat) (l : List (Int × Int)) (k : Nat) : addR n l (k + 1) = setR n (addR n l k) (l.getD k (0, 0)).1 (l.getD k (0, 0)).2 := rfl
theorem r0_is : (fun _ _ => false : Nat → Nat → Bool) = r0 := rfl
theorem war_clo (n : Nat) (r : Nat → Nat → Bool) : war n r n = clo n r := rfl
attribute [local irreducible] war clo setR setE hasB cnt sel r0 addR addT
set_option maxRecDepth 100000 in
set_option maxHeartbeats 600000 in
theorem closes_near {w : World} {A : Option Addr} (n c : Nat) {l : List (Int × Int)} (hA : SlS plS w A l) (hn : n ≤ 30) (hl : l.length ≤ 200) : Calls Try.prog 6 #[.int .i64 n, .slice A l.length c] w (Truly w) := by
  have HA := Lib.hid hA
  clear hA
  go_enter Try.func6, Try.ntmps6
  go_wp2_with (first
    | (go_at_call 9; refine (new_ok n (by omega) _).mono ?_; rintro e1 w1 ⟨m1, rfl, hm1, hf1⟩
       rw [r0_is] at hm1
       have K1 := Lib.hid hm1
       have F1 := Lib.hid hf1
       clear hm1 hf1)
    | (go_at_call 14; refine (rnew_ok n (by omega) _).mono ?_; rintro e2 w2 ⟨m2, rfl, hm2, hf2⟩
       rw [r0_is] at hm2
       have K2 := Lib.hid hm2
       have F2 := Lib.hid hf2
       clear hm2 hf2))
  go_loopw [51] (fun i wr => ∃ k : Nat, i = .int .i64 k ∧ k ≤ l.length ∧ Hid (Mx wr m1 n (addR n l k) w.heap.size w1.heap.size) ∧ Hid (Rx wr m2 n (addR n l k) w1.heap.size w2.heap.size) ∧ Fr No w wr) (fun i _ => l.length - (intOf i).toNat)
  case atStart => exact ⟨0, rfl, by omega, Lib.hid (by rw [addR_zero]; exact K1.out.no F2.out), Lib.hid (by rw [addR_zero]; exact K2.out), F1.out.trans F2.out⟩
  case round =>
    obtain ⟨k, rfl, hk, hM1, hM2, hf⟩ := hrel
    by_cases hlt : k < l.length
    · obtain ⟨ba, off, rfl, hbb, d0, d1⟩ := Pairs_at (HA.out.no hf) hlt
      have S1 := Lib.hid (addR_succ n l k)
      generalize l.getD k (0, 0) = p at *
      have hfA := Lib.hid (hf.alloc (.cells #[.int .i64 p.1, .int .i64 p.2] 29))
      have hal := Lib.hid ((Fr.refl No wr).alloc (.cells #[.int .i64 p.1, .int .i64 p.2] 29))
      have hsz := hM2.out.top
      have hs1 := F1.out.size
      have hs2 := F2.out.size
      go_wp2_with (first
        | (go_at_call 10; refine (set_any (hM1.out.no hal.out) _ _).mono ?_; rintro e3 w3 ⟨rfl, hm3, hf3⟩
           have K3 := Lib.hid hm3
           have K4 := Lib.hid ((hM2.out.no hal.out).far hf3 (.inr (Nat.le_refl _)))
           have F3 := Lib.hid (hfA.out.inn' hf3 (Nat.le_refl _))
           have hbp := (Blk.new wr 29 #[.int .i64 p.1, .int .i64 p.2]).fr hf3 (by unfold In; omega)
           have p0 := hbp.cell 0
           have p1 := hbp.cell 1
           have hgp := hbp.lt
           clear hm3 hf3 hbp)
        | (go_at_call 15; refine (rset_any K4.out _ _).mono ?_; rintro e4 w4 ⟨rfl, hm4, hf4⟩
           have K5 := Lib.hid hm4
           have K6 := Lib.hid (K3.out.far hf4 (.inl (Nat.le_refl _)))
           have F4 := Lib.hid (F3.out.inn' hf4 hs1)
           clear hm4 hf4))
      go_roundw
      case rel => exact ⟨k + 1, by go_num, by omega, Lib.hid (by rw [S1.out]; exact K6.out), Lib.hid (by rw [S1.out]; exact K5.out), F4.out⟩
      case measure => simp [intOf]; omega
    · obtain rfl : k = l.length := by omega
      have hs1 := F1.out.size
      have hsz := hM2.out.top
      have hs2 := F2.out.size
      generalize addR n l l.length = R at *
      go_wp2_with (first
        | (go_at_call 22; refine (copy_any hM1.out).mono ?_; rintro e3 w3 ⟨m3, rfl, hm3, hf3⟩
           have K3 := Lib.hid hm3
           have K1' := Lib.hid (hM1.out.no hf3)
           have K2' := Lib.hid (hM2.out.no hf3)
           have F3 := Lib.hid (hf.trans hf3)
           clear hm3 hf3)
        | (go_at_call 13; refine (count_any K3.out).mono ?_; rintro e7 w7 ⟨rfl, rfl⟩)
        | (go_at_call 11; refine (close_any K1'.out).mono ?_; rintro e4 w4 ⟨rfl, hm4, hf4⟩
           rw [war_clo] at hm4
           have K4 := Lib.hid hm4
           have K5 := Lib.hid (K2'.out.far hf4 (.inr (Nat.le_refl _)))
           have K6 := Lib.hid (K3.out.far hf4 (.inr (Nat.le_trans hs2 hsz)))
           have F4 := Lib.hid (F3.out.inn' hf4 (Nat.le_refl _))
           clear hm4 hf4)
        | (go_at_call 23; refine (rclose_any K5.out).mono ?_; rintro e5 w5 ⟨rfl, hm5, hf5⟩
           have K7 := Lib.hid hm5
           have K8 := Lib.hid (K4.out.far hf5 (.inl (Nat.le_refl _)))
           have K9 := Lib.hid (K6.out.far hf5 (.inr hsz))
           have F5 := Lib.hid (F4.out.inn' hf5 hs1)
           clear hm5 hf5))
      generalize clo n R = R' at *
      clear hM1 hM2 hf K4 F3 K3 K1' K2' K5 K6 F4
      go_loopw [13] (fun i wr => ∃ k : Nat, i = .int .i64 k ∧ k ≤ n ∧ wr = w5) (fun i _ => n - (intOf i).toNat)
      case atStart => exact ⟨0, rfl, by omega, rfl⟩
      case round =>
        clear hk hlt
        obtain ⟨i, rfl, hi, rfl⟩ := hrel
        by_cases hlt : i < n
        · go_wp2
          go_loopw [14] (fun j wr' => ∃ k : Nat, j = .int .i64 k ∧ k ≤ n ∧ wr' = wr) (fun j _ => n - (intOf j).toNat)
          case atStart => exact ⟨0, rfl, by omega, rfl⟩
          case round =>
            obtain ⟨j, rfl, hj, rfl⟩ := hrel
            by_cases hlj : j < n
            · have E1 := Lib.hid (hasB_nat (r := R') hlt hlj)
              go_wp2_with (first
                | (go_at_call 12; refine (has_any K8.out _ _).mono ?_; rintro e7 w7 ⟨rfl, rfl⟩; rw [E1.out])
                | (go_at_call 16; refine (rhas_any K7.out _ _).mono ?_; rintro e7 w7 ⟨rfl, rfl⟩; rw [E1.out]))
              go_roundw
              case rel => exact ⟨j + 1, by go_num, by omega, by first | rfl | trivial⟩
              case measure => simp [intOf]; omega
            · go_wp2
              go_roundw
              case rel => exact ⟨i + 1, by go_num, by omega, by first | rfl | trivial⟩
              case measure => simp [intOf]; omega
        · go_wp2_with (first
            | (go_at_call 13; refine (count_any K9.out).mono ?_; rintro e7 w7 ⟨rfl, rfl⟩)
            | (go_at_call 8; refine (three_any _).mono ?_; rintro e w8 ⟨rfl, hf8⟩))
          go_ret
          exact ⟨rfl, F5.out.trans hf8⟩
set_option maxRecDepth 100000 in
theorem matrixCloses_lifted (os : Os) (started : os.Started) (H : Type) (enc : TypeId × Value → H) :
    ReturnsInHanded {} Try.checked os 6 .any (Rows.matrixClosesSpec.pre6 enc Try.prog Try.f6 Rows.matrixClosesRow.domain false) (Rows.matrixClosesSpec.post enc Try.prog Try.f6 false true false false) := by
  refine law_of_walk Try.underlying4 started H enc Try.func6 (by kernel_rfl) rfl rfl
    (ChangeSpec.witness6 (enc := enc) (C := Try.checked) false ⟨#[], #[.int .i64 0, .slice none 0 0], []⟩ 8 (by kernel_rfl) (by kernel_rfl) (by kernel_rfl) (by kernel_rfl)) ?_ ?_ ?_
  · intro ds hl
    match ds, hl with
    | [d0, d1], _ => rfl
  · rw [Try.params6]
    simp only [List.mem_cons, List.not_mem_nil, or_false, forall_eq_or_imp, forall_eq]
    exact ⟨⟨by kernel_rfl, of_decide_eq_true (by kernel_rfl)⟩, ⟨by kernel_rfl, of_decide_eq_true (by kernel_rfl)⟩⟩
  · intro W base args ds p hval hA hlt _
    rw [Try.params6] at hA hval
    obtain ⟨v0, vs0, d0, ds0, p0, q0, hargs, rfl, rfl, h0, r0⟩ := trodAll_cons hA
    obtain ⟨v1, vs1, d1, ds1, p1, q1, rfl, rfl, rfl, h1, r1⟩ := trodAll_cons r0
    obtain ⟨rfl, rfl, rfl⟩ := trodAll_nil r1
    obtain rfl : args = #[v0, v1] := by cases args; simp_all
    obtain ⟨a0, rfl, rfl, rfl, w0⟩ := open_int Try.underlying3 (hval 0 3 v0 rfl rfl) h0
    have bd0 := wf_bounds w0
    obtain ⟨A1, c1, xs1, rfl, hl1, hm1, hc1⟩ := open_pairs (hval 1 22 v1 rfl rfl) h1
    have hm1' : xs1.length ≤ 9223372036854775807 := by unfold maxLen at hm1; omega
    by_cases h : 30 < a0 ∨ 200 < xs1.length
    · exact closes_far a0 A1 _ c1 W h hm1'
    · by_cases h0 : a0 < 0
      · exact closes_bad a0 A1 _ c1 W h0 (by omega)
      · obtain ⟨n, rfl⟩ : ∃ n : Nat, a0 = n := ⟨a0.toNat, by omega⟩
        exact closes_near n c1 hc1 (by omega) (by omega)

theorem matrixCloses_holds : Rows.MatrixClosesSaid :=
  OpenClaim.holds_of_wide 6 Try.f6 rfl rfl rfl rfl rfl rfl rfl ⟨rfl, rfl, rfl, rfl, rfl⟩ rfl rfl rfl rfl rfl (by kernel_rfl) Try.func6 (by kernel_rfl)
    (of_decide_eq_true (by kernel_rfl)) (by unfold Func.isWrapper; first | (rw [if_pos (by decide +kernel)]; kernel_rfl) | (rw [if_neg (by decide +kernel)]; exact ⟨rfl, rfl⟩))
    (fun os started H enc _ => matrixCloses_lifted os started H enc)
#print axioms matrixCloses_holds
end Go.Proofs.Ythikjaoffikigaa
