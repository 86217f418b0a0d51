/- MatrixLeast: for every size and all pairs, the closure has all pairs, lies within each other closure that has them, goes on from one to the next, and to close it again changes nothing; no condition. -/
import Derived.Test.YthikjaoffikigaaQ
namespace Go.Proofs.Ythikjaoffikigaa
open Go.RowKit Go.WideShapes Go.ChangeShapes Go.ChangeAt

set_option maxRecDepth 100000 in
set_option maxHeartbeats 600000 in
theorem least_far (i : Int) (A B : Option Addr) (n c m d : Nat) (w : World) (h : i < 0 ∨ 40 < i ∨ 200 < n ∨ 200 < m) (hn : n ≤ 9223372036854775807) (hm : m ≤ 9223372036854775807) : Calls Try.prog 3 #[.int .i64 i, .slice A n c, .slice B m d] w (Truly w) := by
  by_cases h0 : i < 0
  · clear h
    go_enter Try.func3, Try.ntmps3
    go_wp2_with (go_at_call 8; refine (three_any _).mono ?_; rintro e w' ⟨rfl, hf⟩)
    go_ret
    exact ⟨rfl, hf⟩
  by_cases h1 : 40 < i
  · clear h
    go_enter Try.func3, Try.ntmps3
    go_wp2_with (go_at_call 8; refine (three_any _).mono ?_; rintro e w' ⟨rfl, hf⟩)
    go_ret
    exact ⟨rfl, hf⟩
  by_cases h2 : 200 < n
  · clear h
    go_enter Try.func3, Try.ntmps3
    go_wp2_with (go_at_call 8; refine (three_any _).mono ?_; rintro e w' ⟨rfl, hf⟩)
    go_ret
    exact ⟨rfl, hf⟩
  have h3 : 200 < m := by omega
  clear h
  go_enter Try.func3, Try.ntmps3
  go_wp2_with (go_at_call 8; refine (three_any _).mono ?_; rintro e w' ⟨rfl, hf⟩)
  go_ret
  exact ⟨rfl, hf⟩

theorem addR_zero (n : Nat) (l : List (Int × Int)) : addR n l 0 = r0 := rfl
theorem addR_succ (n : Nat) (l : List (Int × Int)) (k : Nat) : addR n l (k + 1) = setR n (addR n l k) (l.getD k (0, 0)).1 (l.getD k (0, 0)).2 := rfl
theorem addO_zero (n : Nat) (l : List (Int × Int)) (r : Nat → Nat → Bool) : addO n l r 0 = r := rfl
theorem addO_succ (n : Nat) (l : List (Int × Int)) (r : Nat → Nat → Bool) (k : Nat) : addO n l r (k + 1) = setR n (addO n l r k) (l.getD k (0, 0)).1 (l.getD k (0, 0)).2 := rfl
theorem r0_is : (fun _ _ => false : Nat → Nat → Bool) = r0 := rfl
theorem war_clo (n : Nat) (r : Nat → Nat → Bool) : war n r n = clo n r := rfl
/-- what is to be known of the two closures -/
structure Least (n : Nat) (l : List (Int × Int)) (R O : Nat → Nat → Bool) : Prop where
  has : ∀ k, k < l.length → ∀ a b : Nat, a < n → b < n → l.getD k (0, 0) = ((a : Int), (b : Int)) → R a b = true
  le : ∀ i j, i < n → j < n → R i j = true → O i j = true
  trans : ∀ i j k, i < n → j < n → k < n → R i j = true → R j k = true → R i k = true
  again : cnt n (clo n R) = cnt n R
theorem least_is (n : Nat) (l more : List (Int × Int)) : Least n l (clo n (addR n l l.length)) (clo n (addO n more (addR n l l.length) more.length)) where
  has := fun k hk a b ha hb e => clo_has ha (addR_has n l hk ha hb e)
  le := fun i j hi _ h => clo_le hi (fun i j h => addO_ge n more _ h _) h
  trans := fun i j k hi hj _ h1 h2 => clo_trans hi hj h1 h2
  again := cnt_congr fun i j hi _ => clo_clo hi
attribute [local irreducible] war clo setR setE hasB cnt sel r0 addR addO
set_option maxRecDepth 100000 in
set_option maxHeartbeats 1000000 in
theorem least_near {w : World} {A B : Option Addr} (n c d : Nat) {l more : List (Int × Int)} (hA : SlS plS w A l) (hB : SlS plS w B more) (hn : n ≤ 40) (hl : l.length ≤ 200) (hl2 : more.length ≤ 200) : Calls Try.prog 3 #[.int .i64 n, .slice A l.length c, .slice B more.length d] w (Truly w) := by
  have HA := Lib.hid hA
  have HB := Lib.hid hB
  have g1 := Lib.hid hA
  clear hA hB
  go_enter Try.func3, Try.ntmps3
  go_wp2_with (first
    | (go_at_call 9; have g := g1; clear g g1; refine (new_ok n (by omega) _).mono ?_; rintro e1 w1 ⟨m1, rfl, hm1, hf1⟩
       rw [r0_is] at hm1
       have K1 := Lib.hid hm1
       have F1 := Lib.hid hf1
       clear hm1 hf1)
    | (go_at_call 9; refine (new_ok n (by omega) _).mono ?_; rintro e2 w2 ⟨m2, rfl, hm2, hf2⟩
       rw [r0_is] at hm2
       have K2 := Lib.hid hm2
       have F2 := Lib.hid hf2
       clear hm2 hf2))
  go_loopw [64] (fun i wr => ∃ k : Nat, i = .int .i64 k ∧ k ≤ l.length ∧ Hid (Mx wr m1 n (addR n l k) w.heap.size w1.heap.size) ∧ Hid (Mx wr m2 n (addR n l k) w1.heap.size w2.heap.size) ∧ Fr No w wr) (fun i _ => l.length - (intOf i).toNat)
  case atStart => exact ⟨0, rfl, by omega, Lib.hid (by rw [addR_zero]; exact K1.out.no F2.out), Lib.hid (by rw [addR_zero]; exact K2.out), F1.out.trans F2.out⟩
  case round =>
    obtain ⟨k, rfl, hk, hM1, hM2, hf⟩ := hrel
    by_cases hlt : k < l.length
    · obtain ⟨ba, off, rfl, hbb, d0, d1⟩ := Pairs_at (HA.out.no hf) hlt
      have S1 := Lib.hid (addR_succ n l k)
      generalize l.getD k (0, 0) = p at *
      have hfA := Lib.hid (hf.alloc (.cells #[.int .i64 p.1, .int .i64 p.2] 29))
      have hal := Lib.hid ((Fr.refl No wr).alloc (.cells #[.int .i64 p.1, .int .i64 p.2] 29))
      have g1 := Lib.hid hM1.out
      have hsz := hM2.out.top
      have hs1 := F1.out.size
      have hs2 := F2.out.size
      go_wp2_with (first
        | (go_at_call 10; have g := g1; clear g g1; refine (set_any (hM1.out.no hal.out) _ _).mono ?_; rintro e3 w3 ⟨rfl, hm3, hf3⟩
           have K3 := Lib.hid hm3
           have K4 := Lib.hid ((hM2.out.no hal.out).far hf3 (.inr (Nat.le_refl _)))
           have F3 := Lib.hid (hfA.out.inn' hf3 (Nat.le_refl _))
           have hbp := (Blk.new wr 29 #[.int .i64 p.1, .int .i64 p.2]).fr hf3 (by unfold In; omega)
           have p0 := hbp.cell 0
           have p1 := hbp.cell 1
           have hgp := hbp.lt
           clear hm3 hf3 hbp)
        | (go_at_call 10; refine (set_any K4.out _ _).mono ?_; rintro e4 w4 ⟨rfl, hm4, hf4⟩
           have K5 := Lib.hid hm4
           have K6 := Lib.hid (K3.out.far hf4 (.inl (Nat.le_refl _)))
           have F4 := Lib.hid (F3.out.inn' hf4 hs1)
           clear hm4 hf4))
      go_roundw
      case rel => exact ⟨k + 1, by go_num, by omega, Lib.hid (by rw [S1.out]; exact K6.out), Lib.hid (by rw [S1.out]; exact K5.out), F4.out⟩
      case measure => simp [intOf]; omega
    · obtain rfl : k = l.length := by omega
      have HL := Lib.hid (least_is n l more)
      have HZ := Lib.hid (addO_zero n more (addR n l l.length))
      have HSC := Lib.hid (addO_succ n more (addR n l l.length))
      generalize addR n l l.length = R at *
      go_wp2
      clear hlt hk
      go_loopw [83] (fun i wr => ∃ k : Nat, i = .int .i64 k ∧ k ≤ more.length ∧ Hid (Mx wr m1 n R w.heap.size w1.heap.size) ∧ Hid (Mx wr m2 n (addO n more R k) w1.heap.size w2.heap.size) ∧ Fr No w wr) (fun i _ => more.length - (intOf i).toNat)
      case atStart => exact ⟨0, rfl, by omega, hM1, Lib.hid (by rw [HZ.out]; exact hM2.out), hf⟩
      case round =>
        clear hM1 hM2 hf
        obtain ⟨k, rfl, hk, hM1, hM2, hf⟩ := hrel
        by_cases hlt : k < more.length
        · obtain ⟨bb, offb, rfl, hbb, d0, d1⟩ := Pairs_at (HB.out.no hf) hlt
          have S1 := Lib.hid (HSC.out k)
          generalize more.getD k (0, 0) = p at *
          have hfA := Lib.hid (hf.alloc (.cells #[.int .i64 p.1, .int .i64 p.2] 29))
          have hal := Lib.hid ((Fr.refl No wr).alloc (.cells #[.int .i64 p.1, .int .i64 p.2] 29))
          have hs1 := F1.out.size
          go_wp2_with (go_at_call 10; refine (set_any (hM2.out.no hal.out) _ _).mono ?_; rintro e3 w3 ⟨rfl, hm3, hf3⟩
                       have K3 := Lib.hid hm3
                       have K4 := Lib.hid ((hM1.out.no hal.out).far hf3 (.inl (Nat.le_refl _)))
                       have F3 := Lib.hid (hfA.out.inn' hf3 hs1)
                       clear hm3 hf3)
          go_roundw
          case rel => exact ⟨k + 1, by go_num, by omega, K4, Lib.hid (by rw [S1.out]; exact K3.out), F3.out⟩
          case measure => simp [intOf]; omega
        · obtain rfl : k = more.length := by omega
          have g1 := Lib.hid hM1.out
          have hs1 := F1.out.size
          clear HZ HSC
          generalize addO n more R more.length = O at *
          go_wp2_with (first
            | (go_at_call 11; have g := g1; clear g g1; refine (close_any hM1.out).mono ?_; rintro e3 w3 ⟨rfl, hm3, hf3⟩
               rw [war_clo] at hm3
               have K3 := Lib.hid hm3
               have K4 := Lib.hid (hM2.out.far hf3 (.inr (Nat.le_refl _)))
               have F3 := Lib.hid (hf.inn' hf3 (Nat.le_refl _))
               clear hm3 hf3)
            | (go_at_call 11; refine (close_any K4.out).mono ?_; rintro e4 w4 ⟨rfl, hm4, hf4⟩
               rw [war_clo] at hm4
               have K5 := Lib.hid hm4
               have K6 := Lib.hid (K3.out.far hf4 (.inl (Nat.le_refl _)))
               have F4 := Lib.hid (F3.out.inn' hf4 hs1)
               clear hm4 hf4))
          generalize clo n R = R' at *
          generalize clo n O = O' at *
          clear hM1 hM2 hf K4 F3 K3
          go_loopw [100] (fun i wr => ∃ k : Nat, i = .int .i64 k ∧ k ≤ l.length ∧ Fr No w4 wr) (fun i _ => l.length - (intOf i).toNat)
          case atStart => exact ⟨0, rfl, by omega, Fr.refl _ _⟩
          case round =>
            obtain ⟨k, rfl, hk, hf⟩ := hrel
            by_cases hlt : k < l.length
            · obtain ⟨ba, off, rfl, hbb, d0, d1⟩ := Pairs_at (HA.out.no (F4.out.trans hf)) hlt
              have HP := Lib.hid (HL.out.has k hlt)
              generalize l.getD k (0, 0) = p at *
              have hal := Lib.hid ((Fr.refl No wr).alloc (.cells #[.int .i64 p.1, .int .i64 p.2] 29))
              have K7 := Lib.hid ((K6.out.no hf).no hal.out)
              have hrel : ∀ {w' : World}, Fr No wr w' → Fr No w4 w' := fun h => hf.trans h
              by_cases h1 : p.1 < 0
              · have h1' : ¬ 0 ≤ p.1 := by omega
                clear h1
                go_wp2
                go_roundw
                case rel => exact ⟨k + 1, by go_num, by omega, hf.trans hal.out⟩
                case measure => simp [intOf]; omega
              by_cases h2 : p.1 < n
              · by_cases h3 : p.2 < 0
                · have h3' : ¬ 0 ≤ p.2 := by omega
                  clear h3
                  go_wp2
                  go_roundw
                  case rel => exact ⟨k + 1, by go_num, by omega, hf.trans hal.out⟩
                  case measure => simp [intOf]; omega
                by_cases h4 : p.2 < n
                · have hh : hasB n R' p.1 p.2 = true := by
                    obtain ⟨a, ha⟩ : ∃ a : Nat, p.1 = a := ⟨p.1.toNat, by omega⟩
                    obtain ⟨b, hb⟩ : ∃ b : Nat, p.2 = b := ⟨p.2.toNat, by omega⟩
                    have e := HP.out a b (by omega) (by omega) (Prod.ext ha hb)
                    rw [ha, hb, hasB_nat (by omega) (by omega), e]
                  have HH := Lib.hid hh
                  clear hh
                  go_wp2_with (go_at_call 12; refine (has_any K7.out _ _).mono ?_; rintro e7 w7 ⟨rfl, rfl⟩; rw [HH.out])
                  go_roundw
                  case rel => exact ⟨k + 1, by go_num, by omega, hf.trans hal.out⟩
                  case measure => simp [intOf]; omega
                · go_wp2
                  go_roundw
                  case rel => exact ⟨k + 1, by go_num, by omega, hf.trans hal.out⟩
                  case measure => simp [intOf]; omega
              · go_wp2
                go_roundw
                case rel => exact ⟨k + 1, by go_num, by omega, hf.trans hal.out⟩
                case measure => simp [intOf]; omega
            · have K1' := Lib.hid (K6.out.no hf)
              have K2' := Lib.hid (K5.out.no hf)
              go_wp2
              clear hlt hk
              go_loopw [17] (fun i wr' => ∃ k : Nat, i = .int .i64 k ∧ k ≤ n ∧ wr' = wr) (fun i _ => n - (intOf i).toNat)
              case atStart => exact ⟨0, rfl, by omega, rfl⟩
              case round =>
                obtain ⟨i, rfl, hi, rfl⟩ := hrel
                by_cases hli : i < n
                · go_wp2
                  go_loopw [18] (fun j wr' => ∃ k : Nat, j = .int .i64 k ∧ k ≤ n ∧ wr' = wr) (fun j _ => n - (intOf j).toNat)
                  case atStart => exact ⟨0, rfl, by omega, rfl⟩
                  case round =>
                    obtain ⟨j, rfl, hj, rfl⟩ := hrel
                    by_cases hlj : j < n
                    · have e1 := hasB_nat (r := R') hli hlj
                      have e2 := hasB_nat (r := O') hli hlj
                      have hle := HL.out.le i j hli hlj
                      cases hR : R' i j
                      · rw [hR] at e1
                        have E1 := Lib.hid e1
                        have HR := Lib.hid hR
                        clear e1 e2 hle hR
                        go_wp2_with (go_at_call 12; refine (has_any K1'.out _ _).mono ?_; rintro e7 w7 ⟨rfl, rfl⟩; rw [E1.out])
                        go_loopw [19] (fun j wr' => ∃ k : Nat, j = .int .i64 k ∧ k ≤ n ∧ wr' = wr) (fun j _ => n - (intOf j).toNat)
                        case atStart => exact ⟨0, rfl, by omega, rfl⟩
                        case round =>
                          obtain ⟨q, rfl, hq, rfl⟩ := hrel
                          by_cases hlq : q < n
                          · go_wp2_with (go_at_call 12; refine (has_any K1'.out _ _).mono ?_; rintro e7 w7 ⟨rfl, rfl⟩; rw [E1.out])
                            go_roundw
                            case rel => exact ⟨q + 1, by go_num, by omega, by first | rfl | trivial⟩
                            case measure => simp [intOf]; omega
                          · go_wp2
                            go_roundw
                            case rel => exact ⟨j + 1, by go_num, by omega, by first | rfl | trivial⟩
                            case measure => simp [intOf]; omega
                      · rw [hR] at e1
                        rw [hle hR] at e2
                        have E1 := Lib.hid e1
                        have E2 := Lib.hid e2
                        have HR := Lib.hid hR
                        clear e1 e2 hle hR
                        have g1 := Lib.hid K1'.out
                        go_wp2_with (first
                          | (go_at_call 12; have g := g1; clear g g1; refine (has_any K1'.out _ _).mono ?_; rintro e7 w7 ⟨rfl, rfl⟩; rw [E1.out])
                          | (go_at_call 12; refine (has_any K2'.out _ _).mono ?_; rintro e7 w7 ⟨rfl, rfl⟩; rw [E2.out]))
                        go_loopw [19] (fun j wr' => ∃ k : Nat, j = .int .i64 k ∧ k ≤ n ∧ wr' = wr) (fun j _ => n - (intOf j).toNat)
                        case atStart => exact ⟨0, rfl, by omega, rfl⟩
                        case round =>
                          obtain ⟨q, rfl, hq, rfl⟩ := hrel
                          by_cases hlq : q < n
                          · have e3 := hasB_nat (r := R') hlj hlq
                            have e4 := hasB_nat (r := R') hli hlq
                            have htr := HL.out.trans i j q hli hlj hlq HR.out
                            have g1 := Lib.hid K1'.out
                            have g2 := Lib.hid K1'.out
                            cases hR2 : R' j q
                            · rw [hR2] at e3
                              have E3 := Lib.hid e3
                              clear e3 e4 htr hR2
                              go_wp2_with (first
                                | (go_at_call 12; have g := g1; clear g g1; refine (has_any K1'.out _ _).mono ?_; rintro e7 w7 ⟨rfl, rfl⟩; rw [E1.out])
                                | (go_at_call 12; refine (has_any K1'.out _ _).mono ?_; rintro e7 w7 ⟨rfl, rfl⟩; rw [E3.out]))
                              go_roundw
                              case rel => exact ⟨q + 1, by go_num, by omega, by first | rfl | trivial⟩
                              case measure => simp [intOf]; omega
                            · rw [hR2] at e3
                              rw [htr hR2] at e4
                              have E3 := Lib.hid e3
                              have E4 := Lib.hid e4
                              clear e3 e4 htr hR2
                              go_wp2_with (first
                                | (go_at_call 12; have g := g1; clear g g1; refine (has_any K1'.out _ _).mono ?_; rintro e7 w7 ⟨rfl, rfl⟩; rw [E1.out])
                                | (go_at_call 12; have g := g2; clear g g2; refine (has_any K1'.out _ _).mono ?_; rintro e7 w7 ⟨rfl, rfl⟩; rw [E3.out])
                                | (go_at_call 12; refine (has_any K1'.out _ _).mono ?_; rintro e7 w7 ⟨rfl, rfl⟩; rw [E4.out]))
                              go_roundw
                              case rel => exact ⟨q + 1, by go_num, by omega, by first | rfl | trivial⟩
                              case measure => simp [intOf]; omega
                          · go_wp2
                            go_roundw
                            case rel => exact ⟨j + 1, by go_num, by omega, by first | rfl | trivial⟩
                            case measure => simp [intOf]; omega
                    · go_wp2
                      go_roundw
                      case rel => exact ⟨i + 1, by go_num, by omega, by first | rfl | trivial⟩
                      case measure => simp [intOf]; omega
                · have HN := Lib.hid HL.out.again
                  have g1 := Lib.hid K1'.out
                  go_wp2_with (first
                    | (go_at_call 13; have g := g1; clear g g1; refine (count_any K1'.out).mono ?_; rintro e7 w7 ⟨rfl, rfl⟩)
                    | (go_at_call 11; refine (close_any K1'.out).mono ?_; rintro e4 w5 ⟨rfl, hm4, hf4⟩
                       rw [war_clo] at hm4
                       have K8 := Lib.hid hm4
                       have F5 := Lib.hid ((F4.out.trans hf).inn' hf4 (Nat.le_refl _))
                       clear hm4 hf4)
                    | (go_at_call 13; refine (count_any K8.out).mono ?_; rintro e7 w7 ⟨rfl, rfl⟩; rw [HN.out])
                    | (go_at_call 8; refine (three_any _).mono ?_; rintro e w8 ⟨rfl, hf8⟩))
                  go_ret
                  exact ⟨rfl, F5.out.trans hf8⟩
set_option maxRecDepth 100000 in
theorem matrixLeast_lifted (os : Os) (started : os.Started) (H : Type) (enc : TypeId × Value → H) :
    ReturnsInHanded {} Try.checked os 3 .any (Rows.matrixLeastSpec.pre6 enc Try.prog Try.f3 Rows.matrixLeastRow.domain false) (Rows.matrixLeastSpec.post enc Try.prog Try.f3 false true false false) := by
  refine law_of_walk Try.underlying4 started H enc Try.func3 (by kernel_rfl) rfl rfl
    (ChangeSpec.witness6 (enc := enc) (C := Try.checked) false ⟨#[], #[.int .i64 0, .slice none 0 0, .slice none 0 0], []⟩ 8 (by kernel_rfl) (by kernel_rfl) (by kernel_rfl) (by kernel_rfl)) ?_ ?_ ?_
  · intro ds hl
    match ds, hl with
    | [d0, d1, d2], _ => rfl
  · rw [Try.params3]
    simp only [List.mem_cons, List.not_mem_nil, or_false, forall_eq_or_imp, forall_eq]
    exact ⟨⟨by kernel_rfl, of_decide_eq_true (by kernel_rfl)⟩, ⟨by kernel_rfl, of_decide_eq_true (by kernel_rfl)⟩, ⟨by kernel_rfl, of_decide_eq_true (by kernel_rfl)⟩⟩
  · intro W base args ds p hval hA hlt _
    rw [Try.params3] at hA hval
    obtain ⟨v0, vs0, d0, ds0, p0, q0, hargs, rfl, rfl, h0, r0⟩ := trodAll_cons hA
    obtain ⟨v1, vs1, d1, ds1, p1, q1, rfl, rfl, rfl, h1, r1⟩ := trodAll_cons r0
    obtain ⟨v2, vs2, d2, ds2, p2, q2, rfl, rfl, rfl, h2, r2⟩ := trodAll_cons r1
    obtain ⟨rfl, rfl, rfl⟩ := trodAll_nil r2
    obtain rfl : args = #[v0, v1, v2] := by cases args; simp_all
    obtain ⟨a0, rfl, rfl, rfl, w0⟩ := open_int Try.underlying3 (hval 0 3 v0 rfl rfl) h0
    have bd0 := wf_bounds w0
    obtain ⟨A1, c1, xs1, rfl, hl1, hm1, hc1⟩ := open_pairs (hval 1 22 v1 rfl rfl) h1
    obtain ⟨A2, c2, xs2, rfl, hl2, hm2, hc2⟩ := open_pairs (hval 2 22 v2 rfl rfl) h2
    have hm1' : xs1.length ≤ 9223372036854775807 := by unfold maxLen at hm1; omega
    have hm2' : xs2.length ≤ 9223372036854775807 := by unfold maxLen at hm2; omega
    by_cases h : a0 < 0 ∨ 40 < a0 ∨ 200 < xs1.length ∨ 200 < xs2.length
    · exact least_far a0 A1 A2 _ c1 _ c2 W h hm1' hm2'
    · obtain ⟨n, rfl⟩ : ∃ n : Nat, a0 = n := ⟨a0.toNat, by omega⟩
      exact least_near n c1 c2 hc1 hc2 (by omega) (by omega) (by omega)

theorem matrixLeast_holds : Rows.MatrixLeastSaid :=
  OpenClaim.holds_of_wide 3 Try.f3 rfl rfl rfl rfl rfl rfl rfl ⟨rfl, rfl, rfl, rfl, rfl⟩ rfl rfl rfl rfl rfl (by kernel_rfl) Try.func3 (by kernel_rfl)
    (of_decide_eq_true (by kernel_rfl)) (by unfold Func.isWrapper; first | (rw [if_pos (by decide +kernel)]; kernel_rfl) | (rw [if_neg (by decide +kernel)]; exact ⟨rfl, rfl⟩))
    (fun os started H enc _ => matrixLeast_lifted os started H enc)
#print axioms matrixLeast_holds
end Go.Proofs.Ythikjaoffikigaa
