/- MatrixSets: for every size, all pairs and every number, the matrix and the document's one agree pair by pair, in rows, columns, loops and in how many pairs there are; no condition. -/
import Derived.Test.YthikjaoffikigaaU
namespace Go.Proofs.Ythikjaoffikigaa
open Go.RowKit Go.WideShapes Go.ChangeShapes Go.ChangeAt

set_option maxRecDepth 100000 in
set_option maxHeartbeats 600000 in
theorem sets_far (i k : Int) (A : Option Addr) (n c : Nat) (w : World) (h : (200 < i ∧ i ≤ 1024) ∨ 400 < n) (hn : n ≤ 9223372036854775807) : Calls Try.prog 5 #[.int .i64 i, .slice A n c, .int .i64 k] w (Truly w) := by
  by_cases h0 : 200 < i
  · by_cases h1 : i ≤ 1024
    · clear h
      go_enter Try.func5, Try.ntmps5
      go_wp2_with (go_at_call 8; refine (three_any _).mono ?_; rintro e w' ⟨rfl, hf⟩)
      go_ret
      exact ⟨rfl, hf⟩
    · have h2 : 400 < n := by omega
      clear h
      go_enter Try.func5, Try.ntmps5
      go_wp2_with (go_at_call 8; refine (three_any _).mono ?_; rintro e w' ⟨rfl, hf⟩)
      go_ret
      exact ⟨rfl, hf⟩
  · have h2 : 400 < n := by omega
    clear h
    go_enter Try.func5, Try.ntmps5
    go_wp2_with (go_at_call 8; refine (three_any _).mono ?_; rintro e w' ⟨rfl, hf⟩)
    go_ret
    exact ⟨rfl, hf⟩
set_option maxRecDepth 100000 in
set_option maxHeartbeats 600000 in
theorem sets_bad (i k : Int) (A : Option Addr) (n c : Nat) (w : World) (h : i < 0 ∨ 1024 < i) (hn : n ≤ 400) : Calls Try.prog 5 #[.int .i64 i, .slice A n c, .int .i64 k] w (Truly w) := by
  have H := Lib.hid h
  have h1 : i ≤ 200 ∨ 1024 < i := by omega
  clear h
  rcases h1 with h1 | h1
  · go_enter Try.func5, Try.ntmps5
    go_wp2_with (first
      | (go_at_call 9; refine (new_bad _ H.out _).mono ?_; rintro e w' ⟨rfl, rfl⟩)
      | (go_at_call 14; refine (rnew_bad _ H.out _).mono ?_; rintro e w' ⟨rfl, rfl⟩)
      | (go_at_call 8; refine (three_any _).mono ?_; rintro e w' ⟨rfl, hf⟩))
    go_ret
    exact ⟨rfl, hf⟩
  · go_enter Try.func5, Try.ntmps5
    go_wp2_with (first
      | (go_at_call 9; refine (new_bad _ H.out _).mono ?_; rintro e w' ⟨rfl, rfl⟩)
      | (go_at_call 14; refine (rnew_bad _ H.out _).mono ?_; rintro e w' ⟨rfl, rfl⟩)
      | (go_at_call 8; refine (three_any _).mono ?_; rintro e w' ⟨rfl, hf⟩))
    go_ret
    exact ⟨rfl, hf⟩

/-- no two rows are one -/
def Sep (a b : Value) : Prop := ∀ x, a.ownBlock = some x → b.ownBlock ≠ some x
theorem Sep.symm {a b : Value} (h : Sep a b) : Sep b a := fun x hx e => h x e hx
theorem Own.far {E B : Nat} {w w' : World} {v : Value} {xs : List Int} {row : Option Nat} (h : Own E B w v xs) (hg : w.grownBy w' row) (hn : ∀ b, v.ownBlock = some b → row ≠ some b) : Own E B w' v xs :=
  h.fr ((Fr.refl (fun k => row = some k) w).grown hg (fun _ hk _ => hk)) fun k hk e => hn k hk e
/-- three rows of the call's own -/
structure OwnT (B : Nat) (w : World) (a b c : Value) (x y z : List Int) : Prop where
  oa : Own 3 B w a x
  ob : Own 3 B w b y
  oc : Own 3 B w c z
  ab : Sep a b
  ac : Sep a c
  bc : Sep b c
theorem OwnT.turn {B : Nat} {w : World} {a b c : Value} {x y z : List Int} (h : OwnT B w a b c x y z) : OwnT B w b c a y z x := ⟨h.ob, h.oc, h.oa, h.bc, h.ab.symm, h.ac.symm⟩
theorem OwnT.push {B : Nat} {w w' : World} {a b c v' : Value} {x y z x' : List Int} (h : OwnT B w a b c x y z) (o : Obj) (hap : Apd 3 B (w.alloc o) a x' v' w') : OwnT B w' v' b c x' y z := by
  have key : ∀ {d : Value} {q : List Int}, Own 3 B w d q → Sep a d → Own 3 B w' d q ∧ Sep v' d := fun {d q} hd hs => by
    refine ⟨(hd.alloc o).far hap.2.1 (fun t ht e => hs t e ht), fun t ht e => ?_⟩
    rcases hap.2.2 with h1 | h1
    · exact hs t (h1.symm.trans ht) e
    · have h2 := h1.symm.trans ht
      have := (hd.lt t e).2
      simp at h2
      omega
  exact ⟨hap.1, (key h.ob h.ab).1, (key h.oc h.ac).1, (key h.ob h.ab).2, (key h.oc h.ac).2, h.bc⟩
theorem OwnT.no {B : Nat} {w w' : World} {a b c : Value} {x y z : List Int} (h : OwnT B w a b c x y z) (hf : Fr No w w') : OwnT B w' a b c x y z :=
  ⟨h.oa.fr hf (fun _ _ h => h), h.ob.fr hf (fun _ _ h => h), h.oc.fr hf (fun _ _ h => h), h.ab, h.ac, h.bc⟩
theorem sn_succ (f : Nat → Nat) (k : Nat) : sn f (k + 1) = sn f k + f k := rfl
theorem sn_nil (f : Nat → Nat) : sn f 0 = 0 := rfl
theorem sel_nil (p : Nat → Bool) : sel p 0 = [] := rfl
theorem rowC_is (n : Nat) (r : Nat → Nat → Bool) (i : Nat) : sn (fun j => one (r i j)) n = rowC n r i := rfl
theorem cnt_is (n : Nat) (r : Nat → Nat → Bool) : sn (rowC n r) n = cnt n r := rfl
theorem pr_le (r : Nat → Nat → Bool) (i j : Nat) : sn (fun x => one (r i x)) j ≤ j := by
  have := sn_le (f := fun x => one (r i x)) (n := j) (c := 1) (fun k _ => one_le _)
  omega
theorem addR_zero (n : Nat) (l : List (Int × Int)) : addR n l 0 = r0 := rfl
theorem addR_succ (n : Nat) (l : List (Int × Int)) (k : Nat) : addR n l (k + 1) = setR n (addR n l k) (l.getD k (0, 0)).1 (l.getD k (0, 0)).2 := rfl
theorem r0_is : (fun _ _ => false : Nat → Nat → Bool) = r0 := rfl
attribute [local irreducible] war clo setR setE hasB cnt sel r0 addR addT sn rowC
set_option maxRecDepth 100000 in
set_option maxHeartbeats 600000 in
theorem sets_near {w : World} {A : Option Addr} (n c : Nat) (i : Int) {l : List (Int × Int)} (hA : SlS plS w A l) (hn : n ≤ 200) (hl : l.length ≤ 400) : Calls Try.prog 5 #[.int .i64 n, .slice A l.length c, .int .i64 i] w (Truly w) := by
  have HA := Lib.hid hA
  clear hA
  go_enter Try.func5, Try.ntmps5
  go_wp2_with (first
    | (go_at_call 9; refine (new_ok n (by omega) _).mono ?_; rintro e1 w1 ⟨m1, rfl, hm1, hf1⟩
       rw [r0_is] at hm1
       have K1 := Lib.hid hm1
       have F1 := Lib.hid hf1
       clear hm1 hf1)
    | (go_at_call 14; refine (rnew_ok n (by omega) _).mono ?_; rintro e2 w2 ⟨m2, rfl, hm2, hf2⟩
       rw [r0_is] at hm2
       have K2 := Lib.hid hm2
       have F2 := Lib.hid hf2
       clear hm2 hf2))
  go_loopw [56] (fun i wr => ∃ k : Nat, i = .int .i64 k ∧ k ≤ l.length ∧ Hid (Mx wr m1 n (addR n l k) w.heap.size w1.heap.size) ∧ Hid (Rx wr m2 n (addR n l k) w1.heap.size w2.heap.size) ∧ Fr No w wr) (fun i _ => l.length - (intOf i).toNat)
  case atStart => exact ⟨0, rfl, by omega, Lib.hid (by rw [addR_zero]; exact K1.out.no F2.out), Lib.hid (by rw [addR_zero]; exact K2.out), F1.out.trans F2.out⟩
  case round =>
    obtain ⟨k, rfl, hk, hM1, hM2, hf⟩ := hrel
    by_cases hlt : k < l.length
    · obtain ⟨ba, off, rfl, hbb, d0, d1⟩ := Pairs_at (HA.out.no hf) hlt
      have S1 := Lib.hid (addR_succ n l k)
      generalize l.getD k (0, 0) = p at *
      have hfA := Lib.hid (hf.alloc (.cells #[.int .i64 p.1, .int .i64 p.2] 29))
      have hal := Lib.hid ((Fr.refl No wr).alloc (.cells #[.int .i64 p.1, .int .i64 p.2] 29))
      have hsz := hM2.out.top
      have hs1 := F1.out.size
      have hs2 := F2.out.size
      have hbp0 := Lib.hid (Blk.new wr 29 #[.int .i64 p.1, .int .i64 p.2])
      go_wp2
      go_region_held3 (fun w' => w'.cell? ⟨wr.heap.size, 0, none⟩ = some (.int .i64 p.1) ∧ w'.cell? ⟨wr.heap.size, 1, none⟩ = some (.int .i64 p.2)) (first | assumption | go_keep | exact ⟨hbp4.cell 0, hbp4.cell 1⟩ | exact ⟨hbp3.cell 0, hbp3.cell 1⟩)
        (first
          | (go_at_call 10; refine (set_any (hM1.out.no hal.out.drew) _ _).mono ?_; rintro e3 w3 ⟨rfl, hm3, hf3⟩
             have K3 := Lib.hid hm3
             have K4 := Lib.hid ((hM2.out.no hal.out.drew).far hf3 (.inr (Nat.le_refl _)))
             have F3 := Lib.hid (hfA.out.drew.inn' hf3 (Nat.le_refl _))
             have hbp3 := hbp0.out.drew.fr hf3 (by unfold In; omega))
          | (go_at_call 15; refine (rset_any K4.out _ _).mono ?_; rintro e4 w4 ⟨rfl, hm4, hf4⟩
             have K5 := Lib.hid hm4
             have K6 := Lib.hid (K3.out.far hf4 (.inl (Nat.le_refl _)))
             have F4 := Lib.hid (F3.out.inn' hf4 hs1)
             have hbp4 := hbp3.fr hf4 (by unfold In; omega))
          | (go_at_call 12; refine (has_any K6.out _ _).mono ?_; rintro e7 w7 ⟨rfl, rfl⟩)
          | (go_at_call 16; refine (rhas_any K5.out _ _).mono ?_; rintro e7 w7 ⟨rfl, rfl⟩))
      all_goals go_wp2
      all_goals
        go_roundw
        case rel => exact ⟨k + 1, by go_num, by omega, Lib.hid (by rw [S1.out]; exact K6.out), Lib.hid (by rw [S1.out]; exact K5.out), F4.out⟩
        case measure => simp [intOf]; omega
    · obtain rfl : k = l.length := by omega
      generalize addR n l l.length = R at *
      rename World => wE
      have g0 := Lib.hid hf
      have M1 := Lib.hid hM1.out
      have M2 := Lib.hid hM2.out
      clear hM1 hM2 K1 K2
      go_wp2
      clear hlt hk hf
      go_loopw [13, 14, 15, 16, 17] (fun v1 v2 v3 s i' wx => ∃ (k : Nat), s = .int .i64 (sn (rowC n R) k : Nat) ∧ i' = .int .i64 k ∧ k ≤ n ∧ Hid (OwnT wE.heap.size wx v1 v2 v3 (sel (fun j => hasB n R i j) k) (sel (fun j => hasB n R j i) k) (sel (fun j => hasB n R j j) k)) ∧ Fr No wE wx) (fun _ _ _ _ i' _ => n - (intOf i').toNat)
      case atStart => exact ⟨0, by rw [sn_nil]; rfl, rfl, by omega, Lib.hid (by rw [sel_nil, sel_nil, sel_nil]; exact ⟨Own.nil _ _ _, Own.nil _ _ _, Own.nil _ _ _, fun x h => by simp [Value.ownBlock] at h, fun x h => by simp [Value.ownBlock] at h, fun x h => by simp [Value.ownBlock] at h⟩), Fr.refl _ _⟩
      case round =>
        obtain ⟨k, rfl, rfl, hk, h3, hf⟩ := hrel
        have hle := rows_le n (by omega) R k
        have hll := hf.size
        by_cases hlt : k < n
        · have hl1 := sel_len (fun j => hasB n R i j) k
          have hl2 := sel_len (fun j => hasB n R j i) k
          have hl3 := sel_len (fun j => hasB n R j j) k
          have KL := Lib.hid (show k < 1000000000 by omega)
          have L1 := Lib.hid hl1
          have L2 := Lib.hid hl2
          have L3 := Lib.hid hl3
          clear hl1 hl2 hl3
          go_upto_if 97 with (go_at_call 16; refine (rhas_any (M2.out.no hf) _ _).mono ?_; rintro e7 w7 ⟨rfl, rfl⟩)
          go_cut [13] (fun v wx => Hid (OwnT wE.heap.size wx v u14 u15 (sel (fun j => hasB n R i j) (k + 1)) (sel (fun j => hasB n R j i) k) (sel (fun j => hasB n R j j) k)) ∧ Fr No wE wx)
          case first =>
            cases hp : hasB n R i k
            · have HS := Lib.hid (sel_no (p := fun j => hasB n R i j) hp)
              clear hp
              go_wp2_with fail
              go_meet
              case rel => exact ⟨Lib.hid (by rw [HS.out]; exact h3.out), hf⟩
            · have HS := Lib.hid (sel_yes (p := fun j => hasB n R i j) hp)
              clear hp
              go_wp2_with (at_builtin; go_must (refine wpList_push1 int39 rfl (.tmp 98) (.tmp 100) rfl wE.heap.size u13 (sel (fun j => hasB n R i j) k) (k : Int) rfl (h3.out.oa.alloc _) ⟨wr.heap.size, 0, none⟩ 1 rfl (by simp) (Nat.lt_of_le_of_lt L1.out KL.out) (hf.alloc _).size ?_); intro v' w3 hap)
              go_meet
              case rel => exact ⟨Lib.hid (by rw [HS.out]; exact h3.out.push _ hap), hap.fr (hf.alloc _) h3.out.oa (Nat.le_refl _)⟩
          case rest =>
            clear h3 hf hll
            obtain ⟨h3, hf⟩ := hcut
            have hll := hf.size
            go_upto_if 105 with (go_at_call 16; refine (rhas_any (M2.out.no hf) _ _).mono ?_; rintro e7 w7 ⟨rfl, rfl⟩)
            go_cut [14] (fun v wx => Hid (OwnT wE.heap.size wx u13 v u15 (sel (fun j => hasB n R i j) (k + 1)) (sel (fun j => hasB n R j i) (k + 1)) (sel (fun j => hasB n R j j) k)) ∧ Fr No wE wx)
            case first =>
              cases hp : hasB n R k i
              · have HS := Lib.hid (sel_no (p := fun j => hasB n R j i) hp)
                clear hp
                go_wp2_with fail
                go_meet
                case rel => exact ⟨Lib.hid (by rw [HS.out]; exact h3.out), hf⟩
              · have HS := Lib.hid (sel_yes (p := fun j => hasB n R j i) hp)
                clear hp
                go_wp2_with (at_builtin; go_must (refine wpList_push1 int39 rfl (.tmp 106) (.tmp 108) rfl wE.heap.size u14 (sel (fun j => hasB n R j i) k) (k : Int) rfl (h3.out.ob.alloc _) ⟨wc.heap.size, 0, none⟩ 1 rfl (by simp) (Nat.lt_of_le_of_lt L2.out KL.out) (hf.alloc _).size ?_); intro v' w3 hap)
                go_meet
                case rel => exact ⟨Lib.hid (by rw [HS.out]; exact (h3.out.turn.push _ hap).turn.turn), hap.fr (hf.alloc _) h3.out.ob (Nat.le_refl _)⟩
            case rest =>
              clear h3 hf hll
              obtain ⟨h3, hf⟩ := hcut
              have hll := hf.size
              go_upto_if 113 with (go_at_call 16; refine (rhas_any (M2.out.no hf) _ _).mono ?_; rintro e7 w7 ⟨rfl, rfl⟩)
              go_cut [15] (fun v wx => Hid (OwnT wE.heap.size wx u13 u14 v (sel (fun j => hasB n R i j) (k + 1)) (sel (fun j => hasB n R j i) (k + 1)) (sel (fun j => hasB n R j j) (k + 1))) ∧ Fr No wE wx)
              case first =>
                cases hp : hasB n R k k
                · have HS := Lib.hid (sel_no (p := fun j => hasB n R j j) hp)
                  clear hp
                  go_wp2_with fail
                  go_meet
                  case rel => exact ⟨Lib.hid (by rw [HS.out]; exact h3.out), hf⟩
                · have HS := Lib.hid (sel_yes (p := fun j => hasB n R j j) hp)
                  clear hp
                  go_wp2_with (at_builtin; go_must (refine wpList_push1 int39 rfl (.tmp 114) (.tmp 116) rfl wE.heap.size u15 (sel (fun j => hasB n R j j) k) (k : Int) rfl (h3.out.oc.alloc _) ⟨wc.heap.size, 0, none⟩ 1 rfl (by simp) (Nat.lt_of_le_of_lt L3.out KL.out) (hf.alloc _).size ?_); intro v' w3 hap)
                  go_meet
                  case rel => exact ⟨Lib.hid (by rw [HS.out]; exact (h3.out.turn.turn.push _ hap).turn), hap.fr (hf.alloc _) h3.out.oc (Nat.le_refl _)⟩
              case rest =>
                clear h3 hf hll
                obtain ⟨h3, hf⟩ := hcut
                have HZ := Lib.hid (show sn (rowC n R) k + sn (fun x => one (R k x)) 0 = sn (rowC n R) k by rw [sn_nil, Nat.add_zero])
                go_wp2
                go_loopw [16, 18] (fun s j' wx => ∃ j : Nat, s = .int .i64 (sn (rowC n R) k + sn (fun x => one (R k x)) j : Nat) ∧ j' = .int .i64 j ∧ j ≤ n ∧ wx = wc) (fun _ j' _ => n - (intOf j').toNat)
                case atStart => exact ⟨0, by rw [HZ.out], rfl, by omega, rfl⟩
                case round =>
                  obtain ⟨j, rfl, rfl, hj, rfl⟩ := hrel
                  have hpl := pr_le R k j
                  by_cases hlj : j < n
                  · have hsu := Lib.hid (sn_succ (fun x => one (R k x)) j)
                    have hb := hasB_nat (r := R) hlt hlj
                    cases hR : R k j
                    · rw [hR] at hb
                      have HBB := Lib.hid hb
                      have H1 := Lib.hid (show one (R k j) = 0 by rw [hR]; rfl)
                      clear hb hR
                      go_wp2_with (go_at_call 16; refine (rhas_any (M2.out.no hf) _ _).mono ?_; rintro e7 w7 ⟨rfl, rfl⟩; rw [HBB.out])
                      go_roundw
                      case rel => exact ⟨j + 1, by rw [hsu.out, H1.out, Nat.add_zero]; first | rfl | exact congrArg (Value.int .i64) (Int.natCast_add _ _).symm, by go_num, by omega, by first | rfl | trivial⟩
                      case measure => simp [intOf]; omega
                    · rw [hR] at hb
                      have HBB := Lib.hid hb
                      have H1 := Lib.hid (show one (R k j) = 1 by rw [hR]; rfl)
                      clear hb hR
                      go_wp2_with (go_at_call 16; refine (rhas_any (M2.out.no hf) _ _).mono ?_; rintro e7 w7 ⟨rfl, rfl⟩; rw [HBB.out])
                      go_roundw
                      case rel => exact ⟨j + 1, by rw [hsu.out, H1.out, ← Nat.add_assoc]; go_num, by go_num, by omega, by first | rfl | trivial⟩
                      case measure => simp [intOf]; omega
                  · obtain rfl : j = n := by omega
                    have HRC := Lib.hid (show sn (rowC j R) k + sn (fun x => one (R k x)) j = sn (rowC j R) (k + 1) by rw [rowC_is, sn_succ])
                    go_wp2
                    go_roundw
                    case rel => exact ⟨k + 1, by rw [HRC.out], by go_num, by omega, h3, hf⟩
                    case measure => simp [intOf]; omega
        · obtain rfl : k = n := by omega
          have HCN := Lib.hid (cnt_is k R)
          obtain ⟨A1, c1, e1, I1, _⟩ := h3.out.oa.form
          obtain ⟨A2, c2, e2, I2, _⟩ := h3.out.ob.form
          obtain ⟨A3, c3, e3, I3, _⟩ := h3.out.oc.form
          subst e1 e2 e3
          have l1 := sel_len (fun j => hasB k R i j) k
          have l2 := sel_len (fun j => hasB k R j i) k
          have l3 := sel_len (fun j => hasB k R j j) k
          have J1 := Lib.hid I1
          have J2 := Lib.hid I2
          have J3 := Lib.hid I3
          have g1 := Lib.hid I1
          have g2 := Lib.hid I1
          have L1 := Lib.hid (show (sel (fun j => hasB k R i j) k).length ≤ 9223372036854775807 by omega)
          have L2 := Lib.hid (show (sel (fun j => hasB k R j i) k).length ≤ 9223372036854775807 by omega)
          have L3 := Lib.hid (show (sel (fun j => hasB k R j j) k).length ≤ 9223372036854775807 by omega)
          clear I1 I2 I3 l1 l2 l3
          rw [HCN.out]
          go_wp2_with (first
            | (go_at_call 18; refine (row_any (M1.out.no hf) i).mono ?_; rintro e1 w3 ⟨v, rfl, ho, hf3⟩
               obtain ⟨B1, d1, rfl, q1, _⟩ := ho.form
               have P1 := Lib.hid q1
               have FB1 := Lib.hid hf3
               clear ho q1 hf3)
            | (go_at_call 17; have g := g1; clear g g1; refine (ints_len _ _ _ _ _ _ (sel (fun j => hasB k R i j) k) (sel (fun j => hasB k R i j) k) _ P1.out (J1.out.fr FB1.out (fun _ _ h => h)) rfl rfl L1.out L1.out).mono ?_; rintro e2 w4 ⟨rfl, n1, rfl⟩
               rw [decide_eq_true rfl]
               have FB2 := Lib.hid (FB1.out.drewN n1))
            | (go_at_call 19; refine (column_any ((M1.out.no hf).no FB2.out) i).mono ?_; rintro e1 w5 ⟨v, rfl, ho, hf5⟩
               obtain ⟨B2, d2, rfl, q2, _⟩ := ho.form
               have P2 := Lib.hid q2
               have FB3 := Lib.hid (FB2.out.trans hf5)
               clear ho q2 hf5)
            | (go_at_call 17; have g := g2; clear g g2; refine (ints_len _ _ _ _ _ _ (sel (fun j => hasB k R j i) k) (sel (fun j => hasB k R j i) k) _ P2.out (J2.out.fr FB3.out (fun _ _ h => h)) rfl rfl L2.out L2.out).mono ?_; rintro e2 w6 ⟨rfl, n2, rfl⟩
               rw [decide_eq_true rfl]
               have FB4 := Lib.hid (FB3.out.drewN n2))
            | (go_at_call 20; refine (loops_any ((M1.out.no hf).no FB4.out)).mono ?_; rintro e1 w7 ⟨v, rfl, ho, hf7⟩
               obtain ⟨B3, d3, rfl, q3, _⟩ := ho.form
               have P3 := Lib.hid q3
               have FB5 := Lib.hid (FB4.out.trans hf7)
               clear ho q3 hf7)
            | (go_at_call 17; refine (ints_len _ _ _ _ _ _ (sel (fun j => hasB k R j j) k) (sel (fun j => hasB k R j j) k) _ P3.out (J3.out.fr FB5.out (fun _ _ h => h)) rfl rfl L3.out L3.out).mono ?_; rintro e2 w8 ⟨rfl, n3, rfl⟩
               rw [decide_eq_true rfl]
               have FB6 := Lib.hid (FB5.out.drewN n3))
            | (go_at_call 13; refine (count_any ((M1.out.no hf).no FB6.out)).mono ?_; rintro e9 w9 ⟨rfl, rfl⟩)
            | (go_at_call 21; refine (size_any ((M1.out.no hf).no FB6.out)).mono ?_; rintro e9 w9 ⟨rfl, rfl⟩)
            | (go_at_call 8; refine (three_any _).mono ?_; rintro e wz ⟨rfl, hfz⟩))
          go_ret
          exact ⟨rfl, ((g0.out.trans hf).trans FB6.out).trans hfz⟩
set_option maxRecDepth 100000 in
theorem matrixSets_lifted (os : Os) (started : os.Started) (H : Type) (enc : TypeId × Value → H) :
    ReturnsInHanded {} Try.checked os 5 .any (Rows.matrixSetsSpec.pre6 enc Try.prog Try.f5 Rows.matrixSetsRow.domain false) (Rows.matrixSetsSpec.post enc Try.prog Try.f5 false true false false) := by
  refine law_of_walk Try.underlying4 started H enc Try.func5 (by kernel_rfl) rfl rfl
    (ChangeSpec.witness6 (enc := enc) (C := Try.checked) false ⟨#[], #[.int .i64 0, .slice none 0 0, .int .i64 0], []⟩ 8 (by kernel_rfl) (by kernel_rfl) (by kernel_rfl) (by kernel_rfl)) ?_ ?_ ?_
  · intro ds hl
    match ds, hl with
    | [d0, d1, d2], _ => rfl
  · rw [Try.params5]
    simp only [List.mem_cons, List.not_mem_nil, or_false, forall_eq_or_imp, forall_eq]
    exact ⟨⟨by kernel_rfl, of_decide_eq_true (by kernel_rfl)⟩, ⟨by kernel_rfl, of_decide_eq_true (by kernel_rfl)⟩, ⟨by kernel_rfl, of_decide_eq_true (by kernel_rfl)⟩⟩
  · intro W base args ds p hval hA hlt _
    rw [Try.params5] at hA hval
    obtain ⟨v0, vs0, d0, ds0, p0, q0, hargs, rfl, rfl, h0, r0⟩ := trodAll_cons hA
    obtain ⟨v1, vs1, d1, ds1, p1, q1, rfl, rfl, rfl, h1, r1⟩ := trodAll_cons r0
    obtain ⟨v2, vs2, d2, ds2, p2, q2, rfl, rfl, rfl, h2, r2⟩ := trodAll_cons r1
    obtain ⟨rfl, rfl, rfl⟩ := trodAll_nil r2
    obtain rfl : args = #[v0, v1, v2] := by cases args; simp_all
    obtain ⟨a0, rfl, rfl, rfl, w0⟩ := open_int Try.underlying3 (hval 0 3 v0 rfl rfl) h0
    have bd0 := wf_bounds w0
    obtain ⟨A1, c1, xs1, rfl, hl1, hm1, hc1⟩ := open_pairs (hval 1 22 v1 rfl rfl) h1
    obtain ⟨a2, rfl, rfl, rfl, w2⟩ := open_int Try.underlying3 (hval 2 3 v2 rfl rfl) h2
    have bd2 := wf_bounds w2
    have hm1' : xs1.length ≤ 9223372036854775807 := by unfold maxLen at hm1; omega
    by_cases h : (200 < a0 ∧ a0 ≤ 1024) ∨ 400 < xs1.length
    · exact sets_far a0 a2 A1 _ c1 W h hm1'
    · by_cases hb : a0 < 0 ∨ 1024 < a0
      · exact sets_bad a0 a2 A1 _ c1 W hb (by omega)
      · obtain ⟨n, rfl⟩ : ∃ n : Nat, a0 = n := ⟨a0.toNat, by omega⟩
        exact sets_near n c1 a2 hc1 (by omega) (by omega)

theorem matrixSets_holds : Rows.MatrixSetsSaid :=
  OpenClaim.holds_of_wide 5 Try.f5 rfl rfl rfl rfl rfl rfl rfl ⟨rfl, rfl, rfl, rfl, rfl⟩ rfl rfl rfl rfl rfl (by kernel_rfl) Try.func5 (by kernel_rfl)
    (of_decide_eq_true (by kernel_rfl)) (by unfold Func.isWrapper; first | (rw [if_pos (by decide +kernel)]; kernel_rfl) | (rw [if_neg (by decide +kernel)]; exact ⟨rfl, rfl⟩))
    (fun os started H enc _ => matrixSets_lifted os started H enc)
#print axioms matrixSets_holds
end Go.Proofs.Ythikjaoffikigaa
