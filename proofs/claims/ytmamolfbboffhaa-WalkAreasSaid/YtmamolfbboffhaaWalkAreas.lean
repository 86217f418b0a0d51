/- WalkAreas: for all places and every k, the closed path turned as a whole by k quarters has the same area, backwards the negative one; no condition. -/
import Derived.Test.YtmamolfbboffhaaN
import Derived.Test.YtmamolfbboffhaaQ
namespace Go.Proofs.Ytmamolfbboffhaa
open Go.RowKit Go.WideShapes Go.ChangeShapes Go.ChangeAt
attribute [local go_sem] run_store_float run_store_complex run_neg_float run_neg_complex

theorem OwnS.grown_far {α : Type} {S : Shape α} {E : TypeId} {B : Nat} {w w' : World} {v : Value} {xs : List α} {row : Option Nat} (h : OwnS S E B w v xs) (hg : w.grownBy w' row) (hn : ∀ b, v.ownBlock = some b → row ≠ some b) : OwnS S E B w' v xs :=
  h.fr ((Fr.refl (fun k => row = some k) w).grown hg (fun _ hk _ => hk)) fun k hk e => hn k hk e
theorem take_rev {zs : List Zw} {k : Nat} (h : k < zs.length) : ∃ (j : Nat) (hj : j < zs.length), j = zs.length - 1 - k ∧ zs.reverse.take (k + 1) = zs.reverse.take k ++ [zs[j]] := by
  refine ⟨zs.length - 1 - k, by omega, rfl, ?_⟩
  rw [List.take_succ_eq_append_getElem (by simpa using h), List.getElem_reverse]
theorem Zvs.len {zs : List Zw} {ps : List (Int × Int)} (h : Zvs zs ps) : zs.length = ps.length := h.1
theorem trn_take (t : Int × Int) {l : List (Int × Int)} {k : Nat} (h : k < l.length) : trn t (l.take (k + 1)) = trn t (l.take k) ++ [mulZ l[k] t] := by
  unfold trn; rw [List.take_succ_eq_append_getElem h, List.map_append]; rfl

theorem trn_len (t : Int × Int) (l : List (Int × Int)) : (trn t l).length = l.length := by simp [trn]
theorem dirn_le {d : Int × Int} (h : Dir d) : d.1.natAbs ≤ 1 ∧ d.2.natAbs ≤ 1 := by
  unfold Dir at h
  rcases h with rfl | rfl | rfl | rfl <;> decide
attribute [local irreducible] tw tz mulZ trn dsum Op.negFloat
theorem area_len {w : World} {A : Option Addr} (c : Nat) {n : Nat} {zs : List Zw} {l : List (Int × Int)} (hn : zs.length = n) (hA : SlS zS w A zs) (hz : Zvs zs l) (hs : Small l) (hl : l.length ≤ 500) : Calls Try.prog 14 #[.slice A n c] w (Areaed l w) := by
  subst hn
  exact area_any c hA hz hs hl
set_option maxRecDepth 100000 in
set_option maxHeartbeats 600000 in
theorem walkAreas_any {w : World} {A : Option Addr} (c : Nat) {l : List (Int × Int)} (hA : SlS plS w A l) (hm : l.length ≤ maxLen) (k : Int) : Calls Try.prog 4 #[.slice A l.length c, .int .i64 k] w (Truly w) := by
  go_enter Try.func4, Try.ntmps4
  go_wp2_with (first
    | (go_at_call 12; refine (large_any c hA hm).mono ?_; rintro e1 w1 ⟨b, rfl, hb0, hf1⟩; have hb := Lib.hid hb0; clear hb0; cases b)
    | (go_at_call 8; refine (two_any _).mono ?_; rintro e8 w8 ⟨rfl, hf8⟩)
    | (go_at_call 13; refine (places_any c (hA.no hf1) (hb.out trivial).2).mono ?_; rintro e2 w2 ⟨vp, rfl, hown, hf2⟩
       obtain ⟨hs, hl⟩ := hb.out trivial
       have hzs := zvs_pw hs
       have hzl : (l.map pw).length = l.length := hzs.len
       generalize l.map pw = zs at *
       obtain ⟨Ap, cp, rfl, hzp, hpb⟩ := hown.form
       rw [hzl]))
  · go_loopw [6, 7, 16] (fun v6 v7 i wr => ∃ (n : Nat) (ts : List Zw), i = .int .i64 n ∧ n ≤ l.length ∧ OwnS zS 23 w2.heap.size wr v6 ts ∧ Zvs ts (trn (tz (k % 4)) (l.take n)) ∧ OwnS zS 23 w2.heap.size wr v7 (zs.reverse.take n) ∧ (∀ b, v6.ownBlock = some b → v7.ownBlock ≠ some b) ∧ Fr No w2 wr) (fun _ _ i _ => l.length - (intOf i).toNat)
    case atStart => exact ⟨0, [], rfl, by omega, OwnS.nil _ _ _, by unfold trn; exact Zvs.nil, OwnS.nil _ _ _, by intro b h; simp [Value.ownBlock] at h, Fr.refl _ _⟩
    case round =>
      obtain ⟨n, ts, rfl, hn, hown6, hts, hown7, hsep, hf⟩ := hrel
      by_cases hlt : n < l.length
      · obtain ⟨bp, op, rfl, hbp, d0⟩ := Zs_at (hzp.no hf) (k := n) (by omega)
        obtain ⟨j, hjl, hj, htr⟩ := take_rev (zs := zs) (k := n) (by omega)
        obtain ⟨_, _, e2, _, d1⟩ := Zs_at (hzp.no hf) (k := j) hjl
        cases e2
        have hzn := hzs.2 n (by omega) hlt
        have hsn := hs _ (List.getElem_mem hlt)
        have htz := dirn_le (tz_dir (k % 4))
        obtain ⟨r, i, em, hm2⟩ := zv_mul hzn (b := tw (k % 4)) (tw_val (k % 4)) 10000 (by decide) hsn.1 hsn.2 (by omega) (by omega)
        have hrun := fun w => run_complex_mul (P := Try.prog) w 23 _ _ _ _ _ _ em
        have HT := Lib.hid (trn_take (tz (k % 4)) hlt)
        have HR := Lib.hid htr
        generalize zs[j] = zj at *
        have hln : ts.length = n := by rw [hts.1, trn_len, List.length_take]; omega
        have HL := Lib.hid hln
        have hidx : 0 ≤ ((l.length : Int) - 1 - n) ∧ (l.length : Int) - 1 - n < l.length := by omega
        obtain rfl : j = l.length - 1 - n := by omega
        clear hj
        have HO := Lib.hid hown6
        have HO7 := Lib.hid hown7
        have HP := Lib.hid hsep
        have HZ := Lib.hid hts
        have HM := Lib.hid hm2
        have hbb := hpb _ rfl
        have hlb := hf.size
        have hw2 := hzp.at_ (k := n) (by omega)
        have hbw : bp < w2.heap.size := by obtain ⟨_, _, e, h, _⟩ := hw2; cases e; exact h
        have hn6 : u6.ownBlock ≠ some bp := fun e => by have := (HO.out.lt _ e).1; omega
        have hn7 : u7.ownBlock ≠ some bp := fun e => by have := (HO7.out.lt _ e).1; omega
        clear htr hzn hsn em hts hown6 hown7 hsep hln hm2 hpb hw2
        go_wp2
        go_region_held3 (fun w' => w'.cell? ⟨bp, op + n, none⟩ = some (.complex .f64 zs[n].1 zs[n].2)) (first | assumption | go_keep | (rw [hap.2.1.cell_far _ (by simp; omega) (Ne.symm hn6)]; assumption))
          (first
            | (go_at_call 9; refine (turn_any _ _).mono ?_; rintro e9 w9 ⟨rfl, rfl⟩)
            | ((refine step_apdAll (S := zS) el32 (by rfl) _ _ (by rfl) w2.heap.size u6 ts [(r, i)] (by rfl) ((HO.out.drew).alloc _) ⟨wr.heap.size, 0, none⟩ 1 1 (by rfl) (by rfl) (fun _ => SlS.blk1 (new_at (n := wr.heap.size) (by simp) 23 #[.complex .f64 r i]) rfl) (by rw [HL.out]; simp; omega) (by decide) (by simp; omega) ?_; intro v6' w5 hap)))
        all_goals
          have d5 : w5.cell? ⟨bp, op + (l.length - 1 - n), none⟩ = some (.complex .f64 zj.1 zj.2) :=
            (hap.2.1.cell_far _ (by simp; omega) (Ne.symm hn6)).trans ((((Fr.refl No wr).drew.alloc (.cells #[.complex .f64 r i] 23)).cell (p := ⟨bp, op + (l.length - 1 - n), none⟩) (by show bp < _; omega) (fun h => h)).trans d1)
          have hown7' := HO7.out.drew.alloc (.cells #[.complex .f64 r i] 23)
          have hown7'' := hown7'.grown_far hap.2.1 (fun b hb e => HP.out b e hb)
          have HO5 := Lib.hid hown7''
          have HA := Lib.hid hap
          have hsz := hap.2.1.size
          clear hap hown7' hown7''
          go_wp2_with (at_builtin; go_must (refine wpList_apdAll (S := zS) el32 rfl (.tmp 29) (.tmp 38) rfl w2.heap.size u7 (zs.reverse.take n) [zj] rfl (HO5.out.alloc _) ⟨w5.heap.size, 0, none⟩ 1 1 rfl rfl (fun _ => SlS.blk1 (new_at (n := w5.heap.size) (by simp) 23 #[.complex .f64 zj.1 zj.2]) rfl) (by rw [List.length_take]; simp; omega) (by decide) (by simp at hsz; simp; omega) ?_); intro v7' w6 hap7)
          go_roundw
          case rel =>
            refine ⟨n + 1, ts ++ [(r, i)], by go_num, by omega, ?_, ?_, ?_, ?_, ?_⟩
            · exact (HA.out.1.alloc _).grown_far hap7.2.1 (fun b hb e => by
                rcases HA.out.2.2 with h | h
                · exact HP.out b (h.symm.trans hb) e
                · have h1 := h.symm.trans hb
                  have := (HO7.out.lt b e).2
                  simp at h1
                  omega)
            · rw [HT.out]; exact HZ.out.snoc HM.out
            · exact hap7.1.congr HR.out.symm
            · intro b hb he
              rcases hap7.2.2 with h | h
              · have h1 := h.symm.trans he
                rcases HA.out.2.2 with h2 | h2
                · exact HP.out b (h2.symm.trans hb) h1
                · have h3 := h2.symm.trans hb
                  have := (HO7.out.lt b h1).2
                  simp at h3
                  omega
              · have h1 := h.symm.trans he
                have := (HA.out.1.lt b hb).2
                simp at h1
                omega
            · exact hap7.fr ((HA.out.fr (hf.drew.alloc _) HO.out (Nat.le_refl _)).alloc _) HO7.out (Nat.le_refl _)
          case measure => simp [intOf]; omega
      · obtain rfl : n = l.length := by omega
        rw [List.take_of_length_le (by simp; omega)] at hown7
        rw [List.take_of_length_le (Nat.le_refl _)] at hts
        obtain ⟨A6, c6, rfl, hz6, _⟩ := hown6.form
        obtain ⟨A7, c7, rfl, hz7, _⟩ := hown7.form
        have hrl : zs.reverse.length = l.reverse.length := by simp [hzl]
        have hd1 := dsum_turn (tz_dir (k % 4)) l l.length
        have hd2 := dsum_reverse l
        have htl := trn_len (tz (k % 4)) l
        have K1 := Lib.hid hz6
        have K2 := Lib.hid hz7
        have K3 := Lib.hid hts
        have K4 := Lib.hid hzp
        have K5 := Lib.hid hd1
        have K6 := Lib.hid hd2
        have K7 := Lib.hid htl
        have K8 := Lib.hid hzs.reverse
        have g1 := Lib.hid hz6
        have g2 := Lib.hid hz6
        have g3 := Lib.hid hz6
        have KZ := Lib.hid hzl
        clear hz6 hz7 hts hzp hd1 hd2 htl hrl hown6 hown7 hsep
        go_wp2_with (first
          | (go_at_call 8; refine (two_any _).mono ?_; rintro e8 w8 ⟨rfl, hf8⟩)
          | (go_at_call 14; have g := g1; clear g g1; refine (area_len c6 (by first | rfl | exact KZ.out | exact List.length_reverse.trans KZ.out | exact List.length_reverse) K1.out K3.out (trn_small (tz_dir (k % 4)) hs) (by rw [K7.out]; exact hl)).mono ?_; rintro e3 w3 ⟨r1, rfl, hr1, hf3⟩)
          | (go_at_call 14; have g := g2; clear g g2; refine (area_len cp (by first | rfl | exact KZ.out | exact List.length_reverse.trans KZ.out | exact List.length_reverse) ((K4.out.no hf).no hf3) hzs hs hl).mono ?_; rintro e4 w4 ⟨r2, rfl, hr2, hf4⟩
             have q1 : FloatKind.f64.format.order r1 r2 = some .eq := (val_order hr1 hr2).trans (by rw [K7.out, K5.out]; simp)
             clear hr1)
          | (go_at_call 14; have g := g3; clear g g3; refine (area_len c7 (by first | rfl | exact KZ.out | exact List.length_reverse.trans KZ.out | exact List.length_reverse) ((K2.out.no hf3).no hf4) K8.out (small_reverse hs) (by simp; exact hl)).mono ?_; rintro e5 w5 ⟨r3, rfl, hr3, hf5⟩)
          | (go_at_call 14; refine (area_len cp (by first | rfl | exact KZ.out | exact List.length_reverse.trans KZ.out | exact List.length_reverse) ((((K4.out.no hf).no hf3).no hf4).no hf5) hzs hs hl).mono ?_; rintro e6 w6 ⟨r4, rfl, hr4, hf6⟩
             have q2 : FloatKind.f64.format.order r3 (Op.negFloat .f64 r4) = some .eq := (val_order hr3 (val_neg hr4)).trans (by rw [K6.out]; simp)))
        go_ret
        exact ⟨rfl, ((((((hf1.trans hf2).trans hf).trans hf3).trans hf4).trans hf5).trans hf6).trans hf8⟩
  · go_ret
    exact ⟨rfl, hf1.trans hf8⟩
set_option maxRecDepth 100000 in
theorem walkAreas_lifted (os : Os) (started : os.Started) (H : Type) (enc : TypeId × Value → H) :
    ReturnsInHanded {} Try.checked os 4 .any (Rows.walkAreasSpec.pre6 enc Try.prog Try.f4 Rows.walkAreasRow.domain false) (Rows.walkAreasSpec.post enc Try.prog Try.f4 false true false false) := by
  refine law_of_walk Try.underlying4 started H enc Try.func4 (by kernel_rfl) rfl rfl
    (ChangeSpec.witness6 (enc := enc) (C := Try.checked) false ⟨#[], #[.slice none 0 0, .int .i64 0], []⟩ 8 (by kernel_rfl) (by kernel_rfl) (by kernel_rfl) (by kernel_rfl)) ?_ ?_ ?_
  · intro ds hl
    match ds, hl with
    | [d0, d1], _ => rfl
  · rw [Try.params4]
    simp only [List.mem_cons, List.not_mem_nil, or_false, forall_eq_or_imp, forall_eq]
    exact ⟨⟨by kernel_rfl, of_decide_eq_true (by kernel_rfl)⟩, ⟨by kernel_rfl, of_decide_eq_true (by kernel_rfl)⟩⟩
  · intro W base args ds p hval hA hlt _
    rw [Try.params4] at hA hval
    obtain ⟨v0, vs0, d0, ds0, p0, q0, hargs, rfl, rfl, h0, r0⟩ := trodAll_cons hA
    obtain ⟨v1, vs1, d1, ds1, p1, q1, rfl, rfl, rfl, h1, r1⟩ := trodAll_cons r0
    obtain ⟨rfl, rfl, rfl⟩ := trodAll_nil r1
    obtain rfl : args = #[v0, v1] := by cases args; simp_all
    obtain ⟨A0, c0, xs0, rfl, hl0, hm0, hc0⟩ := open_places (hval 0 30 v0 rfl rfl) h0
    obtain ⟨a1, rfl, rfl, rfl, w1⟩ := open_int Try.underlying3 (hval 1 3 v1 rfl rfl) h1
    have bd1 := wf_bounds w1
    exact walkAreas_any c0 hc0 (by omega) a1

theorem walkAreas_holds : Rows.WalkAreasSaid :=
  OpenClaim.holds_of_wide 4 Try.f4 rfl rfl rfl rfl rfl rfl rfl ⟨rfl, rfl, rfl, rfl, rfl⟩ rfl rfl rfl rfl rfl (by kernel_rfl) Try.func4 (by kernel_rfl)
    (of_decide_eq_true (by kernel_rfl)) (by unfold Func.isWrapper; first | (rw [if_pos (by decide +kernel)]; kernel_rfl) | (rw [if_neg (by decide +kernel)]; exact ⟨rfl, rfl⟩))
    (fun os started H enc _ => walkAreas_lifted os started H enc)
#print axioms walkAreas_holds
end Go.Proofs.Ytmamolfbboffhaa
