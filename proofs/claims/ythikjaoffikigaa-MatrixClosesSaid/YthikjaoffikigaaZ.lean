/- Copy. -/
import Derived.Test.YthikjaoffikigaaU
namespace Go.Proofs.Ythikjaoffikigaa
open Go.RowKit

def wdS : Shape Nat := ⟨fun x => [.int .u64 (x : Nat)], 1, fun _ => rfl, by decide, fun x u hu => by simp at hu; subst hu; rfl⟩
theorem el48 : ElSl Try.prog 48 50 (.int .u64 0) wdS.size 8 := ⟨Try.underlying48, by kernel_rfl, rfl, by decide⟩
theorem run_cmp (ad : Addr) (n c : Nat) (w : World) : (binOp .eql 48 (.slice (some ad) n c) (.slice none 0 0)).run Try.prog w = .ok (.bool false) w := by
  have h : (Op.equal 48 (.slice (some ad) n c) (.slice none 0 0)).run Try.prog w = .ok false w := by
    unfold Op.equal
    rw [show Op.maxDepth = 9999 + 1 from rfl]
    unfold Op.equalIn
    simp only [Sem.run_bind, run_underlying Try.underlying48, Result.andThen_ok]
    simp
  simp [binOp, h]
def Cloned (xs : List Nat) (w : World) (e : Ending) (w' : World) : Prop := ∃ v, e = .returned v ∧ OwnS wdS 50 w.heap.size w' v xs ∧ Fr No w w'
set_option maxHeartbeats 400000 in
theorem clone_any {w : World} {ad : Addr} (c n : Nat) {xs : List Nat} (hx : SlS wdS w (some ad) xs) (hn : xs.length = n) (hl : n ≤ 1000) : Calls Try.prog 31 #[.slice (some ad) n c] w (Cloned xs w) := by
  have HX := Lib.hid (hx.no ((Fr.refl No w).alloc (.cells #[] 50)))
  have HN := Lib.hid hn
  have HE := Lib.hid (OwnS.blk (S := wdS) (B := w.heap.size) (Blk.new w 50 #[]) (Nat.le_refl _) [] rfl (by decide))
  have hcmp := run_cmp ad n c
  clear hx hn
  go_enter Try.func31, Try.ntmps31
  go_wp2_with (at_builtin; go_must (refine wpList_apdAll (S := wdS) el48 rfl (.tmp 5) (.tmp 6) rfl w.heap.size (.slice (some ⟨w.heap.size, 0, none⟩) 0 0) [] xs rfl HE.out ad n c rfl HN.out (fun _ => HX.out) (by rw [HN.out]; simp; omega) (by decide) ((Fr.refl No w).alloc _).size ?_); intro v' w3 hap)
  go_ret
  exact ⟨v', rfl, hap.1, hap.fr ((Fr.refl No w).alloc (.cells #[] 50)) HE.out (Nat.le_refl _)⟩
def Copied (n : Nat) (r : Nat → Nat → Bool) (w : World) (e : Ending) (w' : World) : Prop := ∃ m, e = .returned (.pointer (some ⟨m, 0, none⟩)) ∧ Mx w' m n r w.heap.size w'.heap.size ∧ Fr No w w'
abbrev Rw := Nat × Nat × Nat × Nat
/-- row j of the copy -/
def RowOk (w : World) (B W : Nat) (g : Nat → Nat → Nat) (j : Nat) (q : Rw) : Prop := B < q.1 ∧ q.2.2.1 = W ∧ (∃ cs, Blk w q.1 50 cs) ∧ ∀ v, v < W → w.cell? ⟨q.1, q.2.1 + v, none⟩ = some (.int .u64 (g j v : Nat))
theorem RowOk.no {w w' : World} {B W : Nat} {g : Nat → Nat → Nat} {j : Nat} {q : Rw} (h : RowOk w B W g j q) (hf : ∀ cs, Blk w q.1 50 cs → w'.heap[q.1]? = w.heap[q.1]?) : RowOk w' B W g j q := by
  obtain ⟨h1, h2, ⟨cs, h3⟩, h4⟩ := h
  have e := hf cs h3
  exact ⟨h1, h2, ⟨cs, e.trans h3⟩, fun v hv => (World.cell?_of_block (a := ⟨q.1, q.2.1 + v, none⟩) e).trans (h4 v hv)⟩

theorem row_sl {w : World} {m n : Nat} {L : Lay} {g : Nat → Nat → Nat} {r : Nat → Nat → Bool} {lo hi : Nat} (h : MxL w m n L g r lo hi) {i : Nat} (hi' : i < n) : SlS wdS w (some ⟨L.b i, L.o i, none⟩) ((List.range (wd n)).map (g i)) := by
  intro _
  obtain ⟨cs, hcs⟩ := h.tyB i hi'
  refine ⟨_, _, rfl, hcs.lt, fun j x hx k u hu => ?_⟩
  have hj : j < wd n := by
    rcases Nat.lt_or_ge j (wd n) with h | h
    · exact h
    · rw [List.getElem?_eq_none (by simpa using h)] at hx; cases hx
  rw [List.getElem?_map, List.getElem?_range hj] at hx
  simp at hx
  subst hx
  match k, hu with
  | 0, hu =>
    cases hu
    have := h.words i hi' j hj
    simpa only [show wdS.size = 1 from rfl, Nat.mul_one, Nat.add_zero] using this
  | k + 1, hu => exact absurd hu (by simp [wdS])
set_option maxHeartbeats 600000 in
theorem copy_any {w : World} {m n : Nat} {r : Nat → Nat → Bool} {lo hi : Nat} (h : Mx w m n r lo hi) : Calls Try.prog 22 #[.pointer (some ⟨m, 0, none⟩)] w (Copied n r w) := by
  obtain ⟨L, g, hL⟩ := h
  have hmost := hL.most
  have hbits := Lib.hid hL.bits
  have happ : ∀ i, i < n → wd n ≤ 16 := fun _ _ => by unfold wd; omega
  have C := Lib.hid (fun (w' : World) (hf : Fr No w w') => hL.fr hf (fun _ _ h => h))
  have hra := Lib.hid hL.ra
  have c0 : w.cell? ⟨m, 0, none⟩ = some (.int .i64 n) := hL.head.cell 0
  have c1 : w.cell? ⟨m, 1, none⟩ = some (.slice L.ra n L.rc) := hL.head.cell 1
  have hg := hL.head.lt
  obtain ⟨W, hW⟩ : ∃ W, wd n = W := ⟨_, rfl⟩
  have HW := Lib.hid hW
  clear hL hW happ
  go_enter Try.func22, Try.ntmps22
  go_wp2
  clear c0 c1 hg
  go_loopw [19] (fun k' wr => ∃ (k : Nat) (qs : List Rw) (R : Value), k' = .int .i64 k ∧ k ≤ n ∧ Hid (qs.length = k) ∧ Hid (OwnS slS 48 w.heap.size wr R qs) ∧ Hid (Blk wr w.heap.size 47 #[.int .i64 n, R]) ∧ Hid (∀ j q, qs[j]? = some q → RowOk wr w.heap.size W g j q) ∧ Hid (qs.Pairwise fun a b => a.1 < b.1) ∧ Fr No w wr) (fun k' _ => n - (intOf k').toNat)
  case atStart => exact ⟨0, [], .slice none 0 0, rfl, by omega, Lib.hid rfl, Lib.hid (OwnS.nil _ _ _), Lib.hid (Blk.new w 47 _), Lib.hid (fun j q h => by simp at h), Lib.hid (by simp), (Fr.refl No w).alloc _⟩
  case round =>
    obtain ⟨k, qs, R, rfl, hk, hql, hO, hB, hQ, hpw, hf⟩ := hrel
    obtain ⟨AR, cR, hR, _, _⟩ := hO.out.form
    rw [hql.out] at hR
    subst hR
    have c1 : wr.cell? ⟨w.heap.size, 1, none⟩ = some (.slice AR k cR) := hB.out.cell 1
    have z1 := hB.out.frozen 1
    have hg := hB.out.lt
    by_cases hlt : k < n
    · have hM := C.out wr hf
      have c2 := hM.rows k hlt
      rw [HW.out] at c2
      have e1 := hra.out (by omega)
      have hsl := row_sl hM hlt
      have hlx : ((List.range (wd n)).map (g k)).length = W := by simp [HW.out]
      have hxs : ∀ v, v < W → ((List.range (wd n)).map (g k))[v]? = some (g k v) := fun v hv => by
        rw [List.getElem?_map, List.getElem?_range (by rw [HW.out]; exact hv)]; rfl
      generalize (List.range (wd n)).map (g k) = xs at *
      have HSL := Lib.hid (hsl.no ((Fr.refl No wr).drew))
      have HLX := Lib.hid hlx
      have HXS := Lib.hid hxs
      have HN := Lib.hid (hO.out.blk_ne hB.out (by decide))
      have hW16 : W ≤ 16 := by rw [← HW.out]; unfold wd; omega
      have hW1 : 0 < W := by rw [← HW.out]; unfold wd; omega
      rw [e1]
      clear hM hsl hlx hxs
      go_wp2
      have c0 : wr.cell? ⟨w.heap.size, 0, none⟩ = some (.int .i64 n) := hB.out.cell 0
      go_region_law ((first
        | (go_simp
           go_at_call 31
           refine (clone_any (L.c k) W HSL.out HLX.out (by omega)).mono ?_
           rintro e2 w2 ⟨v2, rfl, ho2, hf2⟩
           obtain ⟨A2, c2', rfl, s2, b2⟩ := ho2.form
           obtain ⟨bb, oo, rfl, hbb, hcl⟩ := s2 (by rw [HLX.out]; exact hW1)
           rw [HLX.out]
           have HF2 := Lib.hid hf2
           have HB2 := Lib.hid (b2 _ rfl)
           have HCL := Lib.hid hcl
           have hbm := (hB.out.drew).fr hf2 (fun h => h)
           have c3 := hbm.cell 1
           have z3 := hbm.frozen 1
           have hg3 := hbm.lt
           clear ho2 hf2 s2 b2 hcl
           go_wp2_with fail)
        | (refine step_apdAll (S := slS) el45 (by rfl) _ _ (by rfl) w.heap.size (.slice AR k cR) qs [(bb, oo, W, c2')] (by rfl) (((hO.out.drew).no HF2.out).alloc _) ⟨w2.heap.size, 0, none⟩ 1 1 (by rfl) (by rfl) (fun _ => SlS.blk1 (newn _ _ (by simp) 48 #[.slice (some ⟨bb, oo, none⟩) W c2']) rfl) (by rw [hql.out]; simp; omega) (by decide) (by simp; omega) ?_
           intro v' w3 hap
           obtain ⟨AR', cR', hv', _, _⟩ := hap.1.form
           rw [List.length_append, hql.out] at hv'
           subst hv'
           have hb22 := ((((hB.out.drew).fr HF2.out (fun h => h))).alloc (.cells #[.slice (some ⟨bb, oo, none⟩) W c2'] 48)).grown hap.2.1 (fun e => HN.out e.symm)
           have c4 := hb22.cell 1
           have z4 := hb22.frozen 1
           have hg4 := hb22.lt)))
      all_goals go_wp2
      all_goals
        go_roundw
        case rel =>
          have hno : ∀ b cs, Blk w2 b 50 cs → w.heap.size < b → Blk (w3.setCell ⟨w.heap.size, 1, none⟩ (.slice AR' (k + 1) cR')) b 50 cs := fun b cs hb hlb =>
            ((hb.alloc (.cells #[.slice (some ⟨bb, oo, none⟩) W c2'] 48)).grown hap.2.1 (fun e => (((hO.out.drew).no HF2.out).alloc (.cells #[.slice (some ⟨bb, oo, none⟩) W c2'] 48)).blk_ne (hb.alloc (.cells #[.slice (some ⟨bb, oo, none⟩) W c2'] 48)) (by decide) e.symm)).far (p := ⟨w.heap.size, 1, none⟩) (by show b ≠ w.heap.size; omega) _
          have hbb2 : wr.heap.size ≤ bb := HB2.out.2.1
          refine ⟨k + 1, qs ++ [(bb, oo, W, c2')], _, by go_num, by omega, Lib.hid (by simp [hql.out]), Lib.hid (hap.1.setOther hb22 (by decide) 1 _), Lib.hid (hb22.set_ 1 _), Lib.hid ?_, Lib.hid ?_, ?_⟩
          · intro j q hjq
            by_cases hj : j < k
            · rw [List.getElem?_append_left (by rw [hql.out]; exact hj)] at hjq
              have h0 := hQ.out j q hjq
              exact h0.no (fun cs hb => Eq.trans (hno _ _ (hb.drew.fr HF2.out (fun h => h)) h0.1) (Eq.symm hb))
            · have hlen := (List.getElem?_eq_some_iff.1 hjq).1
              rw [List.length_append, hql.out] at hlen
              simp only [List.length_cons, List.length_nil] at hlen
              obtain rfl : j = k := by omega
              rw [List.getElem?_append_right (by rw [hql.out]; exact Nat.le_refl _), hql.out, Nat.sub_self] at hjq
              simp only [List.getElem?_cons_zero, Option.some.injEq] at hjq
              subst hjq
              have h0 : RowOk w2 w.heap.size W g j (bb, oo, W, c2') := ⟨by show w.heap.size < bb; omega, rfl, HB2.out.2.2, fun v hv => by
                have := HCL.out v _ (HXS.out v hv) 0 _ rfl
                simpa only [show wdS.size = 1 from rfl, Nat.mul_one, Nat.add_zero] using this⟩
              exact h0.no (fun cs hb => Eq.trans (hno _ _ hb h0.1) (Eq.symm hb))
          · rw [List.pairwise_append]
            refine ⟨hpw.out, by simp, fun x hx y hy => ?_⟩
            obtain rfl : y = (bb, oo, W, c2') := by simpa using hy
            obtain ⟨j, hj⟩ := List.getElem?_of_mem hx
            obtain ⟨_, _, ⟨cs, hb⟩, _⟩ := hQ.out j x hj
            have := hb.lt
            show x.1 < bb
            omega
          · exact (hap.fr ((hf.drew.trans HF2.out).alloc _) hO.out (Nat.le_refl _)).setNew (Nat.le_refl _) 1 _
        case measure => simp [intOf]; omega
    · obtain rfl : k = n := by omega
      go_wp2
      go_ret
      refine ⟨_, rfl, ?_, hf⟩
      obtain ⟨A', c', e', hsl, hbl⟩ := hO.out.form
      rw [hql.out] at e'
      cases e'
      have hwn := HW.out
      rcases Nat.eq_zero_or_pos k with h0 | h0
      · subst h0
        exact ⟨⟨0, 0, AR, cR, fun _ => 0, fun _ => 0, fun _ => 0⟩, fun _ _ => 0, { most := by omega, head := hB.out, inM := ⟨Nat.le_refl _, hg⟩, top := Nat.le_refl _, ra := fun h => absurd h (by omega), inR := fun h => absurd h (by omega), ty := fun h => absurd h (by omega), rows := fun i h => absurd h (by omega), inB := fun i h => absurd h (by omega), tyB := fun i h => absurd h (by omega), words := fun i h => absurd h (by omega), apart := fun i j u v h => absurd h (by omega), bits := fun i h => absurd h (by omega) }⟩
      · obtain ⟨b, off, rfl, hbs, hcl⟩ := hsl (by rw [hql.out]; exact h0)
        obtain ⟨_, hb1, cs, hcs⟩ := hbl _ rfl
        have hqi : ∀ i, i < k → qs[i]? = some (qs.getD i (0, 0, 0, 0)) := fun i hi => by
          have : i < qs.length := by rw [hql.out]; exact hi
          simp [List.getD, this]
        have hrow : ∀ i, i < k → RowOk wr w.heap.size W g i (qs.getD i (0, 0, 0, 0)) := fun i hi => hQ.out i _ (hqi i hi)
        have hpq : ∀ i j, i < j → j < k → (qs.getD i (0, 0, 0, 0)).1 < (qs.getD j (0, 0, 0, 0)).1 := fun i j hij hj => by
          have h1 : i < qs.length := by rw [hql.out]; omega
          have h2 : j < qs.length := by rw [hql.out]; exact hj
          have := List.pairwise_iff_getElem.1 hpw.out i j h1 h2 hij
          simpa [List.getD, h1, h2] using this
        refine ⟨⟨b, off, some ⟨b, off, none⟩, cR, fun i => (qs.getD i (0, 0, 0, 0)).1, fun i => (qs.getD i (0, 0, 0, 0)).2.1, fun i => (qs.getD i (0, 0, 0, 0)).2.2.2⟩, g, { most := hmost, head := hB.out, inM := ⟨Nat.le_refl _, hg⟩, top := Nat.le_refl _, ra := fun _ => rfl, inR := fun _ => ⟨hb1, hbs⟩, ty := fun _ => ⟨cs, hcs⟩, rows := fun i hi => ?_, inB := fun i hi => ?_, tyB := fun i hi => (hrow i hi).2.2.1, words := fun i hi v hv => ?_, apart := fun i j u v hi hj hu hv hb he => ?_, bits := hbits.out }⟩
        · have := hcl i _ (hqi i hi) 0 _ rfl
          rw [hwn, ← (hrow i hi).2.1]
          simpa only [show slS.size = 1 from rfl, Nat.mul_one, Nat.add_zero] using this
        · obtain ⟨h1, _, ⟨cs2, h2⟩, _⟩ := hrow i hi
          exact ⟨Nat.le_of_lt h1, h2.lt⟩
        · rw [hwn] at hv
          exact (hrow i hi).2.2.2 v hv
        · have hb : (qs.getD i (0, 0, 0, 0)).1 = (qs.getD j (0, 0, 0, 0)).1 := hb
          have e1 := fun h => hpq i j h hj
          have e2 := fun h => hpq j i h hi
          have : i = j := by
            rcases Nat.lt_trichotomy i j with h | h | h
            · have := e1 h; omega
            · exact h
            · have := e2 h; omega
          subst this
          have he : (qs.getD i (0, 0, 0, 0)).2.1 + u = (qs.getD i (0, 0, 0, 0)).2.1 + v := he
          exact ⟨rfl, by omega⟩
end Go.Proofs.Ythikjaoffikigaa
