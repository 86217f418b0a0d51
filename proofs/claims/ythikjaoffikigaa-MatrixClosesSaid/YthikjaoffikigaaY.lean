/- The document's Close. -/
import Derived.Test.YthikjaoffikigaaX
namespace Go.Proofs.Ythikjaoffikigaa
open Go.RowKit

def RClosed (m n : Nat) (r : Nat → Nat → Bool) (lo hi : Nat) (w : World) (e : Ending) (w' : World) : Prop := e = .returned (.tuple #[]) ∧ Rx w' m n (clo n r) lo w'.heap.size ∧ Fr (In lo hi) w w'
attribute [local irreducible] tr rn sw rowsB
set_option maxHeartbeats 600000 in
theorem rclose_any {w : World} {m n : Nat} {r : Nat → Nat → Bool} {lo hi : Nat} (h : Rx w m n r lo hi) : Calls Try.prog 23 #[.pointer (some ⟨m, 0, none⟩)] w (RClosed m n r lo hi w) := by
  have H := Lib.hid h
  obtain ⟨hmost, A, cc, hb0⟩ := h.head
  have HB := Lib.hid hb0
  have hIn := Lib.hid (show In lo hi m by obtain ⟨L, hL⟩ := h; exact hL.inM)
  have c0 : w.cell? ⟨m, 0, none⟩ = some (.slice A n cc) := hb0.cell 0
  have hg := hb0.lt
  have htop := h.top
  clear h hb0
  go_enter Try.func23, Try.ntmps23
  go_wp2
  go_loopw [2, 9] (fun v k' wr => ∃ (k : Nat) (bs : List Nat), k' = .int .i64 k ∧ k ≤ n ∧ Hid (bs.length = k) ∧ Hid (OwnS slS 55 w.heap.size wr v (rowsB n bs)) ∧ Hid (∀ j b, bs[j]? = some b → w.heap.size ≤ b ∧ Blk wr b 4 (tr n (rn r n (from0 n r j) n))) ∧ Hid (bs.Pairwise (· < ·)) ∧ Fr No w wr) (fun _ k' _ => n - (intOf k').toNat)
  case atStart => exact ⟨0, [], rfl, by omega, Lib.hid rfl, Lib.hid (by unfold rowsB; exact OwnS.nil _ _ _), Lib.hid (fun j b h => by simp at h), Lib.hid (by simp), Fr.refl _ _⟩
  case round =>
    clear c0 hg
    obtain ⟨k, bs, rfl, hk, hbl, hO, hbs, hpw, hf⟩ := hrel
    have hBm := Lib.hid (HB.out.fr hf (fun h => h))
    by_cases hlt : k < n
    · have hlen := Lib.hid (show (rowsB n bs).length = k by rw [rowsB_len, hbl.out])
      go_wp2_with (first
        | (go_at_call 32; refine (from_any (H.out.no hf) hlt).mono ?_; rintro e1 w2 ⟨rfl, hb2, hf2⟩
           have hfA := Lib.hid (hf.trans hf2)
           have HB2 := Lib.hid hb2
           have HF2 := Lib.hid hf2
           clear hb2 hf2)
        | (at_builtin; go_must (refine wpList_apdAll (S := slS) el52 rfl (.tmp 12) (.tmp 16) rfl w.heap.size u2 (rowsB n bs) [(wr.heap.size, 0, n, n)] rfl ((hO.out.no HF2.out).alloc _) ⟨w2.heap.size, 0, none⟩ 1 1 rfl rfl (fun _ => SlS.blk1 (newn w2 _ rfl 55 #[.slice (some ⟨wr.heap.size, 0, none⟩) n n]) rfl) (by rw [hlen.out]; simp; omega) (by decide) (hfA.out.alloc _).size ?_); intro v' w3 hap))
      go_roundw
      case rel =>
        have hkeep : ∀ b cs, Blk w2 b 4 cs → Blk w3 b 4 cs := fun b cs hb => (hb.alloc _).grown hap.2.1 (fun e => ((hO.out.no HF2.out).alloc (.cells #[.slice (some ⟨wr.heap.size, 0, none⟩) n n] 55)).blk_ne (hb.alloc _) (by decide) e.symm)
        refine ⟨k + 1, bs ++ [wr.heap.size], by go_num, by omega, Lib.hid (by simp [hbl.out]), Lib.hid (hap.1.congr (by rw [rowsB_snoc])), Lib.hid ?_, Lib.hid ?_, hap.fr (hfA.out.alloc _) hO.out (Nat.le_refl _)⟩
        · intro j b hjb
          by_cases hj : j < k
          · rw [List.getElem?_append_left (by rw [hbl.out]; exact hj)] at hjb
            obtain ⟨h1, h2⟩ := hbs.out j b hjb
            exact ⟨h1, hkeep _ _ (h2.fr HF2.out (fun h => h))⟩
          · rw [List.getElem?_append_right (by rw [hbl.out]; omega)] at hjb
            have hjk : j = k := by
              have : j - bs.length < 1 := by
                rcases Nat.lt_or_ge (j - bs.length) 1 with h | h
                · exact h
                · rw [List.getElem?_eq_none (by simpa using h)] at hjb; cases hjb
              rw [hbl.out] at this; omega
            subst hjk
            rw [hbl.out, Nat.sub_self] at hjb
            obtain rfl : wr.heap.size = b := by simpa using hjb
            exact ⟨hf.size, hkeep _ _ HB2.out⟩
        · rw [List.pairwise_append]
          refine ⟨hpw.out, by simp, fun x hx y hy => ?_⟩
          obtain rfl : y = wr.heap.size := by simpa using hy
          obtain ⟨q, hq⟩ := List.getElem?_of_mem hx
          exact (hbs.out q x hq).2.lt
      case measure => simp [intOf]; omega
    · obtain rfl : k = n := by omega
      obtain ⟨A', c', e', hsl, hbl2⟩ := hO.out.form
      rw [rowsB_len, hbl.out] at e'
      subst e'
      have c0 : wr.cell? ⟨m, 0, none⟩ = some (.slice A k cc) := hBm.out.cell 0
      have z0 := hBm.out.frozen 0
      have hg := hBm.out.lt
      have HSL := Lib.hid hsl
      have HBL2 := Lib.hid hbl2
      clear hsl hbl2
      go_wp2
      go_end0
      have hsz := hf.size
      have hfW : Fr (In lo hi) w (wr.setCell ⟨m, 0, none⟩ (.slice A' k c')) := (hf.mono (T := In lo hi) (fun _ _ h => h.elim)).setCell (p := ⟨m, 0, none⟩) (fun _ => hIn.out) _
      refine ⟨rfl, ?_, hfW⟩
      have hlo : lo ≤ w.heap.size := by have := hIn.out.1; have := hIn.out.2; omega
      have hsize : (wr.setCell ⟨m, 0, none⟩ (.slice A' k c')).heap.size = wr.heap.size := by simp [World.setCell]
      have hml : m < w.heap.size := by have := hIn.out.2; omega
      rcases Nat.eq_zero_or_pos k with h0 | h0
      · subst h0
        exact ⟨⟨0, 0, A', c', fun _ => 0, fun _ => 0, fun _ => 0⟩, { most := by omega, head := hBm.out.set_ 0 _, inM := ⟨hIn.out.1, by rw [hsize]; omega⟩, top := Nat.le_refl _, ra := fun h => absurd h (by omega), inR := fun h => absurd h (by omega), ty := fun h => absurd h (by omega), rows := fun i h => absurd h (by omega), inB := fun i h => absurd h (by omega), tyB := fun i h => absurd h (by omega), words := fun i h => absurd h (by omega), apart := fun i j u v h => absurd h (by omega) }⟩
      · obtain ⟨b, off, rfl, hbs1, hcl⟩ := HSL.out (by rw [rowsB_len, hbl.out]; exact h0)
        obtain ⟨_, hb1, cs, hcs⟩ := HBL2.out _ rfl
        have hget : ∀ i, i < k → ∃ x, bs[i]? = some x ∧ bs.getD i 0 = x := fun i hi => by
          have hl : i < bs.length := by rw [hbl.out]; exact hi
          exact ⟨bs[i], List.getElem?_eq_getElem hl, by simp [List.getD, hl]⟩
        refine ⟨⟨b, off, some ⟨b, off, none⟩, c', fun i => bs.getD i 0, fun _ => 0, fun _ => k⟩, { most := by omega, head := hBm.out.set_ 0 _, inM := ⟨hIn.out.1, by rw [hsize]; omega⟩, top := Nat.le_refl _, ra := fun _ => rfl, inR := fun _ => ⟨by show lo ≤ b; have : w.heap.size ≤ b := hb1; omega, by rw [hsize]; exact hbs1⟩, ty := fun _ => ⟨cs, hcs.far (p := ⟨m, 0, none⟩) (by show b ≠ m; have : w.heap.size ≤ b := hb1; omega) _⟩, rows := fun i hi => ?_, inB := fun i hi => ?_, tyB := fun i hi => ?_, words := fun i hi v hv => ?_, apart := fun i j u v hi hj hu hv hb he => ?_ }⟩
        · obtain ⟨x, e1, e2⟩ := hget i hi
          have hr : (rowsB k bs)[i]? = some (x, 0, k, k) := by unfold rowsB; rw [List.getElem?_map, e1]; rfl
          have := hcl i _ hr 0 _ rfl
          show (wr.setCell ⟨m, 0, none⟩ _).cell? ⟨b, off + i, none⟩ = some (.slice (some ⟨bs.getD i 0, 0, none⟩) k k)
          rw [e2, World.cell?_setCell_other (h := fun e => by injection e with e1; have : w.heap.size ≤ b := hb1; omega)]
          simpa only [show slS.size = 1 from rfl, Nat.mul_one, Nat.add_zero] using this
        · obtain ⟨x, e1, e2⟩ := hget i hi
          obtain ⟨h1, h2⟩ := hbs.out i x e1
          show In _ _ (bs.getD i 0)
          rw [e2]
          exact ⟨by omega, by rw [hsize]; exact h2.lt⟩
        · obtain ⟨x, e1, e2⟩ := hget i hi
          obtain ⟨h1, h2⟩ := hbs.out i x e1
          show ∃ cs, Blk _ (bs.getD i 0) 4 cs
          rw [e2]
          exact ⟨_, h2.far (p := ⟨m, 0, none⟩) (by show x ≠ m; omega) _⟩
        · obtain ⟨x, e1, e2⟩ := hget i hi
          obtain ⟨h1, h2⟩ := hbs.out i x e1
          show (wr.setCell ⟨m, 0, none⟩ _).cell? ⟨bs.getD i 0, 0 + v, none⟩ = _
          rw [e2, Nat.zero_add, World.cell?_setCell_other (h := fun e => by injection e with e1; omega), ← from_clo k r hi hv]
          exact (h2.cell v).trans (tr_get hv)
        · have he : 0 + u = 0 + v := he
          refine ⟨?_, by omega⟩
          obtain ⟨x, e1, e2⟩ := hget i hi
          obtain ⟨y, f1, f2⟩ := hget j hj
          have hb : bs.getD i 0 = bs.getD j 0 := hb
          rw [e2, f2] at hb
          subst hb
          have key := List.pairwise_iff_getElem.1 hpw.out
          have hil : i < bs.length := by rw [hbl.out]; exact hi
          have hjl : j < bs.length := by rw [hbl.out]; exact hj
          rw [List.getElem?_eq_getElem hil] at e1
          rw [List.getElem?_eq_getElem hjl] at f1
          injection e1 with e1
          injection f1 with f1
          rcases Nat.lt_trichotomy i j with h | h | h
          · have := key i j hil hjl h; omega
          · exact h
          · have := key j i hjl hil h; omega
end Go.Proofs.Ythikjaoffikigaa
