/- The document's New. -/
import Derived.Test.YthikjaoffikigaaS
namespace Go.Proofs.Ythikjaoffikigaa
open Go.RowKit

theorem el52 : ElSl Try.prog 52 55 (.slice none 0 0) slS.size 24 := ⟨Try.underlying52, by kernel_rfl, rfl, by decide⟩
theorem u55 : Try.prog.underlying 55 = some (.slice 4) := Try.underlying55
theorem info4 : (Try.prog.info? 4).map (fun i => (i.zero, i.size, i.bytes)) = some (some (.bool false), 1, 1) := by kernel_rfl
theorem make_truths (p : Nat) (hp : p ≤ 1024) (w : World) : (Instr.makeSlice 55 (.int .i64 (p : Nat)) (.int .i64 (p : Nat))).run Try.prog w = .ok (.slice (some ⟨w.heap.size, 0, none⟩) p p) (w.alloc (.cells (madeCells #[.bool false] p) 4)) := by
  obtain ⟨i, hi, h1, h2, h3⟩ := info_parts info4
  have := run_make (P := Try.prog) w 55 4 i (.bool false) u55 hi h1 .i64 .i64 p p (by omega) (Int.le_refl _) (by rw [h3]; omega) (by omega)
  rw [h2] at this
  rw [show madeCells #[Value.bool false] p = madeCells (Value.bool false).cells (((p : Nat) : Int).toNat * 1) by rw [Int.toNat_natCast, Nat.mul_one]; rfl]
  simpa only [Int.toNat_natCast] using this
theorem truths_at {p j : Nat} (h : j < p) : (madeCells #[Value.bool false] p)[j]? = some (.bool false) := by
  simp [madeCells, h, Nat.mod_one]
def RNewed (n : Nat) (w : World) (e : Ending) (w' : World) : Prop := ∃ m, e = .returned (.tuple #[.pointer (some ⟨m, 0, none⟩), .int .i64 0]) ∧ Rx w' m n (fun _ _ => false) w.heap.size w'.heap.size ∧ Fr No w w'
def rowsB (n : Nat) (bs : List Nat) : List (Nat × Nat × Nat × Nat) := bs.map fun b => (b, 0, n, n)
theorem rowsB_snoc (n : Nat) (bs : List Nat) (b : Nat) : rowsB n (bs ++ [b]) = rowsB n bs ++ [(b, 0, n, n)] := by simp [rowsB]
theorem rowsB_len (n : Nat) (bs : List Nat) : (rowsB n bs).length = bs.length := by simp [rowsB]
attribute [local irreducible] rowsB madeCells
set_option maxHeartbeats 600000 in
theorem rnew_ok (n : Nat) (hn : n ≤ 1024) (w : World) : Calls Try.prog 14 #[.int .i64 n] w (RNewed n w) := by
  have hmk := make_truths n hn
  go_enter Try.func14, Try.ntmps14
  go_wp2
  go_loopw [5] (fun i wr => ∃ (k : Nat) (bs : List Nat) (R : Value), i = .int .i64 k ∧ k ≤ n ∧ bs.length = k ∧ OwnS slS 55 w.heap.size wr R (rowsB n bs) ∧ Blk wr w.heap.size 54 #[R] ∧ (∀ b ∈ bs, w.heap.size < b ∧ Blk wr b 4 (madeCells #[.bool false] n)) ∧ bs.Pairwise (· < ·) ∧ Fr No w wr) (fun i _ => n - (intOf i).toNat)
  case atStart => exact ⟨0, [], .slice none 0 0, rfl, by omega, rfl, by unfold rowsB; exact OwnS.nil _ _ _, Blk.new w 54 _, by simp, by simp, (Fr.refl No w).alloc _⟩
  case round =>
    obtain ⟨k, bs, R, rfl, hk, hbl, hown, hb, hbs, hpw, hf⟩ := hrel
    obtain ⟨AR, cR, hR, _, _⟩ := hown.form
    rw [rowsB_len, hbl] at hR
    subst hR
    have c1 : wr.cell? ⟨w.heap.size, 0, none⟩ = some (.slice AR k cR) := hb.cell 0
    have z1 := hb.frozen 0
    have hg := hb.lt
    have HO := Lib.hid hown
    have HB := Lib.hid hb
    have HS := Lib.hid hbs
    have HPW := Lib.hid hpw
    have HBL := Lib.hid hbl
    clear hown hb hbs hpw hbl
    by_cases hlt : k < n
    · have HN := Lib.hid (HO.out.blk_ne HB.out (by decide))
      go_wp2
      go_region_law ((
        refine step_apdAll (S := slS) el52 (by rfl) _ _ (by rfl) w.heap.size (.slice AR k cR) (rowsB n bs) [(wr.heap.size, 0, n, n)] (by rfl) (((HO.out.drew).alloc _).alloc _) ⟨wr.heap.size + 1, 0, none⟩ 1 1 (by rfl) (by rfl) (fun _ => SlS.blk1 (newn _ _ (by simp) 55 #[.slice (some ⟨wr.heap.size, 0, none⟩) n n]) rfl) (by rw [rowsB_len, HBL.out]; simp; omega) (by decide) (by simp; omega) ?_; intro v' w3 hap
        obtain ⟨AR', cR', hv', _, _⟩ := hap.1.form
        rw [List.length_append, rowsB_len, HBL.out] at hv'
        subst hv'
        have hb22 := (((HB.out.drew).alloc (.cells (madeCells #[.bool false] n) 4)).alloc (.cells #[.slice (some ⟨wr.heap.size, 0, none⟩) n n] 55)).grown hap.2.1 (fun e => HN.out e.symm)
        have c3 := hb22.cell 0
        have z3 := hb22.frozen 0
        have hg3 := hb22.lt))
      all_goals go_wp2
      all_goals
        go_roundw
        case rel =>
          have hno : ∀ b, Blk ((wr.drew.alloc (.cells (madeCells #[.bool false] n) 4)).alloc (.cells #[.slice (some ⟨wr.heap.size, 0, none⟩) n n] 55)) b 4 (madeCells #[.bool false] n) → w.heap.size < b → Blk (w3.setCell ⟨w.heap.size, 0, none⟩ (.slice AR' (k + 1) cR')) b 4 (madeCells #[.bool false] n) := fun b hb hlb =>
            (hb.grown hap.2.1 (fun e => (((HO.out.drew).alloc (.cells (madeCells #[.bool false] n) 4)).alloc (.cells #[.slice (some ⟨wr.heap.size, 0, none⟩) n n] 55)).blk_ne hb (by decide) e.symm)).far (p := ⟨w.heap.size, 0, none⟩) (by show b ≠ w.heap.size; omega) _
          refine ⟨k + 1, bs ++ [wr.heap.size], _, by go_num, by omega, by simp [HBL.out], (hap.1.setOther hb22 (by decide) 0 _).congr (by rw [rowsB_snoc]), hb22.set_ 0 _, ?_, ?_, ?_⟩
          · intro b hb
            rcases List.mem_append.1 hb with h | h
            · obtain ⟨h1, h2⟩ := HS.out b h
              exact ⟨h1, hno b ((h2.drew.alloc _).alloc _) h1⟩
            · obtain rfl : b = wr.heap.size := by simpa using h
              exact ⟨hg, hno _ ((newn wr.drew _ rfl 4 _).alloc _) hg⟩
          · rw [List.pairwise_append]
            refine ⟨HPW.out, by simp, fun x hx y hy => ?_⟩
            obtain rfl : y = wr.heap.size := by simpa using hy
            exact (HS.out x hx).2.lt
          · exact (hap.fr ((hf.drew.alloc _).alloc _) HO.out (Nat.le_refl _)).setNew (Nat.le_refl _) 0 _
        case measure => simp [intOf]; omega
    · obtain rfl : k = n := by omega
      go_wp2
      go_ret2
      refine ⟨_, rfl, ?_, hf⟩
      obtain ⟨A', c', e', hsl, hbl⟩ := HO.out.form
      rw [rowsB_len, HBL.out] at e'
      cases e'
      rcases Nat.eq_zero_or_pos k with h0 | h0
      · subst h0
        exact ⟨⟨0, 0, AR, cR, fun _ => 0, fun _ => 0, fun _ => 0⟩, { most := by omega, head := HB.out, inM := ⟨Nat.le_refl _, hg⟩, top := Nat.le_refl _, ra := fun h => absurd h (by omega), inR := fun h => absurd h (by omega), ty := fun h => absurd h (by omega), rows := fun i h => absurd h (by omega), inB := fun i h => absurd h (by omega), tyB := fun i h => absurd h (by omega), words := fun i h => absurd h (by omega), apart := fun i j u v h => absurd h (by omega) }⟩
      · obtain ⟨b, off, rfl, hbs, hcl⟩ := hsl (by rw [rowsB_len, HBL.out]; exact h0)
        obtain ⟨_, hb1, cs, hcs⟩ := hbl _ rfl
        have hget : ∀ i, i < k → ∃ x, bs[i]? = some x ∧ bs.getD i 0 = x ∧ x ∈ bs := fun i hi => by
          have hl : i < bs.length := by rw [HBL.out]; exact hi
          exact ⟨bs[i], List.getElem?_eq_getElem hl, by simp [List.getD, hl], List.getElem_mem hl⟩
        refine ⟨⟨b, off, some ⟨b, off, none⟩, cR, fun i => bs.getD i 0, fun _ => 0, fun _ => k⟩, { most := by omega, head := HB.out, inM := ⟨Nat.le_refl _, hg⟩, top := Nat.le_refl _, ra := fun _ => rfl, inR := fun _ => ⟨hb1, hbs⟩, ty := fun _ => ⟨cs, hcs⟩, rows := fun i hi => ?_, inB := fun i hi => ?_, tyB := fun i hi => ?_, words := fun i hi v hv => ?_, apart := fun i j u v hi hj hu hv hb he => ?_ }⟩
        · obtain ⟨x, e1, e2, e3⟩ := hget i hi
          have hr : (rowsB k bs)[i]? = some (x, 0, k, k) := by unfold rowsB; rw [List.getElem?_map, e1]; rfl
          have := hcl i _ hr 0 _ rfl
          show wr.cell? ⟨b, off + i, none⟩ = some (.slice (some ⟨bs.getD i 0, 0, none⟩) k k)
          rw [e2]
          simpa only [show slS.size = 1 from rfl, Nat.mul_one, Nat.add_zero] using this
        · obtain ⟨x, e1, e2, e3⟩ := hget i hi
          obtain ⟨h1, h2⟩ := HS.out x e3
          show In _ _ (bs.getD i 0)
          rw [e2]
          exact ⟨Nat.le_of_lt h1, h2.lt⟩
        · obtain ⟨x, e1, e2, e3⟩ := hget i hi
          obtain ⟨h1, h2⟩ := HS.out x e3
          show ∃ cs, Blk wr (bs.getD i 0) 4 cs
          rw [e2]
          exact ⟨_, h2⟩
        · obtain ⟨x, e1, e2, e3⟩ := hget i hi
          obtain ⟨h1, h2⟩ := HS.out x e3
          show wr.cell? ⟨bs.getD i 0, 0 + v, none⟩ = _
          rw [e2, Nat.zero_add]
          exact (h2.cell v).trans (truths_at hv)
        · have he : 0 + u = 0 + v := he
          refine ⟨?_, by omega⟩
          obtain ⟨x, e1, e2, _⟩ := hget i hi
          obtain ⟨y, f1, f2, _⟩ := hget j hj
          have hb : bs.getD i 0 = bs.getD j 0 := hb
          rw [e2, f2] at hb
          subst hb
          have key := List.pairwise_iff_getElem.1 HPW.out
          have hil : i < bs.length := by rw [HBL.out]; exact hi
          have hjl : j < bs.length := by rw [HBL.out]; exact hj
          rw [List.getElem?_eq_getElem hil] at e1
          rw [List.getElem?_eq_getElem hjl] at f1
          injection e1 with e1
          injection f1 with f1
          rcases Nat.lt_trichotomy i j with h | h | h
          · have := key i j hil hjl h; omega
          · exact h
          · have := key j i hjl hil h; omega
set_option maxHeartbeats 600000 in
theorem rnew_bad (i : Int) (h : i < 0 ∨ 1024 < i) (w : World) : Calls Try.prog 14 #[.int .i64 i] w fun e w' => e = .returned (.tuple #[.pointer none, .int .i64 1]) ∧ w = w' := by
  by_cases h0 : i < 0
  · clear h
    go_enter Try.func14, Try.ntmps14
    go_wp2
    go_ret2
    exact ⟨rfl, rfl⟩
  · have h1 : 1024 < i := by omega
    clear h
    go_enter Try.func14, Try.ntmps14
    go_wp2
    go_ret2
    exact ⟨rfl, rfl⟩
end Go.Proofs.Ythikjaoffikigaa
