/- The document's path. -/
import Derived.Test.YtmamolfbboffhaaK
namespace Go.Proofs.Ytmamolfbboffhaa
open Go.RowKit
attribute [local go_sem] run_store_float run_store_complex

theorem el30 : ElSl Try.prog 30 27 (.agg #[.int .i64 0, .int .i64 0]) plS.size 16 := ⟨Try.underlying30, by kernel_rfl, rfl, by decide⟩
theorem rot_mul {d : Int × Int} (h : Dir d) (k : Int) : rot (k % 4).toNat d = mulZ d (tz (k % 4)) := by
  have hr : k % 4 = 0 ∨ k % 4 = 1 ∨ k % 4 = 2 ∨ k % 4 = 3 := by omega
  unfold Dir at h
  rcases h with rfl | rfl | rfl | rfl <;> rcases hr with h | h | h | h <;> rw [h] <;> decide
def EvsWf (l : List Ev) : Prop := ∀ e ∈ l, -9223372036854775808 ≤ e.k ∧ e.k ≤ 9223372036854775807
/-- the struct of a path -/
def walkV (L : Value) (d : Int × Int) : Value := .agg #[L, .int .i64 d.1, .int .i64 d.2]
def Paths (l : List Ev) (w : World) (e : Ending) (w' : World) : Prop := ∃ L, e = .returned (walkV L (st l l.length).2) ∧ OwnS plS 27 w.heap.size w' L (way l l.length) ∧ Fr No w w'
theorem way_zero (l : List Ev) : way l 0 = [(0, 0)] := rfl
def Stopped (p : Prop) : Prop := p
theorem after_stores {w w2 : World} {L x1 x2 y1 y2 : Value} {ps : List (Int × Int)} (d p : Int × Int) (hb24 : Blk w2 (w.heap.size + 1 + 1) 44 #[L, x1, x2]) (hb34 : Blk w2 (w.heap.size + 1 + 1 + 1) 27 #[y1, y2])
    (hown : OwnS plS 27 w.heap.size w2 L ps) (hL : L.ownBlock ≠ some (w.heap.size + 1 + 1 + 1)) (hf : Fr No w w2) :
    Blk ((((w2.setCell ⟨w.heap.size + 1 + 1, 1, none⟩ (.int .i64 d.1)).setCell ⟨w.heap.size + 1 + 1, 2, none⟩ (.int .i64 d.2)).setCell ⟨w.heap.size + 1 + 1 + 1, 0, none⟩ (.int .i64 p.1)).setCell ⟨w.heap.size + 1 + 1 + 1, 1, none⟩ (.int .i64 p.2)) (w.heap.size + 1 + 1) 44 #[L, .int .i64 d.1, .int .i64 d.2] ∧
    Blk ((((w2.setCell ⟨w.heap.size + 1 + 1, 1, none⟩ (.int .i64 d.1)).setCell ⟨w.heap.size + 1 + 1, 2, none⟩ (.int .i64 d.2)).setCell ⟨w.heap.size + 1 + 1 + 1, 0, none⟩ (.int .i64 p.1)).setCell ⟨w.heap.size + 1 + 1 + 1, 1, none⟩ (.int .i64 p.2)) (w.heap.size + 1 + 1 + 1) 27 #[.int .i64 p.1, .int .i64 p.2] ∧
    OwnS plS 27 w.heap.size ((((w2.setCell ⟨w.heap.size + 1 + 1, 1, none⟩ (.int .i64 d.1)).setCell ⟨w.heap.size + 1 + 1, 2, none⟩ (.int .i64 d.2)).setCell ⟨w.heap.size + 1 + 1 + 1, 0, none⟩ (.int .i64 p.1)).setCell ⟨w.heap.size + 1 + 1 + 1, 1, none⟩ (.int .i64 p.2)) L ps ∧
    Fr No w ((((w2.setCell ⟨w.heap.size + 1 + 1, 1, none⟩ (.int .i64 d.1)).setCell ⟨w.heap.size + 1 + 1, 2, none⟩ (.int .i64 d.2)).setCell ⟨w.heap.size + 1 + 1 + 1, 0, none⟩ (.int .i64 p.1)).setCell ⟨w.heap.size + 1 + 1 + 1, 1, none⟩ (.int .i64 p.2)) := by
  refine ⟨?_, ?_, ?_, ?_⟩
  · exact (((hb24.set_ 1 _).set_ 2 _).far (p := ⟨w.heap.size + 1 + 1 + 1, 0, none⟩) (by show w.heap.size + 1 + 1 ≠ w.heap.size + 1 + 1 + 1; omega) _).far (p := ⟨w.heap.size + 1 + 1 + 1, 1, none⟩) (by show w.heap.size + 1 + 1 ≠ w.heap.size + 1 + 1 + 1; omega) _
  · exact (((hb34.far (p := ⟨w.heap.size + 1 + 1, 1, none⟩) (by show w.heap.size + 1 + 1 + 1 ≠ w.heap.size + 1 + 1; omega) _).far (p := ⟨w.heap.size + 1 + 1, 2, none⟩) (by show w.heap.size + 1 + 1 + 1 ≠ w.heap.size + 1 + 1; omega) _).set_ 0 _).set_ 1 _
  · exact ((hown.setOther hb24 (by decide) 1 _).setOther (hb24.set_ 1 _) (by decide) 2 _).fr (((Fr.refl (Only (w.heap.size + 1 + 1 + 1)) _).setOnly 0 _).setOnly 1 _) (fun j hj e => hL (by rw [hj]; exact congrArg some e))
  · exact (((hf.setNew (b := w.heap.size + 1 + 1) (by omega) 1 _).setNew (b := w.heap.size + 1 + 1) (by omega) 2 _).setNew (b := w.heap.size + 1 + 1 + 1) (by omega) 0 _).setNew (b := w.heap.size + 1 + 1 + 1) (by omega) 1 _
theorem far4 {w w2 : World} {t : TypeId} {cs : Array Value} (h : Blk w2 w.heap.size t cs) (d p : Int × Int) :
    Blk ((((w2.setCell ⟨w.heap.size + 1 + 1, 1, none⟩ (.int .i64 d.1)).setCell ⟨w.heap.size + 1 + 1, 2, none⟩ (.int .i64 d.2)).setCell ⟨w.heap.size + 1 + 1 + 1, 0, none⟩ (.int .i64 p.1)).setCell ⟨w.heap.size + 1 + 1 + 1, 1, none⟩ (.int .i64 p.2)) w.heap.size t cs :=
  (((h.far (p := ⟨w.heap.size + 1 + 1, 1, none⟩) (by show w.heap.size ≠ w.heap.size + 1 + 1; omega) _).far (p := ⟨w.heap.size + 1 + 1, 2, none⟩) (by show w.heap.size ≠ w.heap.size + 1 + 1; omega) _).far (p := ⟨w.heap.size + 1 + 1 + 1, 0, none⟩) (by show w.heap.size ≠ w.heap.size + 1 + 1 + 1; omega) _).far (p := ⟨w.heap.size + 1 + 1 + 1, 1, none⟩) (by show w.heap.size ≠ w.heap.size + 1 + 1 + 1; omega) _
attribute [local irreducible] rot mulZ stepZ st way tz
set_option maxRecDepth 100000 in
set_option maxHeartbeats 4000000 in
theorem paths_any {w : World} {A : Option Addr} (c : Nat) {l : List Ev} (hA : SlS evS w A l) (hw : EvsWf l) (hl : l.length ≤ 2000) : Calls Try.prog 17 #[.slice A l.length c] w (Paths l w) := by
  go_enter Try.func17, Try.ntmps17
  go_wp2
  go_loopw [15] (fun i wr => ∃ (k : Nat) (L : Value), i = .int .i64 k ∧ k ≤ l.length ∧ OwnS plS 27 w.heap.size wr L (way l k) ∧ L.ownBlock ≠ some (w.heap.size + 1 + 1 + 1) ∧ Blk wr (w.heap.size + 1 + 1) 44 #[L, .int .i64 (st l k).2.1, .int .i64 (st l k).2.2] ∧ Blk wr (w.heap.size + 1 + 1 + 1) 27 #[.int .i64 (st l k).1.1, .int .i64 (st l k).1.2] ∧ Blk wr w.heap.size 44 #[.slice none 0 0, .int .i64 0, .int .i64 0] ∧ Fr No w wr) (fun i _ => l.length - (intOf i).toNat)
  case atStart =>
    refine ⟨0, .slice (some ⟨w.heap.size + 1, 0, none⟩) 1 1, rfl, by omega, by rw [way_zero]; exact (OwnS.blk (S := plS) (B := w.heap.size) (new2 w _ 27 #[.int .i64 0, .int .i64 0]) (by omega) [(0, 0)] rfl (by decide)).alloc _ |>.alloc _, by simp [Value.ownBlock], by rw [st_zero]; exact (new3 _ _ _ _ _).alloc _, ?_, ?_, ?_⟩
    · rw [st_zero]; exact new_at (by simp) 27 _
    · exact (((Blk.new w 44 _).alloc _).alloc _).alloc _
    · exact (((((Fr.refl No w).alloc _).alloc _).alloc _).alloc _)
  case round =>
    obtain ⟨k, L, rfl, hk, hown, hLn, hb2, hb3, hb0, hf⟩ := hrel
    have hlw := way_len l k
    obtain ⟨AL, cL, rfl, _, _⟩ := hown.form
    rw [hlw] at *
    have hlw := way_len l k
    by_cases hlt : k < l.length
    · obtain ⟨ba, off, rfl, hbb, d0, d1, d2, d3, d4, d5, d6, d7⟩ := Events_at (hA.no hf) hlt
      obtain ⟨o1, o2, o3⟩ := st_ok l k hk
      have hwk := hw _ (List.getElem_mem hlt)
      have HS := Lib.hid (st_succ hlt)
      have HW := Lib.hid (way_snoc l k)
      generalize he : l[k] = e at *
      clear he hA hw
      have hL2 : (Value.slice AL (k + 1) cL).ownBlock ≠ some (w.heap.size + 1 + 1) := hown.blk_ne hb2 (by decide)
      have c0 : wr.cell? ⟨w.heap.size + 1 + 1, 0, none⟩ = some (.slice AL (k + 1) cL) := hb2.cell 0
      have c1 : wr.cell? ⟨w.heap.size + 1 + 1, 1, none⟩ = some (.int .i64 (st l k).2.1) := hb2.cell 1
      have c2 : wr.cell? ⟨w.heap.size + 1 + 1, 2, none⟩ = some (.int .i64 (st l k).2.2) := hb2.cell 2
      have b0 : wr.cell? ⟨w.heap.size + 1 + 1 + 1, 0, none⟩ = some (.int .i64 (st l k).1.1) := hb3.cell 0
      have b1 : wr.cell? ⟨w.heap.size + 1 + 1 + 1, 1, none⟩ = some (.int .i64 (st l k).1.2) := hb3.cell 1
      have hg2 := hb2.lt
      have hg3 := hb3.lt
      have y0 := hb2.frozen 0
      have hf1 := (hf.alloc (.cells #[.int .i64 e.k, .int .i64 e.g, .int .i64 e.c, .int .i64 e.s, .int .i64 e.v, .int .i64 e.m, .bool e.b, .bool e.o] 54))
      have hown1 := (hown.alloc (.cells #[.int .i64 e.k, .int .i64 e.g, .int .i64 e.c, .int .i64 e.s, .int .i64 e.v, .int .i64 e.m, .bool e.b, .bool e.o] 54))
      have hb21 := (hb2.alloc (.cells #[.int .i64 e.k, .int .i64 e.g, .int .i64 e.c, .int .i64 e.s, .int .i64 e.v, .int .i64 e.m, .bool e.b, .bool e.o] 54))
      by_cases hno : e.k = 13 ∨ e.g < 0 ∨ 511 < e.g
      · have HZ : stepZ (st l k) e = st l k := (by unfold stepZ; rw [if_pos hno])
        have HZ := Lib.hid HZ
        by_cases hk13 : e.k = 13
        · have hk' : (e.k != 13) = false := by simp [hk13]
          clear hno hk13
          go_wp2_with (first
            | (at_builtin
               go_must (refine wpList_apdAll (S := plS) el30 rfl (.tmp 60) (.tmp 62) rfl w.heap.size (.slice AL (k + 1) cL) (way l k) [(st l k).1] rfl (hown1.alloc _) ⟨wr.heap.size + 1, 0, none⟩ 1 1 rfl rfl (fun _ => SlS.blk1 (new_at (by simp [World.setCell]) 27 #[.int .i64 ((st l k).1).1, .int .i64 ((st l k).1).2]) rfl) (by rw [way_len]; simp; omega) (by decide) (hf1.alloc _).size ?_)
               intro v' w3 hap
               obtain ⟨AL', cL', hv', _, _⟩ := hap.1.form
               rw [List.length_append, way_len] at hv'
               subst hv'
               have hb22 := (hb21.alloc (.cells #[.int .i64 ((st l k).1).1, .int .i64 ((st l k).1).2] 27)).grown hap.2.1 (fun e => hL2 e.symm)
               have c3 := hb22.cell 0
               have y3 := hb22.frozen 0
               have hg4 := hb22.lt))
          go_roundw
          case rel =>
            refine ⟨k + 1, .slice AL' (k + 1 + 1) cL', by go_num, by omega, ?_, ?_, ?_, ?_, ?_, ?_⟩
            · exact (hap.1.setOther hb22 (by decide) 0 _).congr (by rw [HW.out, HS.out, HZ.out])
            · intro he
              rcases hap.2.2 with h | h
              · exact hLn (h.symm.trans he)
              · have h1 := h.symm.trans he
                simp [World.setCell] at h1
                omega
            · rw [HS.out, HZ.out]; exact hb22.set_ 0 _
            · rw [HS.out, HZ.out]; exact (((hb3.alloc _).alloc _).grown hap.2.1 (fun e => hLn e.symm)).far (by simp) _
            · exact (((hb0.alloc _).alloc _).grown hap.2.1 (fun e => hown1.blk_ne (hb0.alloc _) (by decide) e.symm)).far (p := ⟨w.heap.size + 1 + 1, 0, none⟩) (by show w.heap.size ≠ w.heap.size + 1 + 1; omega) _
            · exact (hap.fr (hf1.alloc _) hown1 (Nat.le_refl _)).setNew (by omega) 0 _
          case measure => simp [intOf]; omega
        · have hk' : (e.k != 13) = true := by simp [hk13]
          by_cases hg : e.g < 0
          · have hg0 : ¬ 0 ≤ e.g := by omega
            clear hno hk13 hg
            go_wp2_with (first
              | (at_builtin
                 go_must (refine wpList_apdAll (S := plS) el30 rfl (.tmp 60) (.tmp 62) rfl w.heap.size (.slice AL (k + 1) cL) (way l k) [(st l k).1] rfl (hown1.alloc _) ⟨wr.heap.size + 1, 0, none⟩ 1 1 rfl rfl (fun _ => SlS.blk1 (new_at (by simp [World.setCell]) 27 #[.int .i64 ((st l k).1).1, .int .i64 ((st l k).1).2]) rfl) (by rw [way_len]; simp; omega) (by decide) (hf1.alloc _).size ?_)
                 intro v' w3 hap
                 obtain ⟨AL', cL', hv', _, _⟩ := hap.1.form
                 rw [List.length_append, way_len] at hv'
                 subst hv'
                 have hb22 := (hb21.alloc (.cells #[.int .i64 ((st l k).1).1, .int .i64 ((st l k).1).2] 27)).grown hap.2.1 (fun e => hL2 e.symm)
                 have c3 := hb22.cell 0
                 have y3 := hb22.frozen 0
                 have hg4 := hb22.lt))
            go_roundw
            case rel =>
              refine ⟨k + 1, .slice AL' (k + 1 + 1) cL', by go_num, by omega, ?_, ?_, ?_, ?_, ?_, ?_⟩
              · exact (hap.1.setOther hb22 (by decide) 0 _).congr (by rw [HW.out, HS.out, HZ.out])
              · intro he
                rcases hap.2.2 with h | h
                · exact hLn (h.symm.trans he)
                · have h1 := h.symm.trans he
                  simp [World.setCell] at h1
                  omega
              · rw [HS.out, HZ.out]; exact hb22.set_ 0 _
              · rw [HS.out, HZ.out]; exact (((hb3.alloc _).alloc _).grown hap.2.1 (fun e => hLn e.symm)).far (by simp) _
              · exact (((hb0.alloc _).alloc _).grown hap.2.1 (fun e => hown1.blk_ne (hb0.alloc _) (by decide) e.symm)).far (p := ⟨w.heap.size + 1 + 1, 0, none⟩) (by show w.heap.size ≠ w.heap.size + 1 + 1; omega) _
              · exact (hap.fr (hf1.alloc _) hown1 (Nat.le_refl _)).setNew (by omega) 0 _
            case measure => simp [intOf]; omega
          · have hg0 : 0 ≤ e.g := by omega
            have hg1 : ¬ e.g ≤ 511 := by omega
            clear hno hk13 hg
            go_wp2_with (first
              | (at_builtin
                 go_must (refine wpList_apdAll (S := plS) el30 rfl (.tmp 60) (.tmp 62) rfl w.heap.size (.slice AL (k + 1) cL) (way l k) [(st l k).1] rfl (hown1.alloc _) ⟨wr.heap.size + 1, 0, none⟩ 1 1 rfl rfl (fun _ => SlS.blk1 (new_at (by simp [World.setCell]) 27 #[.int .i64 ((st l k).1).1, .int .i64 ((st l k).1).2]) rfl) (by rw [way_len]; simp; omega) (by decide) (hf1.alloc _).size ?_)
                 intro v' w3 hap
                 obtain ⟨AL', cL', hv', _, _⟩ := hap.1.form
                 rw [List.length_append, way_len] at hv'
                 subst hv'
                 have hb22 := (hb21.alloc (.cells #[.int .i64 ((st l k).1).1, .int .i64 ((st l k).1).2] 27)).grown hap.2.1 (fun e => hL2 e.symm)
                 have c3 := hb22.cell 0
                 have y3 := hb22.frozen 0
                 have hg4 := hb22.lt))
            go_roundw
            case rel =>
              refine ⟨k + 1, .slice AL' (k + 1 + 1) cL', by go_num, by omega, ?_, ?_, ?_, ?_, ?_, ?_⟩
              · exact (hap.1.setOther hb22 (by decide) 0 _).congr (by rw [HW.out, HS.out, HZ.out])
              · intro he
                rcases hap.2.2 with h | h
                · exact hLn (h.symm.trans he)
                · have h1 := h.symm.trans he
                  simp [World.setCell] at h1
                  omega
              · rw [HS.out, HZ.out]; exact hb22.set_ 0 _
              · rw [HS.out, HZ.out]; exact (((hb3.alloc _).alloc _).grown hap.2.1 (fun e => hLn e.symm)).far (by simp) _
              · exact (((hb0.alloc _).alloc _).grown hap.2.1 (fun e => hown1.blk_ne (hb0.alloc _) (by decide) e.symm)).far (p := ⟨w.heap.size + 1 + 1, 0, none⟩) (by show w.heap.size ≠ w.heap.size + 1 + 1; omega) _
              · exact (hap.fr (hf1.alloc _) hown1 (Nat.le_refl _)).setNew (by omega) 0 _
            case measure => simp [intOf]; omega
      · have hk' : (e.k != 13) = true := by simp; omega
        have hg0 : 0 ≤ e.g := by omega
        have hg1 : e.g ≤ 511 := by omega
        obtain ⟨dd, hdd⟩ : ∃ dd, rot (e.k % 4).toNat (st l k).2 = dd := ⟨_, rfl⟩
        have hdd' : rot (e.k % 4).toNat ((st l k).2.1, (st l k).2.2) = dd := hdd
        have hmd : mulZ (st l k).2 (tz (e.k % 4)) = dd := by rw [← rot_mul o1, hdd]
        have hdir : Dir dd := hmd ▸ mulZ_dir o1 (tz_dir _)
        have HZ : stepZ (st l k) e = (((st l k).1.1 + (1 + e.g % 4) * dd.1, (st l k).1.2 + (1 + e.g % 4) * dd.2), dd) := by
          unfold stepZ
          rw [if_neg hno, hmd]
          dsimp only
          rw [Int.mul_comm dd.1, Int.mul_comm dd.2]
        have hb4 : ((1 + e.g % 4) * dd.1).natAbs ≤ 4 ∧ ((1 + e.g % 4) * dd.2).natAbs ≤ 4 ∧ dd.1.natAbs ≤ 1 ∧ dd.2.natAbs ≤ 1 := by
          unfold Dir at hdir
          rcases hdir with h | h | h | h <;> rw [h] <;> simp <;> omega
        obtain ⟨q1, q2, q3, q4⟩ := hb4
        obtain ⟨pp, hpp⟩ : ∃ pp : Int × Int, pp = ((st l k).1.1 + (1 + e.g % 4) * dd.1, (st l k).1.2 + (1 + e.g % 4) * dd.2) := ⟨_, rfl⟩
        have hp1 : (st l k).1.1 + (1 + e.g % 4) * dd.1 = pp.1 := by rw [hpp]
        have hp2 : (st l k).1.2 + (1 + e.g % 4) * dd.2 = pp.2 := by rw [hpp]
        have ho1 : (st l k).2.1.natAbs ≤ 2 ^ 60 ∧ (st l k).2.2.natAbs ≤ 2 ^ 60 := by
          unfold Dir at o1
          rcases o1 with h | h | h | h <;> rw [h] <;> decide
        have hb31 := (hb3.alloc (.cells #[.int .i64 e.k, .int .i64 e.g, .int .i64 e.c, .int .i64 e.s, .int .i64 e.v, .int .i64 e.m, .bool e.b, .bool e.o] 54))
        have HLE := Lib.hid hLn
        rw [← hpp] at HZ
        have HZ := Lib.hid HZ
        clear hno hdir hmd hdd hpp
        go_wp2_with (first
          | (at_builtin
             go_must (refine wpList_apdAll (S := plS) el30 rfl (.tmp 60) (.tmp 62) rfl w.heap.size (.slice AL (k + 1) cL) (way l k) [pp] rfl (hown5.alloc _) ⟨w2.heap.size, 0, none⟩ 1 1 rfl rfl (fun _ => SlS.blk1 (new_at (by simp [World.setCell]) 27 #[.int .i64 pp.1, .int .i64 pp.2]) rfl) (by rw [way_len]; simp; omega) (by decide) (hf5.alloc _).size ?_)
             intro v' w3 hap
             obtain ⟨AL', cL', hv', _, _⟩ := hap.1.form
             rw [List.length_append, way_len] at hv'
             subst hv'
             have hb22 := (hb5.alloc (.cells #[.int .i64 pp.1, .int .i64 pp.2] 27)).grown hap.2.1 (fun e => hL2 e.symm)
             have c3 := hb22.cell 0
             have y3 := hb22.frozen 0
             have hg4 := hb22.lt)
          | (go_at_call 11; refine (turned_any _ _ _ _ ho1.1 ho1.2 hwk.1 hwk.2).mono ?_; rintro e9 w2 ⟨rfl, hf2⟩; rw [hdd']
             have hb24 := hb21.fr hf2 (fun h => h)
             have hb34 := hb31.fr hf2 (fun h => h)
             have k0 := hb24.cell 0
             have k1 := hb24.cell 1
             have k2 := hb24.cell 2
             have k3 := hb34.cell 0
             have k4 := hb34.cell 1
             have f0 := hb24.frozen 0
             have f1 := hb24.frozen 1
             have f2 := hb24.frozen 2
             have f3 := hb34.frozen 0
             have f4 := hb34.frozen 1
             have hbe := (Blk.new wr 54 #[.int .i64 e.k, .int .i64 e.g, .int .i64 e.c, .int .i64 e.s, .int .i64 e.v, .int .i64 e.m, .bool e.b, .bool e.o]).fr hf2 (fun h => h)
             have x0 : w2.cell? ⟨wr.heap.size, 1, none⟩ = some (.int .i64 e.g) := hbe.cell 1
             have g1 := hb24.lt
             have g2 := hb34.lt
             obtain ⟨hb5, hb35, hown5, hf5⟩ := after_stores dd pp hb24 hb34 (hown1.no hf2) HLE.out (hf1.trans hf2)))
        go_roundw
        case rel =>
          refine ⟨k + 1, .slice AL' (k + 1 + 1) cL', by go_num, by omega, ?_, ?_, ?_, ?_, ?_, ?_⟩
          · exact (hap.1.setOther hb22 (by decide) 0 _).congr (by rw [HW.out, HS.out, HZ.out])
          · intro he
            rcases hap.2.2 with h | h
            · exact hLn (h.symm.trans he)
            · have h1 := h.symm.trans he
              simp [World.setCell] at h1
              omega
          · rw [HS.out, HZ.out]; exact hb22.set_ 0 _
          · rw [HS.out, HZ.out]; exact ((hb35.alloc _).grown hap.2.1 (fun e => hLn e.symm)).far (by simp) _
          · exact (((far4 ((hb0.alloc _).fr hf2 (fun h => h)) dd pp).alloc _).grown hap.2.1 (fun e => hown5.blk_ne (far4 ((hb0.alloc _).fr hf2 (fun h => h)) dd pp) (by decide) e.symm)).far (p := ⟨w.heap.size + 1 + 1, 0, none⟩) (by show w.heap.size ≠ w.heap.size + 1 + 1; omega) _
          · exact (hap.fr (hf5.alloc _) hown5 (Nat.le_refl _)).setNew (by omega) 0 _
        case measure => simp [intOf]; omega
    · clear hA
      obtain rfl : k = l.length := by omega
      have c0 : wr.cell? ⟨w.heap.size + 1 + 1, 0, none⟩ = some (.slice AL (l.length + 1) cL) := hb2.cell 0
      have c1 : wr.cell? ⟨w.heap.size + 1 + 1, 1, none⟩ = some (.int .i64 (st l l.length).2.1) := hb2.cell 1
      have c2 : wr.cell? ⟨w.heap.size + 1 + 1, 2, none⟩ = some (.int .i64 (st l l.length).2.2) := hb2.cell 2
      have z0 := hb0.frozen 0
      have z1 := hb0.frozen 1
      have z2 := hb0.frozen 2
      have a0 : wr.cell? ⟨w.heap.size, 0, none⟩ = some (.slice none 0 0) := hb0.cell 0
      have a1 : wr.cell? ⟨w.heap.size, 1, none⟩ = some (.int .i64 0) := hb0.cell 1
      have a2 : wr.cell? ⟨w.heap.size, 2, none⟩ = some (.int .i64 0) := hb0.cell 2
      have hg0 := hb0.lt
      go_wp2
      refine bodyPost_ret (v := walkV (.slice AL (l.length + 1) cL) (st l l.length).2) (by simp [results, Try.results17, go_sem, a0, a1, a2, hg0, walkV]) rfl ⟨_, rfl, ?_, ?_⟩
      · exact ((hown.setOther hb0 (by decide) 0 _).setOther (hb0.set_ 0 _) (by decide) 1 _).setOther ((hb0.set_ 0 _).set_ 1 _) (by decide) 2 _
      · exact ((hf.setNew (Nat.le_refl _) 0 _).setNew (Nat.le_refl _) 1 _).setNew (Nat.le_refl _) 2 _
end Go.Proofs.Ytmamolfbboffhaa
