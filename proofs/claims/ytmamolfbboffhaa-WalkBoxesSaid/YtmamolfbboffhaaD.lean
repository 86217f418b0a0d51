/- The path. -/
import Derived.Test.YtmamolfbboffhaaC
namespace Go.Proofs.Ytmamolfbboffhaa
open Go.RowKit
attribute [local go_sem] run_store_float run_store_complex
theorem new_at {w : World} {n : Nat} (h : w.heap.size = n) (t : TypeId) (cs : Array Value) : Blk (w.alloc (.cells cs t)) n t cs := h ▸ Blk.new w t cs

/- the way -/
def s0 : Wk := ((0, 0), (1, 0))
/-- the state behind the first n events -/
def st (l : List Ev) (n : Nat) : Wk := (l.take n).foldl stepZ s0
theorem st_zero (l : List Ev) : st l 0 = s0 := rfl
theorem st_succ {l : List Ev} {n : Nat} (h : n < l.length) : st l (n + 1) = stepZ (st l n) l[n] := by
  unfold st
  rw [List.take_succ_eq_append_getElem h, List.foldl_append]
  rfl
theorem stepZ_ok {s : Wk} (e : Ev) (hd : Dir s.2) (n : Nat) (h1 : s.1.1.natAbs ≤ n) (h2 : s.1.2.natAbs ≤ n) : Dir (stepZ s e).2 ∧ (stepZ s e).1.1.natAbs ≤ n + 4 ∧ (stepZ s e).1.2.natAbs ≤ n + 4 := by
  unfold stepZ
  split
  · exact ⟨hd, by omega, by omega⟩
  · have hd1 := mulZ_dir hd (tz_dir (e.k % 4))
    refine ⟨hd1, ?_⟩
    simp only
    have hn : 0 ≤ e.g % 4 ∧ e.g % 4 ≤ 3 := by omega
    unfold Dir at hd1
    rcases hd1 with h | h | h | h <;> rw [h] <;> simp <;> omega
theorem st_ok (l : List Ev) : ∀ n, n ≤ l.length → Dir (st l n).2 ∧ (st l n).1.1.natAbs ≤ n * 4 ∧ (st l n).1.2.natAbs ≤ n * 4
  | 0, _ => ⟨.inl rfl, by show (0 : Int).natAbs ≤ _; decide, by show (0 : Int).natAbs ≤ _; decide⟩
  | n + 1, h => by
    obtain ⟨h1, h2, h3⟩ := st_ok l n (by omega)
    rw [st_succ (by omega), Nat.add_mul, Nat.one_mul]
    exact stepZ_ok _ h1 _ h2 h3
/-- the places -/
def way (l : List Ev) (n : Nat) : List (Int × Int) := (List.range (n + 1)).map fun j => (st l j).1
theorem way_snoc (l : List Ev) (n : Nat) : way l (n + 1) = way l n ++ [(st l (n + 1)).1] := by
  unfold way
  rw [List.range_succ, List.map_append]
  rfl
theorem way_len (l : List Ev) (n : Nat) : (way l n).length = n + 1 := by simp [way]

/-- the words stand for these places -/
def Zvs (zs : List Zw) (ps : List (Int × Int)) : Prop := zs.length = ps.length ∧ ∀ j (h : j < zs.length) (h' : j < ps.length), Zv zs[j] ps[j]
theorem Zvs.nil : Zvs [] [] := ⟨rfl, fun j h => by simp at h⟩
theorem Zvs.snoc {zs : List Zw} {ps : List (Int × Int)} {z : Zw} {p : Int × Int} (h : Zvs zs ps) (hz : Zv z p) : Zvs (zs ++ [z]) (ps ++ [p]) := by
  refine ⟨by simp [h.1], fun j h1 h2 => ?_⟩
  by_cases hj : j < zs.length
  · rw [List.getElem_append_left hj, List.getElem_append_left (by rw [← h.1]; exact hj)]
    exact h.2 j hj _
  · have e : j = zs.length := by simp at h1; omega
    subst e
    have e2 : zs.length = ps.length := h.1
    simp only [List.getElem_concat_length]
    have : (ps ++ [p])[zs.length]'h2 = p := by simp [e2]
    rw [this]
    exact hz

theorem el32 : ElSl Try.prog 32 23 (zV (0, 0)) zS.size 16 := ⟨Try.underlying32, by kernel_rfl, rfl, by decide⟩
theorem Events_at {w : World} {A : Option Addr} {l : List Ev} (h : SlS evS w A l) {k : Nat} (hk : k < l.length) : ∃ b off, A = some ⟨b, off, none⟩ ∧ b < w.heap.size ∧
    w.cell? ⟨b, off + k * 8, none⟩ = some (.int .i64 l[k].k) ∧ w.cell? ⟨b, off + k * 8 + 1, none⟩ = some (.int .i64 l[k].g) ∧ w.cell? ⟨b, off + k * 8 + 2, none⟩ = some (.int .i64 l[k].c) ∧ w.cell? ⟨b, off + k * 8 + 3, none⟩ = some (.int .i64 l[k].s) ∧
    w.cell? ⟨b, off + k * 8 + 4, none⟩ = some (.int .i64 l[k].v) ∧ w.cell? ⟨b, off + k * 8 + 5, none⟩ = some (.int .i64 l[k].m) ∧ w.cell? ⟨b, off + k * 8 + 6, none⟩ = some (.bool l[k].b) ∧ w.cell? ⟨b, off + k * 8 + 7, none⟩ = some (.bool l[k].o) := by
  obtain ⟨b, off, h1, h2, hd⟩ := h.at_ hk
  exact ⟨b, off, h1, h2, hd 0 _ rfl, hd 1 _ rfl, hd 2 _ rfl, hd 3 _ rfl, hd 4 _ rfl, hd 5 _ rfl, hd 6 _ rfl, hd 7 _ rfl⟩

def Pathed (l : List Ev) (w : World) (e : Ending) (w' : World) : Prop := ∃ v zs, e = .returned (.tuple #[v, .int .i64 0]) ∧ OwnS zS 23 w.heap.size w' v zs ∧ Zvs zs (way l l.length) ∧ Fr No w w'
set_option maxHeartbeats 4000000 in
theorem path_any {w : World} {A : Option Addr} (c : Nat) {l : List Ev} (hA : SlS evS w A l) (hl : l.length ≤ 2000) : Calls Try.prog 15 #[.slice A l.length c] w (Pathed l w) := by
  go_enter Try.func15, Try.ntmps15
  go_wp2
  go_loopw [5, 17] (fun v i wr => ∃ (k : Nat) (zs : List Zw) (a b : Zw), i = .int .i64 k ∧ k ≤ l.length ∧ OwnS zS 23 w.heap.size wr v zs ∧ Zvs zs (way l k) ∧ Blk wr w.heap.size 57 #[zV a, zV b] ∧ Zv a (st l k).1 ∧ Zv b (st l k).2 ∧ Fr No w wr) (fun _ i _ => l.length - (intOf i).toNat)
  case atStart =>
    have hz0 : Zv (0, 0) (0, 0) := ⟨val_zero, val_zero⟩
    have hz1 : Zv (one, 0) (1, 0) := ⟨val_one, val_zero⟩
    exact ⟨0, [(0, 0)], (0, 0), (one, 0), rfl, by omega, OwnS.blk (new2 w _ 23 #[.complex .f64 0 0]) (by omega) [(0, 0)] rfl (by decide), Zvs.nil.snoc hz0, (Blk.new w 57 _).alloc _, hz0, hz1, ((Fr.refl No w).alloc _).alloc _⟩
  case round =>
    obtain ⟨k, zs, a, b, rfl, hk, hown, hzs, hb4, hza, hzb, hf⟩ := hrel
    unfold zV at hb4
    have c0 : wr.cell? ⟨w.heap.size, 0, none⟩ = some (.complex .f64 a.1 a.2) := hb4.cell 0
    have c1 : wr.cell? ⟨w.heap.size, 1, none⟩ = some (.complex .f64 b.1 b.2) := hb4.cell 1
    have z0 := hb4.frozen 0
    have z1 := hb4.frozen 1
    have hg4 := hb4.lt
    have hlz : zs.length = k + 1 := hzs.1.trans (way_len l k)
    by_cases hlt : k < l.length
    · obtain ⟨ba, off, rfl, hbb, d0, d1, d2, d3, d4, d5, d6, d7⟩ := Events_at (hA.no hf) hlt
      clear hA
      obtain ⟨o1, o2, o3⟩ := st_ok l k hk
      have hb4' := hb4.alloc (.cells #[.int .i64 l[k].k, .int .i64 l[k].g, .int .i64 l[k].c, .int .i64 l[k].s, .int .i64 l[k].v, .int .i64 l[k].m, .bool l[k].b, .bool l[k].o] 54)
      have hown' := hown.alloc (.cells #[.int .i64 l[k].k, .int .i64 l[k].g, .int .i64 l[k].c, .int .i64 l[k].s, .int .i64 l[k].v, .int .i64 l[k].m, .bool l[k].b, .bool l[k].o] 54)
      have hf' := hf.alloc (.cells #[.int .i64 l[k].k, .int .i64 l[k].g, .int .i64 l[k].c, .int .i64 l[k].s, .int .i64 l[k].v, .int .i64 l[k].m, .bool l[k].b, .bool l[k].o] 54)
      go_wp2_with (first
        | (go_at_call 22; refine (step_any hza hzb o1 (by omega) (by omega) l[k] _).mono ?_; rintro e w2 ⟨a2, b2, rfl, hza2, hzb2, hf2⟩
           have hb5 := hb4'.fr hf2 (fun h => h)
           have e0 : w2.cell? ⟨w.heap.size, 0, none⟩ = some (.complex .f64 a.1 a.2) := hb5.cell 0
           have e1 : w2.cell? ⟨w.heap.size, 1, none⟩ = some (.complex .f64 b.1 b.2) := hb5.cell 1
           have y0 := hb5.frozen 0
           have y1 := hb5.frozen 1
           have hg5 := hb5.lt
           have hb6 := (hb5.set_ 0 (.complex .f64 a2.1 a2.2)).set_ 1 (.complex .f64 b2.1 b2.2)
           have hown2 := ((hown'.no hf2).setOther hb5 (by decide) 0 (.complex .f64 a2.1 a2.2)).setOther (hb5.set_ 0 (.complex .f64 a2.1 a2.2)) (by decide) 1 (.complex .f64 b2.1 b2.2)
           have hf6 := ((hf'.trans hf2).setNew (Nat.le_refl _) 0 (.complex .f64 a2.1 a2.2)).setNew (Nat.le_refl _) 1 (.complex .f64 b2.1 b2.2))
        | (at_builtin; go_must (refine wpList_apdAll (S := zS) el32 rfl (.tmp 24) (.tmp 27) rfl w.heap.size u5 zs [a2] rfl (hown2.alloc _) ⟨w2.heap.size, 0, none⟩ 1 1 rfl rfl (fun _ => SlS.blk1 (new_at (n := w2.heap.size) (by simp [World.setCell]) 23 #[.complex .f64 a2.1 a2.2]) rfl) (by simp; omega) (by decide) (hf6.alloc _).size ?_); intro v' w3 hap))
      go_roundw
      case rel => exact ⟨k + 1, zs ++ [a2], a2, b2, by go_num, by omega, hap.1, by rw [way_snoc, st_succ hlt]; exact hzs.snoc hza2, (hb6.alloc _).grown hap.2.1 (fun e => hown2.blk_ne hb6 (by decide) e.symm), by rw [st_succ hlt]; exact hza2, by rw [st_succ hlt]; exact hzb2, hap.fr (hf6.alloc _) hown2 (Nat.le_refl _)⟩
      case measure => simp [intOf]; omega
    · clear hA
      have hkl : k = l.length := by omega
      subst hkl
      go_wp2
      go_ret2
      exact ⟨_, zs, rfl, hown, hzs, hf⟩
end Go.Proofs.Ytmamolfbboffhaa
