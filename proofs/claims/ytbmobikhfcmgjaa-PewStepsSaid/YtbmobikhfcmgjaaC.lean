/- First, Take, List, Has, Drop. -/
import Derived.Test.YtbmobikhfcmgjaaB
namespace Go.Proofs.Ytbmobikhfcmgjaa
open Go.RowKit

def Gave (x : Tr) (b : Bool) (w : World) (e : Ending) (w' : World) : Prop := e = .returned (.tuple #[.agg #[.int .i64 x.1, .int .i64 x.2.1, .int .i64 x.2.2], .bool b]) ∧ Fr No w w'
set_option maxHeartbeats 1000000 in
theorem first_nil (w : World) : Calls Try.prog 18 #[.pointer none] w (Gave (0, 0, 0) false w) := by
  go_enter Try.func18, Try.ntmps18
  go_wp2_with (go_at_call 13; refine (len_nil _).mono ?_; rintro e w' ⟨rfl, rfl⟩)
  refine bodyPost_ret (v := .tuple #[.agg #[.int .i64 0, .int .i64 0, .int .i64 0], .bool false]) (by simp [results, Try.results18, go_sem]) rfl ⟨rfl, ?_⟩
  exact (Fr.refl _ _).alloc _
set_option maxHeartbeats 1000000 in
theorem first_none {w : World} {g B : Nat} (h : PewIs w g B []) : Calls Try.prog 18 #[.pointer (some ⟨g, 0, none⟩)] w (Gave (0, 0, 0) false w) := by
  have h' := fun o => h.no ((Fr.refl No w).alloc o)
  go_enter Try.func18, Try.ntmps18
  go_wp2_with (go_at_call 13; refine (len_any (h' _)).mono ?_; rintro e w' ⟨rfl, rfl⟩)
  refine bodyPost_ret (v := .tuple #[.agg #[.int .i64 0, .int .i64 0, .int .i64 0], .bool false]) (by simp [results, Try.results18, go_sem]) rfl ⟨rfl, ?_⟩
  exact (Fr.refl _ _).alloc _
set_option maxHeartbeats 1000000 in
theorem first_some {w : World} {g B : Nat} {s : Seat} {r : List Seat} (h : PewIs w g B (s :: r)) : Calls Try.prog 18 #[.pointer (some ⟨g, 0, none⟩)] w (Gave s.2 true w) := by
  have h' := fun o => h.no ((Fr.refl No w).alloc o)
  have hs := h.2.2.1.1
  have c0 : w.cell? ⟨g, 0, none⟩ = some (.pointer (some ⟨s.1, 0, none⟩)) := h.1.cell 0
  have d0 : w.cell? ⟨s.1, 0, none⟩ = some (.int .i64 s.2.1) := hs.cell 0
  have d1 : w.cell? ⟨s.1, 1, none⟩ = some (.int .i64 s.2.2.1) := hs.cell 1
  have d2 : w.cell? ⟨s.1, 2, none⟩ = some (.int .i64 s.2.2.2) := hs.cell 2
  have hg := h.lt
  have hsl := hs.lt
  have hn : ((r.length : Int) + 1 == 0) = false := by simp; omega
  go_enter Try.func18, Try.ntmps18
  go_wp2_with (go_at_call 13; refine (len_any (h' _)).mono ?_; rintro e w' ⟨rfl, rfl⟩)
  refine bodyPost_ret (v := .tuple #[.agg #[.int .i64 s.2.1, .int .i64 s.2.2.1, .int .i64 s.2.2.2], .bool true]) (by simp [results, Try.results18, go_sem]) rfl ⟨rfl, ?_⟩
  exact (Fr.refl _ _).alloc _

/- Take -/
set_option maxHeartbeats 1000000 in
theorem take_nil (w : World) : Calls Try.prog 12 #[.pointer none] w (Gave (0, 0, 0) false w) := by
  have hb0 := Blk.new w 28 #[.int .i64 0, .int .i64 0, .int .i64 0]
  have hf0 := (Fr.refl No w).alloc (.cells #[.int .i64 0, .int .i64 0, .int .i64 0] 28)
  go_enter Try.func12, Try.ntmps12
  go_wp2_with (go_at_call 18; refine (first_nil _).mono ?_; rintro e w1 ⟨rfl, hf1⟩
               have hb1 := hb0.fr hf1 (fun h => h)
               have e0 : w1.cell? ⟨w.heap.size, 0, none⟩ = some (.int .i64 0) := hb1.cell 0
               have e1 : w1.cell? ⟨w.heap.size, 1, none⟩ = some (.int .i64 0) := hb1.cell 1
               have e2 : w1.cell? ⟨w.heap.size, 2, none⟩ = some (.int .i64 0) := hb1.cell 2
               have y0 := hb1.frozen 0
               have y1 := hb1.frozen 1
               have y2 := hb1.frozen 2
               have hsz := hb1.lt)
  refine bodyPost_ret (v := .tuple #[.agg #[.int .i64 0, .int .i64 0, .int .i64 0], .bool false]) (by simp [results, Try.results12, go_sem, e0, e1, e2, hsz]) rfl ⟨rfl, ?_⟩
  exact (((((hf0.trans hf1).setNew (Nat.le_refl _) 0 _).setNew (Nat.le_refl _) 1 _).setNew (Nat.le_refl _) 2 _).alloc _)
set_option maxHeartbeats 1000000 in
theorem take_none {w : World} {g B : Nat} (h : PewIs w g B []) : Calls Try.prog 12 #[.pointer (some ⟨g, 0, none⟩)] w (Gave (0, 0, 0) false w) := by
  have hb0 := Blk.new w 28 #[.int .i64 0, .int .i64 0, .int .i64 0]
  have hf0 := (Fr.refl No w).alloc (.cells #[.int .i64 0, .int .i64 0, .int .i64 0] 28)
  have h0 := h.no hf0
  go_enter Try.func12, Try.ntmps12
  go_wp2_with (go_at_call 18; refine (first_none h0).mono ?_; rintro e w1 ⟨rfl, hf1⟩
               have hb1 := hb0.fr hf1 (fun h => h)
               have e0 : w1.cell? ⟨w.heap.size, 0, none⟩ = some (.int .i64 0) := hb1.cell 0
               have e1 : w1.cell? ⟨w.heap.size, 1, none⟩ = some (.int .i64 0) := hb1.cell 1
               have e2 : w1.cell? ⟨w.heap.size, 2, none⟩ = some (.int .i64 0) := hb1.cell 2
               have y0 := hb1.frozen 0
               have y1 := hb1.frozen 1
               have y2 := hb1.frozen 2
               have hsz := hb1.lt)
  refine bodyPost_ret (v := .tuple #[.agg #[.int .i64 0, .int .i64 0, .int .i64 0], .bool false]) (by simp [results, Try.results12, go_sem, e0, e1, e2, hsz]) rfl ⟨rfl, ?_⟩
  exact (((((hf0.trans hf1).setNew (Nat.le_refl _) 0 _).setNew (Nat.le_refl _) 1 _).setNew (Nat.le_refl _) 2 _).alloc _)

def Took (g B : Nat) (x : Tr) (r : List Seat) (w : World) (e : Ending) (w' : World) : Prop := e = .returned (.tuple #[.agg #[.int .i64 x.1, .int .i64 x.2.1, .int .i64 x.2.2], .bool true]) ∧ PewIs w' g B r ∧ Fr (Only g) w w'
set_option maxHeartbeats 2000000 in
theorem take_last {w : World} {g B : Nat} {s : Seat} (h : PewIs w g B [s]) : Calls Try.prog 12 #[.pointer (some ⟨g, 0, none⟩)] w (Took g B s.2 [] w) := by
  have hb0 := Blk.new w 28 #[.int .i64 0, .int .i64 0, .int .i64 0]
  have hf0 := (Fr.refl No w).alloc (.cells #[.int .i64 0, .int .i64 0, .int .i64 0] 28)
  have h0 := h.no hf0
  have hgl := h.lt
  have hne1 : g ≠ w.heap.size := by omega
  have hne2 : w.heap.size ≠ g := by omega
  have hss := h.2.2.1.1
  have hsg : s.1 ≠ g := hss.ne_ h.1 (by decide)
  have hgs : g ≠ s.1 := hsg.symm
  have hsl := hss.lt
  have hsn1 : s.1 ≠ w.heap.size := by omega
  have hsn2 : w.heap.size ≠ s.1 := by omega
  go_enter Try.func12, Try.ntmps12
  go_wp2_with (go_at_call 18; refine (first_some h0).mono ?_; rintro e w1 ⟨rfl, hf1⟩
               have hb1 := hb0.fr hf1 (fun h => h)
               have e0 : w1.cell? ⟨w.heap.size, 0, none⟩ = some (.int .i64 0) := hb1.cell 0
               have e1 : w1.cell? ⟨w.heap.size, 1, none⟩ = some (.int .i64 0) := hb1.cell 1
               have e2 : w1.cell? ⟨w.heap.size, 2, none⟩ = some (.int .i64 0) := hb1.cell 2
               have y0 := hb1.frozen 0
               have y1 := hb1.frozen 1
               have y2 := hb1.frozen 2
               have hsz := hb1.lt
               have h1 := h0.no hf1
               have hs1 := h1.2.2.1.1
               have c0 : w1.cell? ⟨g, 0, none⟩ = some (.pointer (some ⟨s.1, 0, none⟩)) := h1.1.cell 0
               have c1 : w1.cell? ⟨g, 1, none⟩ = some (.pointer (some ⟨s.1, 0, none⟩)) := h1.1.cell 1
               have c2 : w1.cell? ⟨g, 2, none⟩ = some (.int .i64 1) := h1.1.cell 2
               have d3 : w1.cell? ⟨s.1, 3, none⟩ = some (.pointer none) := hs1.cell 3
               have z0 := h1.1.frozen 0
               have z1 := h1.1.frozen 1
               have z2 := h1.1.frozen 2
               have hg1 := h1.lt
               have hsl1 := hs1.lt
               have hn1 : g ≠ w1.heap.size := by omega
               have hn2 : w1.heap.size ≠ g := by omega
               have hn3 : s.1 ≠ w1.heap.size := by omega
               have hn4 : w1.heap.size ≠ s.1 := by omega
               have hn5 : w.heap.size ≠ w1.heap.size := by omega
               have hn6 : w1.heap.size ≠ w.heap.size := by omega)
  refine bodyPost_ret (v := .tuple #[.agg #[.int .i64 s.2.1, .int .i64 s.2.2.1, .int .i64 s.2.2.2], .bool true]) (by simp [results, Try.results12, go_sem, e0, e1, e2, hsz, hne1, hne2]) rfl ⟨rfl, ?_, ?_⟩
  · exact ⟨(((((((h1.1.set_ 0 _).set_ 2 _).set_ 1 _).far (p := ⟨w.heap.size, 0, none⟩) hne1 _).far (p := ⟨w.heap.size, 1, none⟩) hne1 _).far (p := ⟨w.heap.size, 2, none⟩) hne1 _).alloc _), h.2.1, trivial, by simp, by simp, by simp⟩
  · exact (((((((((hf0.trans hf1).mono (fun _ _ h => h.elim)).setOnly 0 _).setOnly 2 _).setOnly 1 _).setNew (Nat.le_refl _) 0 _).setNew (Nat.le_refl _) 1 _).setNew (Nat.le_refl _) 2 _).alloc _)
set_option maxHeartbeats 2000000 in
theorem take_more {w : World} {g B : Nat} {s t : Seat} {r : List Seat} (h : PewIs w g B (s :: t :: r)) : Calls Try.prog 12 #[.pointer (some ⟨g, 0, none⟩)] w (Took g B s.2 (t :: r) w) := by
  have hb0 := Blk.new w 28 #[.int .i64 0, .int .i64 0, .int .i64 0]
  have hf0 := (Fr.refl No w).alloc (.cells #[.int .i64 0, .int .i64 0, .int .i64 0] 28)
  have h0 := h.no hf0
  have hgl := h.lt
  have hlen : r.length ≤ 1024 := by have := h.2.2.2.2.1; simp at this; omega
  have HL := Lib.hid (show some (Value.int .i64 ((s :: t :: r).length : Nat)) = some (Value.int .i64 ((r.length : Int) + 2)) by simp; omega)
  have hne1 : g ≠ w.heap.size := by omega
  have hne2 : w.heap.size ≠ g := by omega
  have hss := h.2.2.1.1
  have hsg : s.1 ≠ g := hss.ne_ h.1 (by decide)
  have hgs : g ≠ s.1 := hsg.symm
  have hsl := hss.lt
  have hsn1 : s.1 ≠ w.heap.size := by omega
  have hsn2 : w.heap.size ≠ s.1 := by omega
  go_enter Try.func12, Try.ntmps12
  go_wp2_with (go_at_call 18; refine (first_some h0).mono ?_; rintro e w1 ⟨rfl, hf1⟩
               have hb1 := hb0.fr hf1 (fun h => h)
               have e0 : w1.cell? ⟨w.heap.size, 0, none⟩ = some (.int .i64 0) := hb1.cell 0
               have e1 : w1.cell? ⟨w.heap.size, 1, none⟩ = some (.int .i64 0) := hb1.cell 1
               have e2 : w1.cell? ⟨w.heap.size, 2, none⟩ = some (.int .i64 0) := hb1.cell 2
               have y0 := hb1.frozen 0
               have y1 := hb1.frozen 1
               have y2 := hb1.frozen 2
               have hsz := hb1.lt
               have h1 := h0.no hf1
               have hs1 := h1.2.2.1.1
               have c0 : w1.cell? ⟨g, 0, none⟩ = some (.pointer (some ⟨s.1, 0, none⟩)) := h1.1.cell 0
               have c2 : w1.cell? ⟨g, 2, none⟩ = some (.int .i64 ((r.length : Int) + 2)) := (h1.1.cell 2).trans (HL.out)
               have d3 : w1.cell? ⟨s.1, 3, none⟩ = some (.pointer (some ⟨t.1, 0, none⟩)) := hs1.cell 3
               have z0 := h1.1.frozen 0
               have z1 := h1.1.frozen 1
               have z2 := h1.1.frozen 2
               have hg1 := h1.lt
               have hsl1 := hs1.lt
               have hn1 : g ≠ w1.heap.size := by omega
               have hn2 : w1.heap.size ≠ g := by omega
               have hn3 : s.1 ≠ w1.heap.size := by omega
               have hn4 : w1.heap.size ≠ s.1 := by omega
               have hn5 : w.heap.size ≠ w1.heap.size := by omega
               have hn6 : w1.heap.size ≠ w.heap.size := by omega)
  have hW : Fr (fun k => k = g ∨ k = w.heap.size) w1 (((((((w1.setCell ⟨g, 0, none⟩ (.pointer (some ⟨t.1, 0, none⟩))).setCell ⟨g, 2, none⟩ (.int .i64 ((r.length : Int) + 2 - 1))).setCell ⟨w.heap.size, 0, none⟩ (.int .i64 s.2.1)).setCell ⟨w.heap.size, 1, none⟩ (.int .i64 s.2.2.1)).setCell ⟨w.heap.size, 2, none⟩ (.int .i64 s.2.2.2)).alloc (.cells #[.int .i64 s.2.1, .int .i64 s.2.2.1, .int .i64 s.2.2.2] 28))) :=
    ((((((Fr.refl _ w1).setCell (p := ⟨g, 0, none⟩) (fun _ => .inl rfl) _).setCell (p := ⟨g, 2, none⟩) (fun _ => .inl rfl) _).setCell (p := ⟨w.heap.size, 0, none⟩) (fun _ => .inr rfl) _).setCell (p := ⟨w.heap.size, 1, none⟩) (fun _ => .inr rfl) _).setCell (p := ⟨w.heap.size, 2, none⟩) (fun _ => .inr rfl) _).alloc _
  refine bodyPost_ret (v := .tuple #[.agg #[.int .i64 s.2.1, .int .i64 s.2.2.1, .int .i64 s.2.2.2], .bool true]) (by simp [results, Try.results12, go_sem, e0, e1, e2, hsz, hne1, hne2]) rfl ⟨rfl, ?_, ?_⟩
  · have hb := ((((((h1.1.set_ 0 (.pointer (some ⟨t.1, 0, none⟩))).set_ 2 (.int .i64 ((r.length : Int) + 2 - 1))).far (p := ⟨w.heap.size, 0, none⟩) hne1 (.int .i64 s.2.1)).far (p := ⟨w.heap.size, 1, none⟩) hne1 (.int .i64 s.2.2.1)).far (p := ⟨w.heap.size, 2, none⟩) hne1 (.int .i64 s.2.2.2)).alloc (.cells #[.int .i64 s.2.1, .int .i64 s.2.2.1, .int .i64 s.2.2.2] 28))
    refine ⟨?_, h.2.1, h1.2.2.1.2.2.fr hW ?_, (List.nodup_cons.1 h.2.2.2.1).2, by have := h.2.2.2.2.1; simp at this ⊢; omega, fun u hu => h.2.2.2.2.2 u (by simp at hu ⊢; exact .inr hu)⟩
    · have e : (((t :: r).length : Nat) : Int) = (r.length : Int) + 2 - 1 := by simp; omega
      rw [e]
      exact hb
    · rintro u hu (e | e)
      · exact h1.2.2.1.ne h1.1 (by decide) u (by simp at hu ⊢; exact .inr hu) e
      · exact h1.2.2.1.ne hb1 (by decide) u (by simp at hu ⊢; exact .inr hu) e
  · exact ((((((((hf0.trans hf1).mono (fun _ _ h => h.elim)).setOnly 0 _).setOnly 2 _).setNew (Nat.le_refl _) 0 _).setNew (Nat.le_refl _) 1 _).setNew (Nat.le_refl _) 2 _).alloc _)
theorem take_some {w : World} {g B : Nat} {s : Seat} {r : List Seat} (h : PewIs w g B (s :: r)) : Calls Try.prog 12 #[.pointer (some ⟨g, 0, none⟩)] w (Took g B s.2 r w) := by
  cases r with
  | nil => exact take_last h
  | cons t r => exact take_more h
end Go.Proofs.Ytbmobikhfcmgjaa
