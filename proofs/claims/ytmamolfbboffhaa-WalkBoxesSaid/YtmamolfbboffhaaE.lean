/- The end of a path; too long a trace; the small case that each statement asks. -/
import Derived.Test.YtmamolfbboffhaaD
namespace Go.Proofs.Ytmamolfbboffhaa
open Go.RowKit
attribute [local go_sem] run_store_float run_store_complex

def Ended (l : List Ev) (w : World) (e : Ending) (w' : World) : Prop := ∃ a b : Zw, e = .returned (.tuple #[.complex .f64 a.1 a.2, .complex .f64 b.1 b.2, .int .i64 0]) ∧ Zv a (st l l.length).1 ∧ Zv b (st l l.length).2 ∧ Fr No w w'
set_option maxHeartbeats 4000000 in
theorem end_any {w : World} {A : Option Addr} (c : Nat) {l : List Ev} (hA : SlS evS w A l) (hl : l.length ≤ 2000) : Calls Try.prog 16 #[.slice A l.length c] w (Ended l w) := by
  go_enter Try.func16, Try.ntmps16
  go_wp2
  go_loopw [14] (fun i wr => ∃ (k : Nat) (a b : Zw), i = .int .i64 k ∧ k ≤ l.length ∧ Blk wr w.heap.size 57 #[zV a, zV b] ∧ Zv a (st l k).1 ∧ Zv b (st l k).2 ∧ Fr No w wr) (fun i _ => l.length - (intOf i).toNat)
  case atStart =>
    have hz0 : Zv (0, 0) (0, 0) := ⟨val_zero, val_zero⟩
    have hz1 : Zv (one, 0) (1, 0) := ⟨val_one, val_zero⟩
    exact ⟨0, (0, 0), (one, 0), rfl, by omega, Blk.new w 57 _, hz0, hz1, (Fr.refl No w).alloc _⟩
  case round =>
    obtain ⟨k, a, b, rfl, hk, hb4, hza, hzb, hf⟩ := hrel
    unfold zV at hb4
    have c0 : wr.cell? ⟨w.heap.size, 0, none⟩ = some (.complex .f64 a.1 a.2) := hb4.cell 0
    have c1 : wr.cell? ⟨w.heap.size, 1, none⟩ = some (.complex .f64 b.1 b.2) := hb4.cell 1
    have z0 := hb4.frozen 0
    have z1 := hb4.frozen 1
    have hg4 := hb4.lt
    by_cases hlt : k < l.length
    · obtain ⟨ba, off, rfl, hbb, d0, d1, d2, d3, d4, d5, d6, d7⟩ := Events_at (hA.no hf) hlt
      clear hA
      obtain ⟨o1, o2, o3⟩ := st_ok l k hk
      have hb4' := hb4.alloc (.cells #[.int .i64 l[k].k, .int .i64 l[k].g, .int .i64 l[k].c, .int .i64 l[k].s, .int .i64 l[k].v, .int .i64 l[k].m, .bool l[k].b, .bool l[k].o] 54)
      have hf' := hf.alloc (.cells #[.int .i64 l[k].k, .int .i64 l[k].g, .int .i64 l[k].c, .int .i64 l[k].s, .int .i64 l[k].v, .int .i64 l[k].m, .bool l[k].b, .bool l[k].o] 54)
      go_wp2_with (go_at_call 22; refine (step_any hza hzb o1 (by omega) (by omega) l[k] _).mono ?_; rintro e w2 ⟨a2, b2, rfl, hza2, hzb2, hf2⟩
                   have hb5 := hb4'.fr hf2 (fun h => h)
                   have e0 : w2.cell? ⟨w.heap.size, 0, none⟩ = some (.complex .f64 a.1 a.2) := hb5.cell 0
                   have e1 : w2.cell? ⟨w.heap.size, 1, none⟩ = some (.complex .f64 b.1 b.2) := hb5.cell 1
                   have y0 := hb5.frozen 0
                   have y1 := hb5.frozen 1
                   have hg5 := hb5.lt)
      go_roundw
      case rel => exact ⟨k + 1, a2, b2, by go_num, by omega, (hb5.set_ 0 _).set_ 1 _, by rw [st_succ hlt]; exact hza2, by rw [st_succ hlt]; exact hzb2, ((hf'.trans hf2).setNew (Nat.le_refl _) 0 _).setNew (Nat.le_refl _) 1 _⟩
      case measure => simp [intOf]; omega
    · clear hA
      have hkl : k = l.length := by omega
      subst hkl
      go_wp2
      go_quiet (fail)
      rename_i nq
      go_wp2
      refine bodyPost_ret (v := .tuple #[.complex .f64 a.1 a.2, .complex .f64 b.1 b.2, .int .i64 0]) (by simp [results, Try.results16, go_sem]) rfl ⟨a, b, rfl, hza, hzb, ?_⟩
      exact hf.drewN nq

set_option maxHeartbeats 1000000 in
theorem path_long (A : Option Addr) (n c : Nat) (w : World) (h : 2000 < n) (hn : n ≤ 9223372036854775807) : Calls Try.prog 15 #[.slice A n c] w fun e w' => e = .returned (.tuple #[.slice none 0 0, .int .i64 2]) ∧ w = w' := by
  go_enter Try.func15, Try.ntmps15
  go_wp2
  go_ret2
  exact ⟨rfl, rfl⟩
set_option maxHeartbeats 1000000 in
theorem end_long (A : Option Addr) (n c : Nat) (w : World) (h : 2000 < n) (hn : n ≤ 9223372036854775807) : Calls Try.prog 16 #[.slice A n c] w fun e w' => e = .returned (.tuple #[.complex .f64 0 0, .complex .f64 0 0, .int .i64 2]) ∧ w = w' := by
  go_enter Try.func16, Try.ntmps16
  go_wp2
  refine bodyPost_ret (v := .tuple #[.complex .f64 0 0, .complex .f64 0 0, .int .i64 2]) (by simp [results, Try.results16, go_sem]) rfl ⟨rfl, rfl⟩

def ev1 : Ev := ⟨1, 0, 0, 0, 0, 0, false, false⟩
def ev2 : Ev := ⟨9, 1, 0, 0, 0, 0, false, false⟩
theorem val_mtwo : Val 0 13835058055282163712 (-2) := ⟨true, 51, by decide, fun _ => by decide⟩
def Tells (b : Bool) (w : World) (e : Ending) (w' : World) : Prop := e = .returned (.bool b) ∧ Fr No w w'
theorem OwnS.sl {α : Type} {S : Shape α} {E : TypeId} {B : Nat} {w : World} {xs : List α} {A : Option Addr} {n c : Nat} (h : OwnS S E B w (.slice A n c) xs) : SlS S w A xs := by
  obtain ⟨A', c', e, h', _⟩ := h.form
  cases e
  exact h'
theorem zv_eq {a b : Zw} {p : Int × Int} (h : Zv a p) (h' : Zv b p) : FloatKind.f64.format.order a.1 b.1 = some .eq ∧ FloatKind.f64.format.order a.2 b.2 = some .eq :=
  ⟨(val_order h.1 h'.1).trans (by simp), (val_order h.2 h'.2).trans (by simp)⟩

theorem two_way : way [ev1, ev2] 2 = [(0, 0), (0, 1), (-2, 1)] := by decide
theorem two_zs {zs : List Zw} (h : Zvs zs (way [ev1, ev2] [ev1, ev2].length)) : ∃ z0 z1 z2, zs = [z0, z1, z2] ∧ Zv z1 (0, 1) ∧ Zv z2 (-2, 1) := by
  have h' : Zvs zs [(0, 0), (0, 1), (-2, 1)] := by rw [← two_way]; exact h
  match zs, h' with
  | [z0, z1, z2], h' => exact ⟨z0, z1, z2, rfl, h'.2 1 (by simp) (by simp), h'.2 2 (by simp) (by simp)⟩
  | [], h' => exact absurd h'.1 (by simp)
  | [_], h' => exact absurd h'.1 (by simp)
  | [_, _], h' => exact absurd h'.1 (by simp)
  | _ :: _ :: _ :: _ :: _, h' => exact absurd h'.1 (by simp)
set_option maxHeartbeats 4000000 in
theorem two_any (w : World) : Calls Try.prog 8 #[] w (Tells true w) := by
  have hb0 := Blk.new w 54 #[.int .i64 1, .int .i64 0, .int .i64 0, .int .i64 0, .int .i64 0, .int .i64 0, .bool false, .bool false, .int .i64 9, .int .i64 1, .int .i64 0, .int .i64 0, .int .i64 0, .int .i64 0, .bool false, .bool false]
  have hsl : SlS evS (w.alloc (.cells #[.int .i64 1, .int .i64 0, .int .i64 0, .int .i64 0, .int .i64 0, .int .i64 0, .bool false, .bool false, .int .i64 9, .int .i64 1, .int .i64 0, .int .i64 0, .int .i64 0, .int .i64 0, .bool false, .bool false] 54)) (some ⟨w.heap.size, 0, none⟩) [ev1, ev2] := (OwnS.blk (S := evS) (B := w.heap.size) hb0 (Nat.le_refl _) [ev1, ev2] rfl (by decide)).sl
  go_enter Try.func8, Try.ntmps8
  go_wp2_with (first
    | (go_at_call 15; refine (path_any (l := [ev1, ev2]) 2 hsl (by decide)).mono ?_; rintro e w1 ⟨v, zs, rfl, hown, hzs, hf1⟩
       obtain ⟨A1, c1, rfl, hz, _⟩ := hown.form
       obtain ⟨z0, z1, z2, rfl, hv1, hv2⟩ := two_zs hzs
       obtain ⟨b1, o1, rfl, hb1, k1⟩ := hz.at_ (k := 1) (by simp)
       obtain ⟨_, _, e2, _, k2⟩ := hz.at_ (k := 2) (by simp)
       cases e2
       have d1 : w1.cell? ⟨b1, o1 + 1, none⟩ = some (.complex .f64 z1.1 z1.2) := k1 0 _ rfl
       have d2 : w1.cell? ⟨b1, o1 + 2, none⟩ = some (.complex .f64 z2.1 z2.2) := k2 0 _ rfl
       obtain ⟨q1, q2⟩ := zv_eq hv1 (b := (0, one)) ⟨val_zero, val_one⟩
       obtain ⟨q3, q4⟩ := zv_eq hv2 (b := (13835058055282163712, one)) ⟨val_mtwo, val_one⟩
       unfold one at q2 q4
       clear hz k1 k2 hzs)
    | (go_at_call 9; refine (turn_any 2 _).mono ?_; rintro e w2 ⟨rfl, rfl⟩))
  go_ret
  exact ⟨rfl, ((Fr.refl No w).alloc _).trans hf1⟩
end Go.Proofs.Ytmamolfbboffhaa
