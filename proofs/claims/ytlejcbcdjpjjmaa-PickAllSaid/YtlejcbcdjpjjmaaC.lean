/- New, Next, Draw, Left, Copy. -/
import Derived.Test.YtlejcbcdjpjjmaaB
namespace Go.Proofs.Ytlejcbcdjpjjmaa
open Go.RowKit

def Cloned (xs : List Int) (w : World) (e : Ending) (w' : World) : Prop := ∃ v, e = .returned v ∧ Own 3 w.heap.size w' v xs ∧ Fr No w w'
set_option maxHeartbeats 1000000 in
theorem clone_any (A : Option Addr) (n c : Nat) (xs : List Int) (w : World) (hn : xs.length = n) (hx : Ints w A xs) (hl : n ≤ 1000000) : Calls Try.prog 23 #[.slice A n c] w (Cloned xs w) := by
  have hq := fun (w : World) (A : Option Addr) (n c : Nat) => Lib.run_eql_slice_nil (P := Try.prog) w 22 3 A n c 0 0 Try.underlying22
  cases A with
  | none =>
    obtain rfl : xs = [] := by
      rcases xs with _ | ⟨x, xs⟩
      · rfl
      · obtain ⟨ad, h, _⟩ := hx (by simp)
        cases h
    clear hx
    go_enter Try.func23, Try.ntmps23
    go_wp2
    go_ret
    exact ⟨_, rfl, Own.nil _ _ _, Fr.refl _ _⟩
  | some ad =>
    have hf1 := (Fr.refl No w).alloc (Obj.cells #[] 3)
    have hx1 := hx.fr hf1 (fun _ _ h => h)
    have ho : Own 3 w.heap.size (w.alloc (Obj.cells #[] 3)) (.slice (some ⟨w.heap.size, 0, none⟩) 0 0) [] :=
      ⟨rfl, .inr ⟨_, 0, #[], rfl, Nat.le_refl _, Blk.new _ _ _, Nat.le_refl _, Nat.zero_le _, rfl, rfl⟩⟩
    clear hx
    go_enter Try.func23, Try.ntmps23
    go_wp2_with (at_builtin; go_must (refine wpList_pushAll ints22 rfl (.tmp 5) (.tmp 6) rfl w.heap.size (.slice (some ⟨w.heap.size, 0, none⟩) 0 0) [] xs rfl ho (some ad) n c rfl hn hx1 (by simp; omega) hf1.size ?_); intro v1 w1 hap)
    go_ret
    exact ⟨_, rfl, hap.1, hap.fr hf1 ho (Nat.le_refl _)⟩

/- the three ways of New -/
set_option maxHeartbeats 1000000 in
theorem new_long (A B : Option Addr) (n c m d : Nat) (w : World) (h : 200 < n ∨ 64 < m) (hn : n ≤ 9223372036854775807) (hm : m ≤ 9223372036854775807) : Calls Try.prog 10 #[.slice A n c, .slice B m d] w fun e w' => e = .returned (.tuple #[.pointer none, .int .i64 2]) ∧ w = w' := by
  by_cases h0 : 200 < n
  · clear h
    go_enter Try.func10, Try.ntmps10
    go_wp2
    go_ret2
    exact ⟨rfl, rfl⟩
  · have h' : n ≤ 200 := by omega
    have h'' : 64 < m := by omega
    clear h
    go_enter Try.func10, Try.ntmps10
    go_wp2
    go_ret2
    exact ⟨rfl, rfl⟩

def Bad4 (w : World) (e : Ending) (w' : World) : Prop := e = .returned (.tuple #[.pointer none, .int .i64 4]) ∧ Fr No w w'
set_option maxHeartbeats 1000000 in
theorem new_badplan (A B : Option Addr) (c m d : Nat) (xs : List Int) (w : World) (hn : xs.length ≤ 200) (hm : m ≤ 64) (hx : Ints w A xs) (hb : ∃ x ∈ xs, badB (-1) x = true) : Calls Try.prog 10 #[.slice A xs.length c, .slice B m d] w (Bad4 w) := by
  have HB := Lib.hid hb
  clear hb
  have hf1 := (Fr.refl No w).alloc (Obj.cells #[Value.int IntKind.i64 (-1)] 3)
  have hx1 := hx.fr hf1 (fun _ _ h => h)
  go_enter Try.func10, Try.ntmps10
  go_wp2_with (first
    | (go_at_call 20; refine (mk_bad (-1) _).mono ?_; rintro e w' ⟨rfl, rfl⟩)
    | (go_at_call 22; refine (contains_yes w.heap.size (-1) A c xs _ (cell_new1 _ _ _) hx1 (by omega) HB.out).mono ?_; rintro e w' ⟨rfl, rfl⟩))
  go_ret2
  exact ⟨rfl, hf1⟩
set_option maxHeartbeats 1000000 in
theorem new_baddraws (A B : Option Addr) (c d : Nat) (xs ys : List Int) (w : World) (hn : xs.length ≤ 200) (hm : ys.length ≤ 64) (hx : Ints w A xs) (hy : Ints w B ys) (hg : ∀ x ∈ xs, badB (-1) x = false) (hb : ∃ y ∈ ys, badB 0 y = true) : Calls Try.prog 10 #[.slice A xs.length c, .slice B ys.length d] w (Bad4 w) := by
  have HB := Lib.hid hb
  have HG := Lib.hid hg
  clear hb hg
  have hf1 := (Fr.refl No w).alloc (Obj.cells #[Value.int IntKind.i64 (-1)] 3)
  have hf2 := hf1.alloc (Obj.cells #[Value.int IntKind.i64 0] 3)
  have hx1 := hx.fr hf1 (fun _ _ h => h)
  have hy2 := hy.fr hf2 (fun _ _ h => h)
  go_enter Try.func10, Try.ntmps10
  have tok := True.intro
  go_wp2_with (first
    | (go_at_call 20; have _t := tok; refine (mk_bad (-1) _).mono ?_; rintro e w' ⟨rfl, rfl⟩; clear tok)
    | (go_at_call 20; refine (mk_bad 0 _).mono ?_; rintro e w' ⟨rfl, rfl⟩)
    | (go_at_call 22; refine (contains_no w.heap.size (-1) A c xs _ (cell_new1 _ _ _) hx1 (by omega) HG.out).mono ?_; rintro e w' ⟨rfl, rfl⟩)
    | (go_at_call 22; refine (contains_yes (w.heap.size + 1) 0 B d ys _ (cell_new2 _ _ _ _) hy2 (by omega) HB.out).mono ?_; rintro e w' ⟨rfl, rfl⟩))
  go_ret2
  exact ⟨rfl, hf2⟩

def Made (P D : List Int) (w : World) (e : Ending) (w' : World) : Prop := ∃ g, e = .returned (.tuple #[.pointer (some ⟨g, 0, none⟩), .int .i64 0]) ∧ CurIs w' g P D ∧ Fr No w w' ∧ w.heap.size ≤ g
set_option maxHeartbeats 1000000 in
theorem new_good (A B : Option Addr) (n m c d : Nat) (xs ys : List Int) (w : World) (en : xs.length = n) (em : ys.length = m) (hn : n ≤ 200) (hm : m ≤ 64) (hx : Ints w A xs) (hy : Ints w B ys) (hg : ∀ x ∈ xs, badB (-1) x = false) (hb : ∀ y ∈ ys, badB 0 y = false) : Calls Try.prog 10 #[.slice A n c, .slice B m d] w (Made xs ys w) := by
  subst en
  subst em
  have HB := Lib.hid hb
  have HG := Lib.hid hg
  clear hb hg
  have hf1 := (Fr.refl No w).alloc (Obj.cells #[Value.int IntKind.i64 (-1)] 3)
  have hf2 := hf1.alloc (Obj.cells #[Value.int IntKind.i64 0] 3)
  have hx1 := hx.fr hf1 (fun _ _ h => h)
  have hx2 := hx.fr hf2 (fun _ _ h => h)
  have hy2 := hy.fr hf2 (fun _ _ h => h)
  go_enter Try.func10, Try.ntmps10
  have tok := True.intro
  have tok2 := True.intro
  go_wp2_with (first
    | (go_at_call 20; have _t := tok; refine (mk_bad (-1) _).mono ?_; rintro e w' ⟨rfl, rfl⟩; clear tok)
    | (go_at_call 20; refine (mk_bad 0 _).mono ?_; rintro e w' ⟨rfl, rfl⟩)
    | (go_at_call 22; refine (contains_no w.heap.size (-1) A c xs _ (cell_new1 _ _ _) hx1 (by omega) HG.out).mono ?_; rintro e w' ⟨rfl, rfl⟩)
    | (go_at_call 22; refine (contains_no (w.heap.size + 1) 0 B d ys _ (cell_new2 _ _ _ _) hy2 (by omega) HB.out).mono ?_; rintro e w' ⟨rfl, rfl⟩)
    | (go_at_call 23; have _t := tok2; refine (clone_any A _ c xs _ rfl hx2 (by omega)).mono ?_; rintro e w3 ⟨v3, rfl, hown3, hf3⟩; clear tok2
       obtain ⟨A3, c3, rfl, hc3, hm3, hd3⟩ := hown3.dat
       have hy3 := hy2.fr hf3 (fun _ _ h => h))
    | (go_at_call 23; refine (clone_any B _ d ys _ rfl hy3 (by omega)).mono ?_; rintro e w4 ⟨v4, rfl, hown4, hf4⟩
       obtain ⟨A4, c4, rfl, hc4, hm4, hd4⟩ := hown4.dat))
  go_ret2
  have hf5 := (Fr.refl No w4).alloc (Obj.cells #[.slice A3 xs.length c3, .slice A4 ys.length c4] 56)
  have hf := (hf2.trans hf3).trans hf4
  exact ⟨w4.heap.size, rfl, ⟨A3, c3, A4, c4, Blk.new _ _ _, hc3, hm3, hc4, hm4, (hd3.no hf4).no hf5, hd4.no hf5⟩, hf.trans hf5, hf.size⟩

/- Next -/
set_option maxHeartbeats 400000 in
theorem next_nil (w : World) : Calls Try.prog 14 #[.pointer none] w fun e w' => e = .returned (.tuple #[.int .i64 0, .bool false]) ∧ w = w' := by
  go_enter Try.func14, Try.ntmps14
  go_wp2
  go_ret2
  exact ⟨rfl, rfl⟩
set_option maxHeartbeats 400000 in
theorem next_none {g : Nat} {D : List Int} {w : World} (h : CurIs w g [] D) : Calls Try.prog 14 #[.pointer (some ⟨g, 0, none⟩)] w fun e w' => e = .returned (.tuple #[.int .i64 0, .bool false]) ∧ w = w' := by
  obtain ⟨Ap, cp, Ad, cd, h1, _⟩ := h
  have c0 : w.cell? ⟨g, 0, none⟩ = some (.slice Ap 0 cp) := h1.cell 0
  have h := hmf
  go_enter Try.func14, Try.ntmps14
  go_wp2_with (go_at_call 24; refine (take_none g 0 Ap cp _ c0).mono ?_; rintro e w' ⟨rfl, rfl⟩)
  go_ret2
  exact ⟨rfl, rfl⟩
def Nexted (g : Nat) (x : Int) (P D : List Int) (w : World) (e : Ending) (w' : World) : Prop := e = .returned (.tuple #[.int .i64 x, .bool true]) ∧ CurIs w' g P D ∧ Fr (Only g) w w'
set_option maxHeartbeats 400000 in
theorem next_some {g : Nat} {x : Int} {P D : List Int} {w : World} (h : CurIs w g (x :: P) D) : Calls Try.prog 14 #[.pointer (some ⟨g, 0, none⟩)] w (Nexted g x P D w) := by
  obtain ⟨Ap, cp, Ad, cd, h1, h2, h3, h4, h5, h6, h7⟩ := h
  have c0 : w.cell? ⟨g, 0, none⟩ = some (.slice Ap (P.length + 1) cp) := h1.cell 0
  have z0 := h1.frozen 0
  have hq := hmf
  have hle : P.length + 1 ≤ cp := h2
  clear h2
  go_enter Try.func14, Try.ntmps14
  go_wp2_with (go_at_call 24; refine (take_some g 0 Ap cp x P _ c0 z0 h6 hle h3).mono ?_; rintro e w' ⟨rfl, A', c', rfl, hd', hc', hm'⟩)
  go_ret2
  have hf := (Fr.refl (Only g) w).setOnly 0 (.slice A' P.length c')
  exact ⟨rfl, ⟨A', c', Ad, cd, h1.set_ 0 _, hc', hm', h4, h5, hd'.only h1 (by decide) hf, h7.only h1 (by decide) hf⟩, hf⟩

/- Draw -/
set_option maxHeartbeats 400000 in
theorem draw_bad (p : Option Addr) (n : Int) (w : World) (h : n < 1 ∨ 64 < n) : Calls Try.prog 12 #[.pointer p, .int .i64 n] w fun e w' => e = .returned (.tuple #[.int .i64 0, .int .i64 1]) ∧ w = w' := by
  by_cases h0 : n < 1
  · clear h
    go_enter Try.func12, Try.ntmps12
    go_wp2
    go_ret2
    exact ⟨rfl, rfl⟩
  · have h1 : 64 < n := by omega
    have h2 : ¬ n < 1 := h0
    clear h
    go_enter Try.func12, Try.ntmps12
    go_wp2
    go_ret2
    exact ⟨rfl, rfl⟩
set_option maxHeartbeats 400000 in
theorem draw_nil (n : Int) (w : World) (h1 : 1 ≤ n) (h2 : n ≤ 64) : Calls Try.prog 12 #[.pointer none, .int .i64 n] w fun e w' => e = .returned (.tuple #[.int .i64 0, .int .i64 0]) ∧ w = w' := by
  go_enter Try.func12, Try.ntmps12
  go_wp2
  go_ret2
  exact ⟨rfl, rfl⟩
set_option maxHeartbeats 400000 in
theorem draw_one (g : Nat) (w : World) : Calls Try.prog 12 #[.pointer (some ⟨g, 0, none⟩), .int .i64 1] w fun e w' => e = .returned (.tuple #[.int .i64 0, .int .i64 0]) ∧ w = w' := by
  go_enter Try.func12, Try.ntmps12
  go_wp2
  go_ret2
  exact ⟨rfl, rfl⟩
set_option maxHeartbeats 400000 in
theorem draw_none {g : Nat} {P : List Int} {w : World} (h : CurIs w g P []) (n : Int) (h1 : 2 ≤ n) (h2 : n ≤ 64) : Calls Try.prog 12 #[.pointer (some ⟨g, 0, none⟩), .int .i64 n] w fun e w' => e = .returned (.tuple #[.int .i64 0, .int .i64 0]) ∧ w = w' := by
  obtain ⟨Ap, cp, Ad, cd, hb, _⟩ := h
  have c0 : w.cell? ⟨g, 1, none⟩ = some (.slice Ad 0 cd) := hb.cell 1
  have hq := hmf
  have hn0 : (n == 1) = false := by simp; omega
  have hz : (0 : Int) % n = 0 := Int.zero_emod n
  go_enter Try.func12, Try.ntmps12
  go_wp2_with (go_at_call 24; refine (take_none g 1 Ad cd _ c0).mono ?_; rintro e w' ⟨rfl, rfl⟩)
  go_ret2
  exact ⟨by simp, rfl⟩
def Drawn (g : Nat) (r : Int) (P D : List Int) (w : World) (e : Ending) (w' : World) : Prop := e = .returned (.tuple #[.int .i64 r, .int .i64 0]) ∧ CurIs w' g P D ∧ Fr (Only g) w w'
set_option maxHeartbeats 400000 in
theorem draw_some {g : Nat} {x : Int} {P D : List Int} {w : World} (h : CurIs w g P (x :: D)) (n : Int) (h1 : 2 ≤ n) (h2 : n ≤ 64) (hx : 0 ≤ x) : Calls Try.prog 12 #[.pointer (some ⟨g, 0, none⟩), .int .i64 n] w (Drawn g (x % n) P D w) := by
  obtain ⟨Ap, cp, Ad, cd, hb, hp1, hp2, hd1, hd2, hp3, hd3⟩ := h
  have c0 : w.cell? ⟨g, 1, none⟩ = some (.slice Ad (D.length + 1) cd) := hb.cell 1
  have z0 := hb.frozen 1
  have hq := hmf
  have hle : D.length + 1 ≤ cd := hd1
  have hn0 : (n == 1) = false := by simp; omega
  clear hd1
  go_enter Try.func12, Try.ntmps12
  go_wp2_with (go_at_call 24; refine (take_some g 1 Ad cd x D _ c0 z0 hd3 hle hd2).mono ?_; rintro e w' ⟨rfl, A', c', rfl, hd', hc', hm'⟩)
  go_ret2
  have hf := (Fr.refl (Only g) w).setOnly 1 (.slice A' D.length c')
  exact ⟨rfl, ⟨Ap, cp, A', c', hb.set_ 1 _, hp1, hp2, hc', hm', hp3.only hb (by decide) hf, hd'.only hb (by decide) hf⟩, hf⟩

/- Left, Copy -/
set_option maxHeartbeats 400000 in
theorem left_nil (w : World) : Calls Try.prog 16 #[.pointer none] w fun e w' => e = .returned (.tuple #[.int .i64 0, .int .i64 0]) ∧ w = w' := by
  go_enter Try.func16, Try.ntmps16
  go_wp2
  go_ret2
  exact ⟨rfl, rfl⟩
set_option maxHeartbeats 400000 in
theorem left_any {g : Nat} {P D : List Int} {w : World} (h : CurIs w g P D) : Calls Try.prog 16 #[.pointer (some ⟨g, 0, none⟩)] w fun e w' => e = .returned (.tuple #[.int .i64 P.length, .int .i64 D.length]) ∧ ∃ n, w' = w.drewN n := by
  obtain ⟨Ap, cp, Ad, cd, hb, _⟩ := h
  have c0 : w.cell? ⟨g, 0, none⟩ = some (.slice Ap P.length cp) := hb.cell 0
  have c1 : w.cell? ⟨g, 1, none⟩ = some (.slice Ad D.length cd) := hb.cell 1
  go_enter Try.func16, Try.ntmps16
  go_wp2
  go_quiet (fail)
  go_wp2
  go_ret2
  exact ⟨rfl, _, rfl⟩
set_option maxHeartbeats 400000 in
theorem copy_nil (w : World) : Calls Try.prog 17 #[.pointer none] w fun e w' => e = .returned (.pointer none) ∧ w = w' := by
  go_enter Try.func17, Try.ntmps17
  go_wp2
  go_ret
  exact ⟨rfl, rfl⟩
def Copied (P D : List Int) (w : World) (e : Ending) (w' : World) : Prop := e = .returned (.pointer (some ⟨w.heap.size, 0, none⟩)) ∧ CurIs w' w.heap.size P D ∧ Fr No w w'
set_option maxHeartbeats 400000 in
theorem copy_any {g : Nat} {P D : List Int} {w : World} (h : CurIs w g P D) : Calls Try.prog 17 #[.pointer (some ⟨g, 0, none⟩)] w (Copied P D w) := by
  obtain ⟨Ap, cp, Ad, cd, hb, h2, h3, h4, h5, h6, h7⟩ := h
  have c0 : w.cell? ⟨g, 0, none⟩ = some (.slice Ap P.length cp) := hb.cell 0
  have c1 : w.cell? ⟨g, 1, none⟩ = some (.slice Ad D.length cd) := hb.cell 1
  go_enter Try.func17, Try.ntmps17
  go_wp2
  go_ret
  have hf := (Fr.refl No w).alloc (Obj.cells #[.slice Ap P.length cp, .slice Ad D.length cd] 56)
  exact ⟨rfl, ⟨Ap, cp, Ad, cd, Blk.new _ _ _, h2, h3, h4, h5, h6.no hf, h7.no hf⟩, hf⟩

theorem Fr.only_new {a w w' : World} {g : Nat} (h : Fr No a w) (hg : a.heap.size ≤ g) (k : Fr (Only g) w w') : Fr No a w' := h.then_ k fun i hi e => by unfold Only at e; omega

theorem blk_ints (w : World) (t : TypeId) (xs : List Int) : Ints (w.alloc (.cells (xs.map (Value.int .i64)).toArray t)) (some ⟨w.heap.size, 0, none⟩) xs := by
  intro _
  refine ⟨_, rfl, by simp, fun j x hx => ?_⟩
  have : (⟨w.heap.size, 0, none⟩ : Addr).add j = ⟨w.heap.size, j, none⟩ := by unfold Addr.add; split <;> simp_all
  rw [this, (Blk.new w t _).cell]
  simp [hx]

def Tells (b : Bool) (w : World) (e : Ending) (w' : World) : Prop := e = .returned (.bool b) ∧ Fr No w w'
set_option maxHeartbeats 1000000 in
theorem draws_any (w : World) : Calls Try.prog 8 #[] w (Tells true w) := by
  have hi := blk_ints w 3 [5, 7]
  have hf0 := (Fr.refl No w).alloc (Obj.cells #[Value.int IntKind.i64 5, Value.int IntKind.i64 7] 3)
  have HB := Lib.hid (show ∀ y ∈ ([5, 7] : List Int), badB 0 y = false by intro y hy; simp at hy; rcases hy with rfl | rfl <;> decide)
  go_enter Try.func8, Try.ntmps8
  go_wp2_with fail
  refine (new_good none (some ⟨w.heap.size, 0, none⟩) 0 2 0 2 [] [5, 7] _ rfl rfl (by omega) (by omega) (Ints.nil _ _) hi (by simp) HB.out).mono ?_
  rintro e w1 ⟨g, rfl, hc1, hf1, hg1⟩
  go_wp2_with fail
  refine (draw_some hc1 3 (by decide) (by decide) (by decide)).mono ?_
  rintro e w2 ⟨rfl, hc2, hf2⟩
  go_wp2_with fail
  refine (draw_one g _).mono ?_
  rintro e w' ⟨rfl, rfl⟩
  go_wp2_with fail
  refine (draw_some hc2 4 (by decide) (by decide) (by decide)).mono ?_
  rintro e w3 ⟨rfl, hc3, hf3⟩
  go_wp2_with fail
  refine (draw_none hc3 9 (by decide) (by decide)).mono ?_
  rintro e w' ⟨rfl, rfl⟩
  go_wp2_with fail
  go_ret
  refine ⟨rfl, ?_⟩
  have hsz := hf0.size
  exact ((hf0.trans hf1).only_new (Nat.le_trans hsz hg1) hf2).only_new (Nat.le_trans hsz hg1) hf3
end Go.Proofs.Ytlejcbcdjpjjmaa
