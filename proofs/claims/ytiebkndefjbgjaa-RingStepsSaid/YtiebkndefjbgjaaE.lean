/- The reference's ring: what each call does. -/
import Derived.Test.YtiebkndefjbgjaaD
namespace Go.Proofs.Ytiebkndefjbgjaa
open Go.RowKit

/-- the reference's ring: a block with the size and a slice of its own -/
def RefIs (w : World) (h B s : Nat) (v : Value) (L : List Int) : Prop := Blk w h 44 #[.int .i64 s, v] ∧ Own 3 B w v L ∧ B ≤ h
/-- what a call may write: the block, the slice's row -/
def May (h : Nat) (v : Value) : Nat → Prop := fun k => k = h ∨ v.ownBlock = some k

theorem RefIs.fr {w w' : World} {h B s : Nat} {v : Value} {L : List Int} {S : Nat → Prop} (hr : RefIs w h B s v L) (hf : Fr S w w') (h1 : ¬ S h) (h2 : ∀ k, v.ownBlock = some k → ¬ S k) : RefIs w' h B s v L :=
  ⟨hr.1.fr hf h1, hr.2.1.fr hf h2, hr.2.2⟩
theorem RefIs.no {w w' : World} {h B s : Nat} {v : Value} {L : List Int} (hr : RefIs w h B s v L) (hf : Fr No w w') : RefIs w' h B s v L := hr.fr hf (fun h => h) (fun _ _ h => h)
theorem RefIs.form {w : World} {h B s : Nat} {v : Value} {L : List Int} (hr : RefIs w h B s v L) : ∃ A c, v = .slice A L.length c ∧ Ints w A L := by
  obtain ⟨A, c, h1, h2, _⟩ := hr.2.1.form
  exact ⟨A, c, h1, h2⟩
/-- of the frame, all that was there before B -/
theorem RefIs.new_ {a w w' : World} {h B s : Nat} {v : Value} {L : List Int} (hr : RefIs w h B s v L) (ha : Fr No a w) (hB : a.heap.size ≤ B) (hf : Fr (May h v) w w') : Fr No a w' :=
  ha.then_ hf fun i hi e => by
    rcases e with e | e
    · have := hr.2.2; omega
    · have := (hr.2.1.lt i e).1; omega

set_option maxHeartbeats 400000 in
theorem rnew_bad {s : Int} (w : World) (h : s < 0 ∨ 4 < s) : Calls Try.prog 8 #[.int .i64 s] w fun e w' => e = .returned (.tuple #[.pointer none, .int .i64 1]) ∧ w = w' := by
  by_cases h0 : s < 0
  · go_enter Try.func8, Try.ntmps8
    go_wp2
    go_ret2
    exact ⟨rfl, rfl⟩
  · have h' : 0 ≤ s := by omega
    have h'' : 4 < s := by omega
    clear h
    go_enter Try.func8, Try.ntmps8
    go_wp2
    go_ret2
    exact ⟨rfl, rfl⟩
set_option maxHeartbeats 400000 in
theorem rnew_good {s : Nat} (w : World) (B : Nat) (hB : B ≤ w.heap.size) (h : s ≤ 4) : Calls Try.prog 8 #[.int .i64 s] w fun e w' => e = .returned (.tuple #[.pointer (some ⟨w.heap.size, 0, none⟩), .int .i64 0]) ∧ RefIs w' w.heap.size B s (.slice none 0 0) [] ∧ Fr No w w' := by
  go_enter Try.func8, Try.ntmps8
  go_wp2
  go_ret2
  exact ⟨rfl, ⟨Blk.new _ _ _, Own.nil _ _ _, hB⟩, (Fr.refl _ _).alloc _⟩

set_option maxHeartbeats 400000 in
theorem rpush_full {h B s : Nat} {v : Value} {L : List Int} {w : World} (hr : RefIs w h B s v L) (hl : s ≤ L.length) (hs : s ≤ 4) (hm : L.length ≤ 4) (x : Int) : Calls Try.prog 11 #[.pointer (some ⟨h, 0, none⟩), .int .i64 x] w fun e w' => e = .returned (.int .i64 5) ∧ ∃ n, w' = w.drewN n := by
  obtain ⟨A, c, rfl, hi⟩ := hr.form
  have c0 : w.cell? ⟨h, 0, none⟩ = some (.int .i64 s) := hr.1.cell 0
  have c1 : w.cell? ⟨h, 1, none⟩ = some (.slice A L.length c) := hr.1.cell 1
  clear hi
  go_enter Try.func11, Try.ntmps11
  go_wp2
  go_quiet (fail)
  go_wp2
  go_ret
  exact ⟨rfl, _, rfl⟩

def RPushed (h B s : Nat) (v : Value) (L : List Int) (w : World) (e : Ending) (w' : World) : Prop := e = .returned (.int .i64 0) ∧ (∃ v', RefIs w' h B s v' L) ∧ Fr (May h v) w w'
set_option maxHeartbeats 1000000 in
theorem rpush_room {h B s : Nat} {v : Value} {L : List Int} {w : World} (hr : RefIs w h B s v L) (hl : L.length < s) (hs : s ≤ 4) (hB : B ≤ w.heap.size) (x : Int) : Calls Try.prog 11 #[.pointer (some ⟨h, 0, none⟩), .int .i64 x] w (RPushed h B s v (L ++ [x]) w) := by
  obtain ⟨A, c, rfl, hi⟩ := hr.form
  have c0 : w.cell? ⟨h, 0, none⟩ = some (.int .i64 s) := hr.1.cell 0
  have c1 : w.cell? ⟨h, 1, none⟩ = some (.slice A L.length c) := hr.1.cell 1
  clear hi
  have hd : decide (s ≤ L.length) = false := by simp; omega
  go_enter Try.func11, Try.ntmps11
  go_wp2
  go_quiet (fail)
  go_wp2_with (at_builtin; go_must (refine wpList_push1 ints42 rfl (.tmp 19) (.tmp 21) rfl B (.slice A L.length c) L x rfl ((hr.2.1.drewN _).alloc _) ⟨w.heap.size, 0, none⟩ 1 rfl (cell_newN1 _ _ _ _) (by omega) (Nat.le_trans hB (((Fr.refl No w).drewN _).alloc _).size) ?_); intro v1 w1 hap
               have hb1 := ((hr.1.drewN _).alloc (Obj.cells #[Value.int IntKind.i64 x] 3)).grown hap.2.1 (fun e => hr.2.1.blk_ne hr.1 (by decide) e.symm)
               have hc1 : w1.cell? ⟨h, 1, none⟩ = some (.slice A L.length c) := hb1.cell 1
               have hz1 : w1.frozen? ⟨h, 1, none⟩ = false := hb1.frozen 1
               obtain ⟨A1, n1, hv1, _, _⟩ := hap.1.form
               rw [show (L ++ [x]).length = L.length + 1 by simp] at hv1
               subst hv1)
  go_ret
  refine ⟨rfl, ⟨_, hb1.set_ 1 _, hap.1.setOther hb1 (by decide) 1 _, hr.2.2⟩, ?_⟩
  exact ((((Fr.refl _ w).drewN _).alloc _).grown hap.2.1 (fun k hk _ => .inr hk)).setCell (p := ⟨h, 1, none⟩) (fun _ => .inl rfl) _

set_option maxHeartbeats 400000 in
theorem rpop_none {h B s : Nat} {v : Value} {w : World} (hr : RefIs w h B s v []) : Calls Try.prog 13 #[.pointer (some ⟨h, 0, none⟩)] w fun e w' => e = .returned (.tuple #[.int .i64 0, .int .i64 6]) ∧ w = w' := by
  obtain ⟨A, c, rfl, hi⟩ := hr.form
  have c1 : w.cell? ⟨h, 1, none⟩ = some (.slice A 0 c) := hr.1.cell 1
  clear hi
  go_enter Try.func13, Try.ntmps13
  go_wp2
  go_ret2
  exact ⟨rfl, rfl⟩

def RPopped (h B s : Nat) (x : Int) (L : List Int) (w : World) (e : Ending) (w' : World) : Prop := e = .returned (.tuple #[.int .i64 x, .int .i64 0]) ∧ (∃ v', RefIs w' h B s v' L ∧ ∀ k, v'.ownBlock = some k → w.heap.size ≤ k) ∧ Fr (Only h) w w'
set_option maxHeartbeats 1000000 in
theorem rpop_some {h B s : Nat} {v : Value} {x : Int} {L : List Int} {w : World} (hr : RefIs w h B s v (x :: L)) (hl : L.length ≤ 4) (hB : B ≤ w.heap.size) : Calls Try.prog 13 #[.pointer (some ⟨h, 0, none⟩)] w (RPopped h B s x L w) := by
  obtain ⟨A, c, hv, hi⟩ := hr.form
  obtain ⟨ad, rfl, hlt, hx⟩ := hi (by simp)
  obtain ⟨hnc, hcm⟩ := hr.2.1.cap hv
  rw [show (x :: L).length = L.length + 1 by simp] at hv
  rw [List.length_cons] at hnc
  subst hv
  have c1 : w.cell? ⟨h, 1, none⟩ = some (.slice (some ad) (L.length + 1) c) := hr.1.cell 1
  have cx : w.cell? ad = some (.int .i64 x) := by simpa [Addr.add] using hx 0 x rfl
  by_cases hc : c = 1
  · subst hc
    obtain rfl : L = [] := List.eq_nil_of_length_eq_zero (by omega)
    go_enter Try.func13, Try.ntmps13
    go_wp2_with (at_builtin; go_must (refine wpList_pushAll ints42 rfl (.tmp 18) (.tmp 23) rfl B (.slice none 0 0) [] [] rfl (Own.nil _ _ _) (some ad) 0 0 rfl rfl (Ints.nil _ _) (by simp) hB ?_); intro v1 w1 hap
                 have hb1 := hr.1.grown hap.2.1 (by simp [Value.ownBlock])
                 have hc1 : w1.cell? ⟨h, 1, none⟩ = some _ := hb1.cell 1
                 have hz1 : w1.frozen? ⟨h, 1, none⟩ = false := hb1.frozen 1
                 obtain ⟨A1, n1, rfl, _, _⟩ := hap.1.form)
    go_ret2
    refine ⟨rfl, ⟨_, ⟨hb1.set_ 1 _, hap.1.setOther hb1 (by decide) 1 _, hr.2.2⟩, fun k hk => ?_⟩, ?_⟩
    · rcases hap.2.2 with e | e
      · have e2 : some k = (none : Option Nat) := hk.symm.trans e
        cases e2
      · have e2 : some k = some w.heap.size := hk.symm.trans e
        injection e2 with e2
        omega
    exact ((Fr.refl (Only h) w).grown hap.2.1 (by simp [Value.ownBlock])).setOnly _ _
  · have hi2 : Ints w (some (ad.add 1)) L := fun h0 => ⟨_, rfl, by rw [block_of_add]; exact hlt, fun j y hy => by rw [add_of_add, Nat.add_comm]; exact hx (j + 1) y hy⟩
    clear hi hx
    go_enter Try.func13, Try.ntmps13
    go_wp2_with (at_builtin; go_must (refine wpList_pushAll ints42 rfl (.tmp 18) (.tmp 23) rfl B (.slice none 0 0) [] L rfl (Own.nil _ _ _) (some (ad.add 1)) L.length (c - 1) rfl rfl hi2 (by simp; omega) hB ?_); intro v1 w1 hap
                 have hb1 := hr.1.grown hap.2.1 (by simp [Value.ownBlock])
                 have hc1 : w1.cell? ⟨h, 1, none⟩ = some _ := hb1.cell 1
                 have hz1 : w1.frozen? ⟨h, 1, none⟩ = false := hb1.frozen 1
                 obtain ⟨A1, n1, rfl, _, _⟩ := hap.1.form)
    go_ret2
    refine ⟨rfl, ⟨_, ⟨hb1.set_ 1 _, hap.1.setOther hb1 (by decide) 1 _, hr.2.2⟩, fun k hk => ?_⟩, ?_⟩
    · rcases hap.2.2 with e | e
      · have e2 : some k = (none : Option Nat) := hk.symm.trans e
        cases e2
      · have e2 : some k = some w.heap.size := hk.symm.trans e
        injection e2 with e2
        omega
    exact ((Fr.refl (Only h) w).grown hap.2.1 (by simp [Value.ownBlock])).setOnly _ _

def RTurned (h B s : Nat) (x : Int) (L : List Int) (w : World) (v : Value) (e : Ending) (w' : World) : Prop := e = .returned (.tuple #[.int .i64 x, .int .i64 0]) ∧ (∃ v', RefIs w' h B s v' L) ∧ Fr (May h v) w w'
set_option maxHeartbeats 400000 in
theorem rturn_none {h B s : Nat} {v : Value} {w : World} (hr : RefIs w h B s v []) (y : Int) : Calls Try.prog 15 #[.pointer (some ⟨h, 0, none⟩), .int .i64 y] w fun e w' => e = .returned (.tuple #[.int .i64 0, .int .i64 6]) ∧ w = w' := by
  go_enter Try.func15, Try.ntmps15
  go_wp2_with (go_at_call 13; refine (rpop_none hr).mono ?_; rintro e w' ⟨rfl, rfl⟩)
  go_ret2
  exact ⟨rfl, rfl⟩
set_option maxHeartbeats 400000 in
theorem rturn_some {h B s : Nat} {v : Value} {x : Int} {L : List Int} {w : World} (hr : RefIs w h B s v (x :: L)) (hl : L.length + 1 ≤ s) (hs : s ≤ 4) (hB : B ≤ w.heap.size) (y : Int) : Calls Try.prog 15 #[.pointer (some ⟨h, 0, none⟩), .int .i64 y] w (RTurned h B s x (L ++ [y]) w v) := by
  go_enter Try.func15, Try.ntmps15
  go_wp2_with (first
    | (go_at_call 13; refine (rpop_some hr (by omega) hB).mono ?_; rintro e w1 ⟨rfl, ⟨v1, hr1, hn1⟩, hf1⟩)
    | (go_at_call 11; refine (rpush_room hr1 (by omega) hs (Nat.le_trans hB hf1.size) y).mono ?_; rintro e w2 ⟨rfl, hr2, hf2⟩))
  go_ret2
  refine ⟨rfl, hr2, (hf1.mono (fun i _ e => .inl e)).then_ hf2 fun i hi e => ?_⟩
  rcases e with e | e
  · exact .inl e
  · have := hn1 i e; omega
set_option maxHeartbeats 400000 in
theorem rat_out {h B s : Nat} {v : Value} {L : List Int} {w : World} (hr : RefIs w h B s v L) (hm : L.length ≤ 4) (i : Int) (hi : i < 0 ∨ (L.length : Int) ≤ i) : Calls Try.prog 17 #[.pointer (some ⟨h, 0, none⟩), .int .i64 i] w fun e w' => e = .returned (.tuple #[.int .i64 0, .int .i64 6]) ∧ w = w' := by
  obtain ⟨A, c, rfl, hA⟩ := hr.form
  have c1 : w.cell? ⟨h, 1, none⟩ = some (.slice A L.length c) := hr.1.cell 1
  clear hA
  by_cases h0 : i < 0
  · clear hi
    go_enter Try.func17, Try.ntmps17
    go_wp2
    go_ret2
    exact ⟨rfl, rfl⟩
  · have h' : 0 ≤ i := by omega
    have h'' : (L.length : Int) ≤ i := by omega
    clear hi
    go_enter Try.func17, Try.ntmps17
    go_wp2
    go_ret2
    exact ⟨rfl, rfl⟩
set_option maxHeartbeats 400000 in
theorem rat_in {h B s : Nat} {v : Value} {L : List Int} {w : World} (hr : RefIs w h B s v L) (hm : L.length ≤ 4) (i : Nat) (x : Int) (hi : L[i]? = some x) : Calls Try.prog 17 #[.pointer (some ⟨h, 0, none⟩), .int .i64 i] w fun e w' => e = .returned (.tuple #[.int .i64 x, .int .i64 0]) ∧ w = w' := by
  have hil : i < L.length := by
    rcases Nat.lt_or_ge i L.length with h | h
    · exact h
    · rw [List.getElem?_eq_none h] at hi; cases hi
  obtain ⟨A, c, rfl, hA⟩ := hr.form
  have c1 : w.cell? ⟨h, 1, none⟩ = some (.slice A L.length c) := hr.1.cell 1
  obtain ⟨ad, rfl, hc⟩ := hA.at_ hil
  have hx : L[i] = x := by
    rw [List.getElem?_eq_getElem hil] at hi
    injection hi
  rw [hx] at hc
  have hi0 : ¬ (i : Int) < 0 := by omega
  have hin : ¬ (L.length : Int) ≤ i := by omega
  clear hA hi hx
  go_enter Try.func17, Try.ntmps17
  go_wp2
  go_ret2
  exact ⟨rfl, rfl⟩
end Go.Proofs.Ytiebkndefjbgjaa
