/- The ring's own functions: what each call does. -/
import Derived.Test.YtiebkndefjbgjaaA
namespace Go.Proofs.Ytiebkndefjbgjaa
open Go.RowKit

def rgCells (a n s : Nat) (f : Nat → Int) : Array Value := #[.int .i64 a, .int .i64 n, .int .i64 s, .int .i64 (f 0), .int .i64 (f 1), .int .i64 (f 2), .int .i64 (f 3)]

def RingIs (w : World) (g s : Nat) (L : List Int) : Prop :=
  ∃ (a : Nat) (f : Nat → Int), s ≤ 4 ∧ L.length ≤ s ∧ a ≤ s - 1 ∧ Blk w g 53 (rgCells a L.length s f) ∧ ∀ i, i < L.length → L[i]? = some (f ((a + i) % s))

theorem rgCells_at (a n s : Nat) (f : Nat → Int) (k : Nat) (hk : k < 4) : (rgCells a n s f)[3 + k]? = some (.int .i64 (f k)) := by
  match k, hk with
  | 0, _ => rfl
  | 1, _ => rfl
  | 2, _ => rfl
  | 3, _ => rfl

theorem rgCells_set (a n s : Nat) (f : Nat → Int) (k : Nat) (hk : k < 4) (v : Int) : (rgCells a n s f).setIfInBounds (3 + k) (.int .i64 v) = rgCells a n s (fun j => if j = k then v else f j) := by
  match k, hk with
  | 0, _ => rfl
  | 1, _ => rfl
  | 2, _ => rfl
  | 3, _ => rfl

theorem RingIs.fr {w w' : World} {g s : Nat} {L : List Int} {S : Nat → Prop} (h : RingIs w g s L) (hf : Fr S w w') (hs : ¬ S g) : RingIs w' g s L := by
  obtain ⟨a, f, h1, h2, h3, h4, h5⟩ := h
  exact ⟨a, f, h1, h2, h3, h4.fr hf hs, h5⟩
theorem RingIs.lt {w : World} {g s : Nat} {L : List Int} (h : RingIs w g s L) : g < w.heap.size := by
  obtain ⟨a, f, h1, h2, h3, h4, h5⟩ := h
  exact h4.lt

theorem mod_two {x s : Nat} (h : x < 2 * s) : x % s = if x < s then x else x - s := by
  split
  · exact Nat.mod_eq_of_lt (by assumption)
  · rw [Nat.mod_eq_sub_mod (by omega), Nat.mod_eq_of_lt (by omega)]

/- the functions on a nil ring -/
set_option maxHeartbeats 400000 in
theorem len_nil (w : World) : Calls Try.prog 18 #[.pointer none] w fun e w' => e = .returned (.int .i64 0) ∧ w = w' := by
  go_enter Try.func18, Try.ntmps18
  go_wp2
  go_ret
  exact ⟨rfl, rfl⟩
set_option maxHeartbeats 400000 in
theorem cap_nil (w : World) : Calls Try.prog 19 #[.pointer none] w fun e w' => e = .returned (.int .i64 0) ∧ w = w' := by
  go_enter Try.func19, Try.ntmps19
  go_wp2
  go_ret
  exact ⟨rfl, rfl⟩
set_option maxHeartbeats 400000 in
theorem push_nil (v : Int) (w : World) : Calls Try.prog 10 #[.pointer none, .int .i64 v] w fun e w' => e = .returned (.int .i64 5) ∧ w = w' := by
  go_enter Try.func10, Try.ntmps10
  go_wp2
  go_ret
  exact ⟨rfl, rfl⟩
set_option maxHeartbeats 400000 in
theorem at_nil (i : Int) (w : World) : Calls Try.prog 16 #[.pointer none, .int .i64 i] w fun e w' => e = .returned (.tuple #[.int .i64 0, .int .i64 6]) ∧ w = w' := by
  by_cases h : i < 0
  · go_enter Try.func16, Try.ntmps16
    go_wp2
    go_ret2
    exact ⟨rfl, rfl⟩
  · have h' : 0 ≤ i := by omega
    go_enter Try.func16, Try.ntmps16
    go_wp2
    go_ret2
    exact ⟨rfl, rfl⟩
set_option maxHeartbeats 400000 in
theorem pop_nil (w : World) : Calls Try.prog 12 #[.pointer none] w fun e w' => e = .returned (.tuple #[.int .i64 0, .int .i64 6]) ∧ w = w' := by
  go_enter Try.func12, Try.ntmps12
  go_wp2_with (go_at_call 16; refine (at_nil _ _).mono ?_; rintro e w' ⟨rfl, rfl⟩)
  go_ret2
  exact ⟨rfl, rfl⟩
set_option maxHeartbeats 400000 in
theorem turn_nil (v : Int) (w : World) : Calls Try.prog 14 #[.pointer none, .int .i64 v] w fun e w' => e = .returned (.tuple #[.int .i64 0, .int .i64 6]) ∧ w = w' := by
  go_enter Try.func14, Try.ntmps14
  go_wp2_with (go_at_call 12; refine (pop_nil _).mono ?_; rintro e w' ⟨rfl, rfl⟩)
  go_ret2
  exact ⟨rfl, rfl⟩

/- the functions on a ring -/
set_option maxHeartbeats 400000 in
theorem len_any {g s : Nat} {L : List Int} {w : World} (h : RingIs w g s L) : Calls Try.prog 18 #[.pointer (some ⟨g, 0, none⟩)] w fun e w' => e = .returned (.int .i64 L.length) ∧ w = w' := by
  obtain ⟨a, f, h1, h2, h3, h4, h5⟩ := h
  have c1 : w.cell? ⟨g, 1, none⟩ = some (.int .i64 L.length) := h4.cell 1
  clear h5 h4
  go_enter Try.func18, Try.ntmps18
  go_wp2
  go_ret
  exact ⟨rfl, rfl⟩
set_option maxHeartbeats 400000 in
theorem cap_any {g s : Nat} {L : List Int} {w : World} (h : RingIs w g s L) : Calls Try.prog 19 #[.pointer (some ⟨g, 0, none⟩)] w fun e w' => e = .returned (.int .i64 s) ∧ w = w' := by
  obtain ⟨a, f, h1, h2, h3, h4, h5⟩ := h
  have c1 : w.cell? ⟨g, 2, none⟩ = some (.int .i64 s) := h4.cell 2
  clear h5 h4
  go_enter Try.func19, Try.ntmps19
  go_wp2
  go_ret
  exact ⟨rfl, rfl⟩
set_option maxHeartbeats 400000 in
theorem new_bad {s : Int} (w : World) (h : s < 0 ∨ 4 < s) : Calls Try.prog 7 #[.int .i64 s] w fun e w' => e = .returned (.tuple #[.pointer none, .int .i64 1]) ∧ w = w' := by
  by_cases h0 : s < 0
  · go_enter Try.func7, Try.ntmps7
    go_wp2
    go_ret2
    exact ⟨rfl, rfl⟩
  · have h' : 0 ≤ s := by omega
    have h'' : 4 < s := by omega
    clear h
    go_enter Try.func7, Try.ntmps7
    go_wp2
    go_ret2
    exact ⟨rfl, rfl⟩
set_option maxHeartbeats 400000 in
theorem new_good {s : Nat} (w : World) (h : s ≤ 4) : Calls Try.prog 7 #[.int .i64 s] w fun e w' => e = .returned (.tuple #[.pointer (some ⟨w.heap.size, 0, none⟩), .int .i64 0]) ∧ RingIs w' w.heap.size s [] ∧ Fr No w w' := by
  go_enter Try.func7, Try.ntmps7
  go_wp2
  go_ret2
  exact ⟨rfl, ⟨0, fun _ => 0, h, Nat.zero_le _, Nat.zero_le _, Blk.new _ _ _, fun i hi => absurd hi (by simp)⟩, (Fr.refl _ _).alloc _⟩

set_option maxHeartbeats 400000 in
theorem push_full {g s : Nat} {L : List Int} {w : World} (h : RingIs w g s L) (hl : L.length = s) (v : Int) : Calls Try.prog 10 #[.pointer (some ⟨g, 0, none⟩), .int .i64 v] w fun e w' => e = .returned (.int .i64 5) ∧ w = w' := by
  have hs : s ≤ 4 := by obtain ⟨a, f, h1, _⟩ := h; exact h1
  subst hl
  go_enter Try.func10, Try.ntmps10
  go_wp2_with (first | (go_at_call 18; refine (len_any h).mono ?_; rintro e w' ⟨rfl, rfl⟩) | (go_at_call 19; refine (cap_any h).mono ?_; rintro e w' ⟨rfl, rfl⟩))
  go_ret
  exact ⟨rfl, rfl⟩

/-- the raw push -/
def Pushed (g s : Nat) (L : List Int) (v : Int) (w : World) (e : Ending) (w' : World) : Prop := e = .returned (.int .i64 0) ∧ RingIs w' g s (L ++ [v]) ∧ Fr (Only g) w w'
set_option maxHeartbeats 1000000 in
theorem push_raw (g at_ n s k : Nat) (v : Int) (x : Value) (w : World) (hs : s ≤ 4) (hn : n < s) (ha : at_ < s) (hi : ((at_ : Int) + n) % s = k) (hk : k < 4)
    (h0 : w.cell? ⟨g, 0, none⟩ = some (.int .i64 at_)) (h1 : w.cell? ⟨g, 1, none⟩ = some (.int .i64 n)) (h2 : w.cell? ⟨g, 2, none⟩ = some (.int .i64 s))
    (h3 : w.cell? ⟨g, 3 + k, none⟩ = some x) (hf : ∀ j, w.frozen? ⟨g, j, none⟩ = false) :
    Calls Try.prog 10 #[.pointer (some ⟨g, 0, none⟩), .int .i64 v] w fun e w' => e = .returned (.int .i64 0) ∧ w' = ((w.setCell ⟨g, 3 + k, none⟩ (.int .i64 v)).setCell ⟨g, 1, none⟩ (.int .i64 ((n : Int) + 1))).drew := by
  have hf3 := hf (3 + k)
  have hf1 := hf 1
  go_enter Try.func10, Try.ntmps10
  go_wp2
  go_region
  all_goals go_wp2
  all_goals go_ret
  all_goals exact ⟨rfl, rfl⟩

theorem push_room {g s : Nat} {L : List Int} {w : World} (h : RingIs w g s L) (hl : L.length < s) (v : Int) : Calls Try.prog 10 #[.pointer (some ⟨g, 0, none⟩), .int .i64 v] w (Pushed g s L v w) := by
  obtain ⟨a, f, h1, h2, h3, h4, h5⟩ := h
  have hk : (a + L.length) % s < s := Nat.mod_lt _ (by omega)
  refine (push_raw g a L.length s ((a + L.length) % s) v _ w h1 hl (by omega) (cast_mod _ _ _) (by omega) (h4.cell 0) (h4.cell 1) (h4.cell 2) ((h4.cell _).trans (rgCells_at _ _ _ _ _ (by omega))) h4.frozen).mono ?_
  rintro e w' ⟨rfl, rfl⟩
  refine ⟨rfl, ⟨a, fun j => if j = (a + L.length) % s then v else f j, h1, by simp; omega, h3, ?_, ?_⟩, ?_⟩
  · have hb := (h4.set_ (3 + (a + L.length) % s) (.int .i64 v)).set_ 1 (.int .i64 ((L.length : Int) + 1))
    rw [rgCells_set _ _ _ _ _ (by omega)] at hb
    have : (rgCells a L.length s fun j => if j = (a + L.length) % s then v else f j).setIfInBounds 1 (.int .i64 ((L.length : Int) + 1)) = rgCells a (L ++ [v]).length s fun j => if j = (a + L.length) % s then v else f j := by
      simp [rgCells]
    rw [this] at hb
    exact hb
  · intro i hi
    rw [List.length_append, List.length_singleton] at hi
    rcases Nat.lt_or_ge i L.length with hlt | hge
    · have hne : (a + i) % s ≠ (a + L.length) % s := by
        rw [mod_two (by omega), mod_two (by omega)]
        split <;> split <;> omega
      rw [List.getElem?_append_left hlt, h5 i hlt]
      simp only [if_neg hne]
    · have : i = L.length := by omega
      subst this
      simp
  · exact (((Fr.refl _ _).setOnly _ _).setOnly _ _).drew

set_option maxHeartbeats 400000 in
theorem at_out {g s : Nat} {L : List Int} {w : World} (h : RingIs w g s L) (i : Int) (hi : i < 0 ∨ (L.length : Int) ≤ i) : Calls Try.prog 16 #[.pointer (some ⟨g, 0, none⟩), .int .i64 i] w fun e w' => e = .returned (.tuple #[.int .i64 0, .int .i64 6]) ∧ w = w' := by
  by_cases h0 : i < 0
  · clear hi
    go_enter Try.func16, Try.ntmps16
    go_wp2
    go_ret2
    exact ⟨rfl, rfl⟩
  · have h' : 0 ≤ i := by omega
    have h'' : (L.length : Int) ≤ i := by omega
    clear hi
    go_enter Try.func16, Try.ntmps16
    go_wp2_with (go_at_call 18; refine (len_any h).mono ?_; rintro e w' ⟨rfl, rfl⟩)
    go_ret2
    exact ⟨rfl, rfl⟩

set_option maxHeartbeats 400000 in
theorem at_raw (g at_ n s k : Nat) (i : Nat) (x : Int) (w : World) (hs : s ≤ 4) (hn : n ≤ s) (hi : i < n) (ha : at_ < s) (hik : ((at_ : Int) + i) % s = k) (hk : k < 4)
    (h0 : w.cell? ⟨g, 0, none⟩ = some (.int .i64 at_)) (h1 : w.cell? ⟨g, 1, none⟩ = some (.int .i64 n)) (h2 : w.cell? ⟨g, 2, none⟩ = some (.int .i64 s))
    (h3 : w.cell? ⟨g, 3 + k, none⟩ = some (.int .i64 x)) :
    Calls Try.prog 16 #[.pointer (some ⟨g, 0, none⟩), .int .i64 i] w fun e w' => e = .returned (.tuple #[.int .i64 x, .int .i64 0]) ∧ w' = w.drew := by
  have hi0 : ¬ (i : Int) < 0 := by omega
  have hin : ¬ (n : Int) ≤ i := by omega
  go_enter Try.func16, Try.ntmps16
  go_wp2
  go_region
  all_goals go_wp2
  all_goals go_ret2
  all_goals exact ⟨rfl, rfl⟩

theorem at_in {g s : Nat} {L : List Int} {w : World} (h : RingIs w g s L) (i : Nat) (x : Int) (hi : L[i]? = some x) : Calls Try.prog 16 #[.pointer (some ⟨g, 0, none⟩), .int .i64 i] w fun e w' => e = .returned (.tuple #[.int .i64 x, .int .i64 0]) ∧ w' = w.drew := by
  obtain ⟨a, f, h1, h2, h3, h4, h5⟩ := h
  have hil : i < L.length := by
    rcases Nat.lt_or_ge i L.length with h | h
    · exact h
    · rw [List.getElem?_eq_none h] at hi; cases hi
  have hk : (a + i) % s < s := Nat.mod_lt _ (by omega)
  have hx := h5 i hil
  rw [hi] at hx
  injection hx with hx
  refine at_raw g a L.length s ((a + i) % s) i x w h1 h2 hil (by omega) (cast_mod _ _ _) (by omega) (h4.cell 0) (h4.cell 1) (h4.cell 2) ?_
  rw [h4.cell, rgCells_at _ _ _ _ _ (by omega), hx]

def Popped (g s : Nat) (x : Int) (L : List Int) (w : World) (e : Ending) (w' : World) : Prop := e = .returned (.tuple #[.int .i64 x, .int .i64 0]) ∧ RingIs w' g s L ∧ Fr (Only g) w w'
set_option maxHeartbeats 400000 in
theorem pop_none {g s : Nat} {w : World} (h : RingIs w g s []) : Calls Try.prog 12 #[.pointer (some ⟨g, 0, none⟩)] w fun e w' => e = .returned (.tuple #[.int .i64 0, .int .i64 6]) ∧ w = w' := by
  go_enter Try.func12, Try.ntmps12
  go_wp2_with (go_at_call 16; refine (at_out h 0 (by simp)).mono ?_; rintro e w' ⟨rfl, rfl⟩)
  go_ret2
  exact ⟨rfl, rfl⟩
set_option maxHeartbeats 1000000 in
theorem pop_raw (g at_ n s k : Nat) (x : Int) (w : World) (hs : s ≤ 4) (hn : n + 1 ≤ s) (ha : at_ < s) (hi : ((at_ : Int) + 1) % s = k) (_hk : k < 4)
    (hat : Calls Try.prog 16 #[.pointer (some ⟨g, 0, none⟩), .int .i64 0] w fun e w' => e = .returned (.tuple #[.int .i64 x, .int .i64 0]) ∧ w' = w.drew)
    (h0 : w.cell? ⟨g, 0, none⟩ = some (.int .i64 at_)) (h1 : w.cell? ⟨g, 1, none⟩ = some (.int .i64 ((n : Int) + 1))) (h2 : w.cell? ⟨g, 2, none⟩ = some (.int .i64 s))
    (hf : ∀ j, w.frozen? ⟨g, j, none⟩ = false) :
    Calls Try.prog 12 #[.pointer (some ⟨g, 0, none⟩)] w fun e w' => e = .returned (.tuple #[.int .i64 x, .int .i64 0]) ∧ w' = (((w.setCell ⟨g, 0, none⟩ (.int .i64 k)).setCell ⟨g, 1, none⟩ (.int .i64 n))).drew.drew := by
  have hf0 := hf 0
  have hf1 := hf 1
  have hsub : (n : Int) + 1 - 1 = n := by omega
  have H := Lib.hid hat
  clear hat
  go_enter Try.func12, Try.ntmps12
  go_wp2_with (go_at_call 16; refine (Hid.out H).mono ?_; rintro e w' ⟨rfl, rfl⟩)
  go_region
  all_goals go_wp2
  all_goals go_ret2
  all_goals exact ⟨rfl, rfl⟩
theorem pop_some {g s : Nat} {x : Int} {L : List Int} {w : World} (h : RingIs w g s (x :: L)) : Calls Try.prog 12 #[.pointer (some ⟨g, 0, none⟩)] w (Popped g s x L w) := by
  have hat := at_in h 0 x rfl
  obtain ⟨a, f, h1, h2, h3, h4, h5⟩ := h
  rw [List.length_cons] at h2
  have hk : (a + 1) % s < s := Nat.mod_lt _ (by omega)
  refine (pop_raw g a L.length s ((a + 1) % s) x w h1 h2 (by omega) (cast_mod a 1 s) (by omega) hat (h4.cell 0) ((h4.cell 1).trans (by simp [rgCells])) (h4.cell 2) h4.frozen).mono ?_
  rintro e w' ⟨rfl, rfl⟩
  refine ⟨rfl, ⟨(a + 1) % s, f, h1, by omega, by omega, ?_, ?_⟩, ?_⟩
  · have hb := (h4.set_ 0 (.int .i64 (((a + 1) % s : Nat) : Int))).set_ 1 (.int .i64 (L.length : Int))
    exact hb
  · intro i hi
    have := h5 (i + 1) (by simpa using hi)
    rw [List.getElem?_cons_succ] at this
    rw [this]
    congr 2
    rw [mod_two (x := a + 1) (by omega)]
    split
    · congr 1; omega
    · have : s ≤ a + 1 := by omega
      rw [show a + (i + 1) = (a + 1 - s + i) + s by omega, Nat.add_mod_right]
  · exact ((((Fr.refl _ _).setOnly _ _).setOnly _ _).drew).drew

set_option maxHeartbeats 400000 in
theorem turn_none {g s : Nat} {w : World} (h : RingIs w g s []) (v : Int) : Calls Try.prog 14 #[.pointer (some ⟨g, 0, none⟩), .int .i64 v] w fun e w' => e = .returned (.tuple #[.int .i64 0, .int .i64 6]) ∧ w = w' := by
  go_enter Try.func14, Try.ntmps14
  go_wp2_with (go_at_call 12; refine (pop_none h).mono ?_; rintro e w' ⟨rfl, rfl⟩)
  go_ret2
  exact ⟨rfl, rfl⟩
set_option maxHeartbeats 400000 in
theorem turn_some {g s : Nat} {x : Int} {L : List Int} {w : World} (h : RingIs w g s (x :: L)) (v : Int) : Calls Try.prog 14 #[.pointer (some ⟨g, 0, none⟩), .int .i64 v] w (Popped g s x (L ++ [v]) w) := by
  have hl : L.length < s := by obtain ⟨a, f, h1, h2, _⟩ := h; exact h2
  go_enter Try.func14, Try.ntmps14
  go_wp2_with (first
    | (go_at_call 12; refine (pop_some h).mono ?_; rintro e w1 ⟨rfl, hr1, hf1⟩)
    | (go_at_call 10; refine (push_room hr1 hl v).mono ?_; rintro e w2 ⟨rfl, hr2, hf2⟩))
  go_ret2
  exact ⟨rfl, hr2, hf1.trans hf2⟩

end Go.Proofs.Ytiebkndefjbgjaa
