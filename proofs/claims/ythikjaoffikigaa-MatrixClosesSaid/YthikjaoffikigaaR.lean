/- Rows of the call's own whose elements are several cells: append of one. -/
import Derived.Test.YthikjaoffikigaaA
namespace Go.Proofs.Ythikjaoffikigaa
open Go.RowKit

/-- T is a type of slices, E their elements' type: of so many cells -/
structure ElSl (P : Program) (T E : TypeId) (z : Value) (size bytes : Nat) : Prop where
  ht : P.underlying T = some (.slice E)
  hi : (P.info? E).map (fun i => (i.zero, i.size, i.bytes)) = some (some z, size, bytes)
  hz : z.cells.size = size
  hs : 0 < size

/-- what an append leaves: the row of the slice, or a new one -/
def ApdR (E : TypeId) (size : Nat) (B : Nat) (w : World) (v : Value) (n : Nat) (xs : List Value) (v' : Value) (w' : World) : Prop := w'.ownsRow B E size v' n xs ∧ w.grownBy w' v.ownBlock ∧ (v'.ownBlock = v.ownBlock ∨ v'.ownBlock = some w.heap.size)

theorem wpList_pushR {P : Program} {T E : TypeId} {z : Value} {size bytes : Nat} (hT : ElSl P T E z size bytes) {ops : Array Oper} {rest : List Oper} {o : Oper} {a : Act} {Q : Exit → Act → World → Prop} {w : World} (hgd : o.guard = none) (s x : Operand)
    (ho : o.op = .call { callee := .builtin .append, args := #[s, x], argTypes := #[T, T] })
    (B : Nat) (v : Value) (n : Nat) (xs news : List Value) (hs : a.eval s = v) (hown : w.ownsRow B E size v n xs) (ad : Addr) (c : Nat) (hx : a.eval x = .slice (some ad) 1 c) (hn : news.length = size) (hc : ∀ j u, news[j]? = some u → w.cell? (ad.add j) = some u) (h1 : ∀ u ∈ news, u.oneCell' = true)
    (hl : n + 1 ≤ 1000000000) (hb : bytes ≤ 1000) (hB : B ≤ w.heap.size)
    (h : ∀ v' w', ApdR E size B w v (n + 1) (xs ++ news) v' w' → wpList P ops Q rest (a.put o.dst v') w') : wpList P ops Q (o :: rest) a w := by
  obtain ⟨i0, hi, hz0, hz1, hz2⟩ := info_parts hT.hi
  obtain ⟨v', w', hrun, h2, h3, _, h5⟩ := run_append_own_at (P := P) w B T o.type E i0 _ size bytes hT.ht hi hz0 hz1 hz2 hT.hz hT.hs v n xs hown ad 1 c news (by omega) hc h1 (by unfold maxLen; omega)
    (Nat.le_trans (Nat.mul_le_mul hl hb) (by omega)) hB
  refine wpList_plain hgd fun _ hK => ?_
  unfold Oper.wp execOp
  simp only [ho, resolve, invoke, builtin, Sem.run_bind, Sem.run_pure, Result.andThen_ok, List.map_toArray, List.map_cons, List.map_nil, hs, hx, hrun]
  exact hK _ _ (h v' w' ⟨h2, h3, h5⟩)

theorem ApdR.fr {E : TypeId} {size B : Nat} {a w0 w w' : World} {v v' : Value} {n m : Nat} {xs ys : List Value} {S : Nat → Prop} (h : ApdR E size B w v n xs v' w') (hf : Fr S a w) (hown : w0.ownsRow B E size v m ys) (hB : a.heap.size ≤ B) : Fr S a w' :=
  hf.grown h.2.1 fun k hk hlt => absurd hlt (by have := (World.ownsRow.lt hown k hk).1; omega)


/-- triples of whole numbers -/
abbrev Tr := Int × Int × Int
def cells3 (x : Tr) : List Value := [.int .i64 x.1, .int .i64 x.2.1, .int .i64 x.2.2]
def flat3 (xs : List Tr) : List Value := xs.flatMap cells3
theorem flat3_nil : flat3 [] = [] := rfl
theorem flat3_snoc (xs : List Tr) (x : Tr) : flat3 (xs ++ [x]) = flat3 xs ++ cells3 x := by simp [flat3]
theorem flat3_length (xs : List Tr) : (flat3 xs).length = xs.length * 3 := by
  induction xs with
  | nil => rfl
  | cons x xs ih => simp only [flat3, List.flatMap_cons, List.length_append] at *; rw [ih]; simp [cells3]; omega
theorem flat3_at {xs : List Tr} {k : Nat} (h : k < xs.length) (j : Nat) (hj : j < 3) : (flat3 xs)[k * 3 + j]? = (cells3 xs[k])[j]? := by
  induction xs generalizing k with
  | nil => simp at h
  | cons x xs ih =>
    simp only [flat3, List.flatMap_cons]
    cases k with
    | zero =>
      rw [List.getElem?_append_left (by simp [cells3]; omega)]
      simp
    | succ k =>
      rw [List.getElem?_append_right (by simp [cells3]; omega)]
      have := ih (k := k) (by simpa using h)
      rw [show (k + 1) * 3 + j - (cells3 x).length = k * 3 + j by simp [cells3]; omega]
      exact this

/-- the slice '.slice A n c' reads as these triples -/
def Trip (w : World) (A : Option Addr) (xs : List Tr) : Prop :=
  0 < xs.length → ∃ b off, A = some ⟨b, off, none⟩ ∧ b < w.heap.size ∧ ∀ j x, xs[j]? = some x → w.cell? ⟨b, off + j * 3, none⟩ = some (.int .i64 x.1) ∧ w.cell? ⟨b, off + j * 3 + 1, none⟩ = some (.int .i64 x.2.1) ∧ w.cell? ⟨b, off + j * 3 + 2, none⟩ = some (.int .i64 x.2.2)
theorem Trip.nil (w : World) (A : Option Addr) : Trip w A [] := fun h => absurd h (by simp)
theorem Trip.fr {w w' : World} {A : Option Addr} {xs : List Tr} {S : Nat → Prop} (h : Trip w A xs) (hf : Fr S w w') (hs : ∀ ad, A = some ad → ¬ S ad.block) : Trip w' A xs := by
  intro hn
  obtain ⟨b, off, h1, h2, h3⟩ := h hn
  refine ⟨b, off, h1, Nat.lt_of_lt_of_le h2 hf.size, fun j x hx => ?_⟩
  have hb := hs _ h1
  obtain ⟨c1, c2, c3⟩ := h3 j x hx
  have key : ∀ o : Nat, w'.cell? ⟨b, o, none⟩ = w.cell? ⟨b, o, none⟩ := fun o => hf.cell (p := ⟨b, o, none⟩) h2 hb
  exact ⟨(key _).trans c1, (key _).trans c2, (key _).trans c3⟩
theorem Trip.at_ {w : World} {A : Option Addr} {xs : List Tr} (h : Trip w A xs) {k : Nat} (hk : k < xs.length) : ∃ b off, A = some ⟨b, off, none⟩ ∧ b < w.heap.size ∧ w.cell? ⟨b, off + k * 3, none⟩ = some (.int .i64 xs[k].1) ∧ w.cell? ⟨b, off + k * 3 + 1, none⟩ = some (.int .i64 xs[k].2.1) ∧ w.cell? ⟨b, off + k * 3 + 2, none⟩ = some (.int .i64 xs[k].2.2) := by
  obtain ⟨b, off, h1, h2, h3⟩ := h (by omega)
  exact ⟨b, off, h1, h2, h3 k _ (List.getElem?_eq_getElem hk)⟩

/-- a row of triples of the call's own -/
def Own3 (E : TypeId) (B : Nat) (w : World) (v : Value) (xs : List Tr) : Prop := w.ownsRow B E 3 v xs.length (flat3 xs)
section
variable {E : TypeId} {B : Nat} {w w' : World} {v : Value} {xs : List Tr}
theorem Own3.nil (E : TypeId) (B : Nat) (w : World) : Own3 E B w (.slice none 0 0) [] := World.ownsRow_nil w B E 3
theorem Own3.fr {S : Nat → Prop} (h : Own3 E B w v xs) (hf : Fr S w w') (hs : ∀ k, v.ownBlock = some k → ¬ S k) : Own3 E B w' v xs := Fr.own h hf hs
theorem Own3.alloc (h : Own3 E B w v xs) (o : Obj) : Own3 E B (w.alloc o) v xs := World.ownsRow.alloc h o
theorem Own3.drew (h : Own3 E B w v xs) : Own3 E B w.drew v xs := h
theorem Own3.drewN (h : Own3 E B w v xs) (n : Nat) : Own3 E B (w.drewN n) v xs := h
theorem Own3.lt (h : Own3 E B w v xs) : ∀ k, v.ownBlock = some k → B ≤ k ∧ k < w.heap.size := World.ownsRow.lt h
theorem Own3.blk_ne {g : Nat} {t : TypeId} {cs : Array Value} (h : Own3 E B w v xs) (hg : Blk w g t cs) (hne : E ≠ t) : v.ownBlock ≠ some g := own_blk_ne h hg hne
theorem Own3.congr {ys : List Tr} (h : Own3 E B w v xs) (e : xs = ys) : Own3 E B w v ys := e ▸ h
theorem Own3.cap {A : Option Addr} {n c : Nat} (h : Own3 E B w v xs) (hv : v = .slice A n c) : n ≤ c ∧ c ≤ maxLen := by
  rcases h.2 with ⟨rfl, hn⟩ | ⟨g, cap, cur, rfl, _, _, hnc, hc, _⟩
  · cases hv; exact ⟨Nat.le_refl _, Nat.zero_le _⟩
  · cases hv; exact ⟨hnc, hc⟩
/-- what it is as a slice: its cells, and that they lie in a block of type E from B on -/
theorem Own3.form (h : Own3 E B w v xs) : ∃ A c, v = .slice A xs.length c ∧ Trip w A xs ∧ ∀ ad, A = some ad → v.ownBlock = some ad.block ∧ B ≤ ad.block ∧ ∃ cs, Blk w ad.block E cs := by
  have hc := fun g hg => World.ownsRow.cells h (g := g) hg
  have hl := World.ownsRow.lt h
  rcases h.2 with ⟨rfl, hn⟩ | ⟨g, cap, cur, rfl, hb, hh, _⟩
  · exact ⟨none, 0, by rw [hn], fun h0 => by omega, fun ad h => by cases h⟩
  · refine ⟨some ⟨g, 0, none⟩, cap, rfl, fun _ => ⟨g, 0, rfl, (hl g rfl).2, fun j x hx => ?_⟩, fun ad h => by cases h; exact ⟨rfl, hb, _, hh⟩⟩
    have hj : j < xs.length := by
      rcases Nat.lt_or_ge j xs.length with h | h
      · exact h
      · rw [List.getElem?_eq_none h] at hx; cases hx
    rw [List.getElem?_eq_getElem hj] at hx
    injection hx with hx
    have hadd : ∀ i, (⟨g, 0, none⟩ : Addr).add i = ⟨g, 0 + i, none⟩ := fun i => by unfold Addr.add; split <;> simp_all
    have key : ∀ i (hi : i < 3) u, (cells3 xs[j])[i]? = some u → w.cell? ⟨g, 0 + (j * 3 + i), none⟩ = some u := fun i hi u hu => by
      rw [← hadd]
      exact hc g rfl _ _ ((flat3_at hj i hi).trans hu)
    subst hx
    exact ⟨key 0 (by decide) _ rfl, key 1 (by decide) _ rfl, key 2 (by decide) _ rfl⟩
end

def Apd3 (E : TypeId) (B : Nat) (w : World) (v : Value) (xs : List Tr) (v' : Value) (w' : World) : Prop := Own3 E B w' v' xs ∧ w.grownBy w' v.ownBlock ∧ (v'.ownBlock = v.ownBlock ∨ v'.ownBlock = some w.heap.size)
theorem Apd3.fr {E : TypeId} {B : Nat} {a w0 w w' : World} {v v' : Value} {xs ys : List Tr} {S : Nat → Prop} (h : Apd3 E B w v xs v' w') (hf : Fr S a w) (hown : Own3 E B w0 v ys) (hB : a.heap.size ≤ B) : Fr S a w' :=
  hf.grown h.2.1 fun k hk hlt => absurd hlt (by have := (hown.lt k hk).1; omega)

/-- append(s, x), x a triple in a new block -/
theorem wpList_push3 {P : Program} {T E : TypeId} {z : Value} {bytes : Nat} (hT : ElSl P T E z 3 bytes) {ops : Array Oper} {rest : List Oper} {o : Oper} {a : Act} {Q : Exit → Act → World → Prop} {w : World} (hgd : o.guard = none) (s x : Operand)
    (ho : o.op = .call { callee := .builtin .append, args := #[s, x], argTypes := #[T, T] })
    (B : Nat) (v : Value) (xs : List Tr) (y : Tr) (hs : a.eval s = v) (hown : Own3 E B w v xs) (g : Nat) (t : TypeId) (c : Nat) (hx : a.eval x = .slice (some ⟨g, 0, none⟩) 1 c) (hb : Blk w g t (cells3 y).toArray)
    (hl : xs.length + 1 ≤ 1000000000) (hbt : bytes ≤ 1000) (hB : B ≤ w.heap.size)
    (h : ∀ v' w', Apd3 E B w v (xs ++ [y]) v' w' → wpList P ops Q rest (a.put o.dst v') w') : wpList P ops Q (o :: rest) a w := by
  refine wpList_pushR hT hgd s x ho B v xs.length (flat3 xs) (cells3 y) hs hown ⟨g, 0, none⟩ c hx rfl (fun j u hu => ?_) (by simp [cells3, Value.oneCell']) hl hbt hB fun v' w' ⟨h1, h2, h3⟩ => h v' w' ⟨?_, h2, h3⟩
  · have hadd : (⟨g, 0, none⟩ : Addr).add j = ⟨g, j, none⟩ := by unfold Addr.add; split <;> simp_all
    rw [hadd, hb.cell]
    simpa using hu
  · unfold Own3
    rw [flat3_snoc, List.length_append]
    exact h1
end Go.Proofs.Ythikjaoffikigaa
