/- Rows of any shape: an element is so many cells. Slices that came in, rows of the call's own; append of one, append of all. -/
import Derived.Test.YthikjaoffikigaaR
import Derived.Deep.RegionLaw
namespace Go.Proofs.Ythikjaoffikigaa
open Go.RowKit

/-- how an element lies in memory -/
structure Shape (α : Type) where
  cells : α → List Value
  size : Nat
  len : ∀ x, (cells x).length = size
  pos : 0 < size
  one : ∀ x, ∀ u ∈ cells x, u.oneCell' = true

section
variable {α : Type} (S : Shape α)
def Shape.flat (xs : List α) : List Value := xs.flatMap S.cells
theorem Shape.flat_append (xs ys : List α) : S.flat (xs ++ ys) = S.flat xs ++ S.flat ys := by simp [Shape.flat]
theorem Shape.flat_one (x : α) : S.flat [x] = S.cells x := by simp [Shape.flat]
theorem Shape.flat_length (xs : List α) : (S.flat xs).length = xs.length * S.size := by
  induction xs with
  | nil => simp [Shape.flat]
  | cons x xs ih =>
    have : S.flat (x :: xs) = S.cells x ++ S.flat xs := by simp [Shape.flat]
    rw [this, List.length_append, ih, S.len, List.length_cons, Nat.add_mul, Nat.one_mul, Nat.add_comm]
theorem Shape.flat_at {xs : List α} {k : Nat} (h : k < xs.length) {j : Nat} (hj : j < S.size) : (S.flat xs)[k * S.size + j]? = (S.cells xs[k])[j]? := by
  induction xs generalizing k with
  | nil => simp at h
  | cons x xs ih =>
    have e : S.flat (x :: xs) = S.cells x ++ S.flat xs := by simp [Shape.flat]
    rw [e]
    cases k with
    | zero =>
      rw [List.getElem?_append_left (by rw [S.len]; omega)]
      simp
    | succ k =>
      rw [List.getElem?_append_right (by rw [S.len, Nat.succ_mul]; omega), S.len]
      have := ih (k := k) (by simpa using h)
      rw [show (k + 1) * S.size + j - S.size = k * S.size + j by rw [Nat.succ_mul]; omega]
      exact this
theorem Shape.flat_get {xs : List α} {j : Nat} {u : Value} (h : (S.flat xs)[j]? = some u) : ∃ hj : j / S.size < xs.length, (S.cells xs[j / S.size])[j % S.size]? = some u := by
  have hj : j < (S.flat xs).length := by
    rcases Nat.lt_or_ge j (S.flat xs).length with h' | h'
    · exact h'
    · rw [List.getElem?_eq_none h'] at h; cases h
  rw [S.flat_length] at hj
  have hk : j / S.size < xs.length := Nat.div_lt_of_lt_mul (by rw [Nat.mul_comm]; exact hj)
  refine ⟨hk, ?_⟩
  rw [← S.flat_at hk (Nat.mod_lt j S.pos)]
  rw [show j / S.size * S.size + j % S.size = j by rw [Nat.mul_comm]; exact Nat.div_add_mod j S.size]
  exact h
theorem Shape.flat_oneCell (xs : List α) : ∀ u ∈ S.flat xs, u.oneCell' = true := by
  intro u hu
  obtain ⟨x, _, h⟩ := List.mem_flatMap.1 hu
  exact S.one x u h

/-- the slice '.slice A n c' reads as these -/
def SlS (w : World) (A : Option Addr) (xs : List α) : Prop :=
  0 < xs.length → ∃ b off, A = some ⟨b, off, none⟩ ∧ b < w.heap.size ∧ ∀ j x, xs[j]? = some x → ∀ i u, (S.cells x)[i]? = some u → w.cell? ⟨b, off + j * S.size + i, none⟩ = some u
variable {S} {w w' : World} {A : Option Addr} {xs : List α}
theorem SlS.nil (w : World) (A : Option Addr) : SlS S w A [] := fun h => absurd h (by simp)
theorem SlS.fr {T : Nat → Prop} (h : SlS S w A xs) (hf : Fr T w w') (hs : ∀ ad, A = some ad → ¬ T ad.block) : SlS S w' A xs := by
  intro hn
  obtain ⟨b, off, h1, h2, h3⟩ := h hn
  exact ⟨b, off, h1, Nat.lt_of_lt_of_le h2 hf.size, fun j x hx i u hu => (hf.cell (p := ⟨b, off + j * S.size + i, none⟩) h2 (hs ⟨b, off, none⟩ h1)).trans (h3 j x hx i u hu)⟩
theorem SlS.no (h : SlS S w A xs) (hf : Fr No w w') : SlS S w' A xs := h.fr hf fun _ _ h => h
theorem SlS.at_ (h : SlS S w A xs) {k : Nat} (hk : k < xs.length) : ∃ b off, A = some ⟨b, off, none⟩ ∧ b < w.heap.size ∧ ∀ i u, (S.cells xs[k])[i]? = some u → w.cell? ⟨b, off + k * S.size + i, none⟩ = some u := by
  obtain ⟨b, off, h1, h2, h3⟩ := h (by omega)
  exact ⟨b, off, h1, h2, h3 k _ (List.getElem?_eq_getElem hk)⟩

variable (S) in
/-- a row of the call's own -/
def OwnS (E : TypeId) (B : Nat) (w : World) (v : Value) (xs : List α) : Prop := w.ownsRow B E S.size v xs.length (S.flat xs)
variable {E : TypeId} {B : Nat} {v : Value}
theorem OwnS.nil (E : TypeId) (B : Nat) (w : World) : OwnS S E B w (.slice none 0 0) [] := World.ownsRow_nil w B E S.size
theorem OwnS.fr {T : Nat → Prop} (h : OwnS S E B w v xs) (hf : Fr T w w') (hs : ∀ k, v.ownBlock = some k → ¬ T k) : OwnS S E B w' v xs := Fr.own h hf hs
theorem OwnS.no (h : OwnS S E B w v xs) (hf : Fr No w w') : OwnS S E B w' v xs := h.fr hf fun _ _ h => h
theorem OwnS.alloc (h : OwnS S E B w v xs) (o : Obj) : OwnS S E B (w.alloc o) v xs := World.ownsRow.alloc h o
theorem OwnS.drew (h : OwnS S E B w v xs) : OwnS S E B w.drew v xs := h
theorem OwnS.drewN (h : OwnS S E B w v xs) (n : Nat) : OwnS S E B (w.drewN n) v xs := h
theorem OwnS.lt (h : OwnS S E B w v xs) : ∀ k, v.ownBlock = some k → B ≤ k ∧ k < w.heap.size := World.ownsRow.lt h
theorem OwnS.blk_ne {g : Nat} {t : TypeId} {cs : Array Value} (h : OwnS S E B w v xs) (hg : Blk w g t cs) (hne : E ≠ t) : v.ownBlock ≠ some g := own_blk_ne h hg hne
theorem OwnS.congr {ys : List α} (h : OwnS S E B w v xs) (e : xs = ys) : OwnS S E B w v ys := e ▸ h
theorem OwnS.weak {B' : Nat} (h : OwnS S E B w v xs) (hB : B' ≤ B) : OwnS S E B' w v xs := by
  refine ⟨h.1, ?_⟩
  rcases h.2 with hn | ⟨g, cap, cur, rfl, hb, rest⟩
  · exact .inl hn
  · exact .inr ⟨g, cap, cur, rfl, Nat.le_trans hB hb, rest⟩
theorem OwnS.cap {n c : Nat} (h : OwnS S E B w v xs) (hv : v = .slice A n c) : n ≤ c ∧ c ≤ maxLen := by
  rcases h.2 with ⟨rfl, hn⟩ | ⟨g, cap, cur, rfl, _, _, hnc, hc, _⟩
  · cases hv; exact ⟨Nat.le_refl _, Nat.zero_le _⟩
  · cases hv; exact ⟨hnc, hc⟩
theorem OwnS.setOther {g : Nat} {t : TypeId} {cs : Array Value} (h : OwnS S E B w v xs) (hg : Blk w g t cs) (hne : E ≠ t) (i : Nat) (u : Value) : OwnS S E B (w.setCell ⟨g, i, none⟩ u) v xs :=
  h.fr ((Fr.refl (Only g) w).setOnly i u) fun k hk e => h.blk_ne hg hne (by rw [hk]; unfold Only at e; rw [e])
theorem add_at0 (b off n : Nat) : (⟨b, off, none⟩ : Addr).add n = ⟨b, off + n, none⟩ := by unfold Addr.add; split <;> simp_all
theorem OwnS.form (h : OwnS S E B w v xs) : ∃ A c, v = .slice A xs.length c ∧ SlS S w A xs ∧ ∀ ad, A = some ad → v.ownBlock = some ad.block ∧ B ≤ ad.block ∧ ∃ cs, Blk w ad.block E cs := by
  have hc := fun g hg => World.ownsRow.cells h (g := g) hg
  have hl := World.ownsRow.lt h
  rcases h.2 with ⟨rfl, hn⟩ | ⟨g, cap, cur, rfl, hb, hh, _⟩
  · exact ⟨none, 0, by rw [hn], fun h0 => by omega, fun ad h => by cases h⟩
  · refine ⟨some ⟨g, 0, none⟩, cap, rfl, fun _ => ⟨g, 0, rfl, (hl g rfl).2, fun j x hx i u hu => ?_⟩, fun ad h => by cases h; exact ⟨rfl, hb, _, hh⟩⟩
    have hj : j < xs.length := by
      rcases Nat.lt_or_ge j xs.length with h | h
      · exact h
      · rw [List.getElem?_eq_none h] at hx; cases hx
    have hi : i < S.size := by
      rcases Nat.lt_or_ge i S.size with h | h
      · exact h
      · rw [List.getElem?_eq_none (by rw [S.len]; exact h)] at hu; cases hu
    rw [List.getElem?_eq_getElem hj] at hx
    injection hx with hx
    subst hx
    have := hc g rfl _ _ ((S.flat_at hj hi).trans hu)
    rw [add_at0, ← Nat.add_assoc] at this
    exact this

/-- a block that is just these -/
theorem OwnS.blk {g : Nat} {cs : Array Value} (hb : Blk w g E cs) (hB : B ≤ g) (xs : List α) (hcs : cs.toList = S.flat xs) (hm : xs.length ≤ maxLen) : OwnS S E B w (.slice (some ⟨g, 0, none⟩) xs.length xs.length) xs := by
  have hl := S.flat_length xs
  exact ⟨hl, .inr ⟨g, xs.length, cs, rfl, hB, hb, Nat.le_refl _, hm, by rw [← Array.length_toList, hcs, hl], by rw [hcs, List.take_of_length_le (by omega)]⟩⟩

variable (S) in
def ApdS (E : TypeId) (B : Nat) (w : World) (v : Value) (xs : List α) (v' : Value) (w' : World) : Prop := OwnS S E B w' v' xs ∧ w.grownBy w' v.ownBlock ∧ (v'.ownBlock = v.ownBlock ∨ v'.ownBlock = some w.heap.size)
theorem ApdS.fr {a w0 : World} {v' : Value} {ys : List α} {T : Nat → Prop} (h : ApdS S E B w v xs v' w') (hf : Fr T a w) (hown : OwnS S E B w0 v ys) (hB : a.heap.size ≤ B) : Fr T a w' :=
  hf.grown h.2.1 fun k hk hlt => absurd hlt (by have := (hown.lt k hk).1; omega)

/-- append of all of a slice's, in a walk -/
theorem apd_run {P : Program} {T : TypeId} {z : Value} {bytes : Nat} (hT : ElSl P T E z S.size bytes) (ty : TypeId) (ys : List α) (hown : OwnS S E B w v xs) (ad : Addr) (c : Nat) (hc : 0 < ys.length → SlS S w (some ad) ys)
    (hl : xs.length + ys.length ≤ 1000000000) (hbt : bytes ≤ 1000) (hB : B ≤ w.heap.size) :
    ∃ v' w', (Builtin.append_ #[T, T] ty #[v, .slice (some ad) ys.length c]).run P w = .ok v' w' ∧ ApdS S E B w v (xs ++ ys) v' w' := by
  obtain ⟨i0, hi, hz0, hz1, hz2⟩ := info_parts hT.hi
  obtain ⟨v', w', hrun, h2, h3, _, h5⟩ := run_append_own_at (P := P) w B T ty E i0 _ S.size bytes hT.ht hi hz0 hz1 hz2 hT.hz hT.hs v xs.length (S.flat xs) hown ad ys.length c (S.flat ys) (S.flat_length ys) (fun j u hu => by
    obtain ⟨hj, hu⟩ := S.flat_get hu
    obtain ⟨b, off, he, _, hd⟩ := (hc (Nat.lt_of_le_of_lt (Nat.zero_le _) hj)).at_ hj
    cases he
    rw [add_at0, show off + j = off + j / S.size * S.size + j % S.size by have := Nat.div_add_mod j S.size; rw [Nat.mul_comm] at this; omega]
    exact hd _ _ hu) (S.flat_oneCell ys) (by unfold maxLen; omega) (Nat.le_trans (Nat.mul_le_mul hl hbt) (by omega)) hB
  refine ⟨v', w', hrun, ?_, h3, h5⟩
  unfold OwnS
  rw [S.flat_append, List.length_append]
  exact h2
variable {P : Program} {T : TypeId} {z : Value} {bytes : Nat} {ops : Array Oper} {o : Oper} {a : Act} {Q : Exit → Act → World → Prop}
theorem wpList_apdAll {rest : List Oper} (hT : ElSl P T E z S.size bytes) (hgd : o.guard = none) (s x : Operand)
    (ho : o.op = .call { callee := .builtin .append, args := #[s, x], argTypes := #[T, T] })
    (B : Nat) (v : Value) (xs ys : List α) (hs : a.eval s = v) (hown : OwnS S E B w v xs) (ad : Addr) (n c : Nat) (hx : a.eval x = .slice (some ad) n c) (hn : ys.length = n) (hc : 0 < ys.length → SlS S w (some ad) ys)
    (hl : xs.length + ys.length ≤ 1000000000) (hbt : bytes ≤ 1000) (hB : B ≤ w.heap.size)
    (h : ∀ v' w', ApdS S E B w v (xs ++ ys) v' w' → wpList P ops Q rest (a.put o.dst v') w') : wpList P ops Q (o :: rest) a w := by
  subst hn
  obtain ⟨v', w', hrun, h2⟩ := apd_run (S := S) hT o.type ys hown ad c hc hl hbt hB
  refine wpList_plain hgd fun _ hK => ?_
  unfold Oper.wp execOp
  simp only [ho, resolve, invoke, builtin, Sem.run_bind, Sem.run_pure, Result.andThen_ok, List.map_toArray, List.map_cons, List.map_nil, hs, hx, hrun]
  exact hK _ _ (h v' w' h2)
theorem step_apdAll {K : Act → World → Prop} {Ep : Prop} (hT : ElSl P T E z S.size bytes) (hgd : o.guard = none) (s x : Operand)
    (ho : o.op = .call { callee := .builtin .append, args := #[s, x], argTypes := #[T, T] })
    (B : Nat) (v : Value) (xs ys : List α) (hs : a.eval s = v) (hown : OwnS S E B w v xs) (ad : Addr) (n c : Nat) (hx : a.eval x = .slice (some ad) n c) (hn : ys.length = n) (hc : 0 < ys.length → SlS S w (some ad) ys)
    (hl : xs.length + ys.length ≤ 1000000000) (hbt : bytes ≤ 1000) (hB : B ≤ w.heap.size)
    (h : ∀ v' w', ApdS S E B w v (xs ++ ys) v' w' → K (a.put o.dst v') w') : if Region.wanted o (yielded ops a.tmps) = true then Oper.wp P o a w K Q else Ep := by
  subst hn
  have hw : Region.wanted o (yielded ops a.tmps) = true := by simp [Region.wanted, hgd]
  rw [if_pos hw]
  obtain ⟨v', w', hrun, h2⟩ := apd_run (S := S) hT o.type ys hown ad c hc hl hbt hB
  unfold Oper.wp
  simp [execOp, ho, resolve, invoke, builtin, hs, hx, hrun, Result.andThen]
  exact h v' w' h2
/-- one element in a new block -/
theorem SlS.blk1 {g : Nat} {t : TypeId} {cs : Array Value} {y : α} (hb : Blk w g t cs) (hcs : cs.toList = S.cells y) : SlS S w (some ⟨g, 0, none⟩) [y] := by
  intro _
  refine ⟨g, 0, rfl, hb.lt, fun j x hx i u hu => ?_⟩
  match j, hx with
  | 0, hx =>
    simp at hx
    subst hx
    simp only [Nat.zero_mul, Nat.zero_add]
    rw [hb.cell, ← Array.getElem?_toList, hcs]
    exact hu
end
end Go.Proofs.Ythikjaoffikigaa
