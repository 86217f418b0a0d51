/- Slices of whole numbers: that came in or that the call itself made; append of one. -/
import Derived.Test.YthikjaoffikigaaA
namespace Go.Proofs.Ythikjaoffikigaa
open Go.RowKit


/-- the slice '.slice A n c' reads as the whole numbers xs -/
def Ints (w : World) (A : Option Addr) (xs : List Int) : Prop :=
  0 < xs.length → ∃ ad, A = some ad ∧ ad.block < w.heap.size ∧ ∀ j x, xs[j]? = some x → w.cell? (ad.add j) = some (.int .i64 x)

theorem Ints.drewN {w : World} {A : Option Addr} {xs : List Int} (h : Ints w A xs) (n : Nat) : Ints (w.drewN n) A xs := h
theorem Ints.nil (w : World) (A : Option Addr) : Ints w A [] := fun h => absurd h (by simp)
theorem Ints.at_ {w : World} {A : Option Addr} {xs : List Int} (h : Ints w A xs) {k : Nat} (hk : k < xs.length) : ∃ ad, A = some ad ∧ w.cell? (ad.add k) = some (.int .i64 xs[k]) := by
  obtain ⟨ad, h1, h2, h3⟩ := h (by omega)
  exact ⟨ad, h1, h3 k _ (List.getElem?_eq_getElem hk)⟩
theorem Ints.fr {w w' : World} {A : Option Addr} {xs : List Int} {S : Nat → Prop} (h : Ints w A xs) (hf : Fr S w w') (hs : ∀ ad, A = some ad → ¬ S ad.block) : Ints w' A xs := by
  intro hn
  obtain ⟨ad, h1, h2, h3⟩ := h hn
  refine ⟨ad, h1, Nat.lt_of_lt_of_le h2 hf.size, fun j x hx => ?_⟩
  rw [hf.cell (by rw [block_of_add]; exact h2) (by rw [block_of_add]; exact hs ad h1)]
  exact h3 j x hx

/-- a slice of whole numbers of the call's own (E: the element's type) -/
def Own (E : TypeId) (B : Nat) (w : World) (v : Value) (xs : List Int) : Prop := w.ownsRow B E 1 v xs.length (xs.map (.int .i64))
section
variable {E : TypeId} {B : Nat} {w w' : World} {v : Value} {xs : List Int}
theorem Own.fr {S : Nat → Prop} (h : Own E B w v xs) (hf : Fr S w w') (hs : ∀ k, v.ownBlock = some k → ¬ S k) : Own E B w' v xs := Fr.own h hf hs
theorem Own.nil (E : TypeId) (B : Nat) (w : World) : Own E B w (.slice none 0 0) [] := World.ownsRow_nil w B E 1
theorem Own.alloc (h : Own E B w v xs) (o : Obj) : Own E B (w.alloc o) v xs := World.ownsRow.alloc h o
theorem Own.drew (h : Own E B w v xs) : Own E B w.drew v xs := h
theorem Own.drewN (h : Own E B w v xs) (n : Nat) : Own E B (w.drewN n) v xs := h
theorem Own.lt (h : Own E B w v xs) : ∀ k, v.ownBlock = some k → B ≤ k ∧ k < w.heap.size := World.ownsRow.lt h
theorem Own.form (h : Own E B w v xs) : ∃ A c, v = .slice A xs.length c ∧ Ints w A xs ∧ ∀ ad, A = some ad → v.ownBlock = some ad.block ∧ B ≤ ad.block ∧ ad.block < w.heap.size := by
  have hc := fun g hg => World.ownsRow.cells h (g := g) hg
  have hl := World.ownsRow.lt h
  rcases h.2 with ⟨rfl, hn⟩ | ⟨g, cap, cur, rfl, hb, hh, _⟩
  · refine ⟨none, 0, by rw [hn], fun h0 => by omega, fun ad h => by cases h⟩
  · refine ⟨some ⟨g, 0, none⟩, cap, rfl, fun _ => ⟨_, rfl, (hl g rfl).2, fun j x hx => ?_⟩, fun ad h => by cases h; exact ⟨rfl, hl g rfl⟩⟩
    exact hc g rfl j _ (by rw [List.getElem?_map, hx]; rfl)
theorem Own.blk_ne {g : Nat} {t : TypeId} {cs : Array Value} (h : Own E B w v xs) (hg : Blk w g t cs) (hne : E ≠ t) : v.ownBlock ≠ some g := own_blk_ne h hg hne
end

theorem Own.setOther {E : TypeId} {B : Nat} {w : World} {v : Value} {xs : List Int} {g : Nat} {t : TypeId} {cs : Array Value} (h : Own E B w v xs) (hg : Blk w g t cs) (hne : E ≠ t) (i : Nat) (u : Value) : Own E B (w.setCell ⟨g, i, none⟩ u) v xs :=
  h.fr ((Fr.refl (Only g) w).setOnly i u) fun k hk e => h.blk_ne hg hne (by rw [hk]; unfold Only at e; rw [e])
theorem Own.cap {E : TypeId} {B : Nat} {w : World} {v : Value} {xs : List Int} {A : Option Addr} {n c : Nat} (h : Own E B w v xs) (hv : v = .slice A n c) : n ≤ c ∧ c ≤ maxLen := by
  rcases h.2 with ⟨rfl, hn⟩ | ⟨g, cap, cur, rfl, _, _, hnc, hc, _⟩
  · cases hv; exact ⟨Nat.le_refl _, Nat.zero_le _⟩
  · cases hv; exact ⟨hnc, hc⟩
theorem Own.congr {E : TypeId} {B : Nat} {w : World} {v : Value} {xs ys : List Int} (h : Own E B w v xs) (e : xs = ys) : Own E B w v ys := e ▸ h

/-- T is a type of slices of whole numbers, E their type -/
structure IntSl (P : Program) (T E : TypeId) : Prop where
  ht : P.underlying T = some (.slice E)
  hi : (P.info? E).map (fun i => (i.zero, i.size, i.bytes)) = some (some (.int .i64 0), 1, 8)

/-- what an append leaves: the row of the slice, or a new one -/
def Apd (E : TypeId) (B : Nat) (w : World) (v : Value) (xs : List Int) (v' : Value) (w' : World) : Prop := Own E B w' v' xs ∧ w.grownBy w' v.ownBlock ∧ (v'.ownBlock = v.ownBlock ∨ v'.ownBlock = some w.heap.size)

theorem Apd.fr {E : TypeId} {B : Nat} {a w0 w w' : World} {v v' : Value} {xs ys : List Int} {S : Nat → Prop} (h : Apd E B w v xs v' w') (hf : Fr S a w) (hown : Own E B w0 v ys) (hB : a.heap.size ≤ B) : Fr S a w' :=
  hf.grown h.2.1 fun k hk hlt => absurd hlt (by have := (hown.lt k hk).1; omega)

theorem wpList_push1 {P : Program} {T E : TypeId} (hT : IntSl P T E) {ops : Array Oper} {rest : List Oper} {o : Oper} {a : Act} {Q : Exit → Act → World → Prop} {w : World} (hgd : o.guard = none) (s x : Operand)
    (ho : o.op = .call { callee := .builtin .append, args := #[s, x], argTypes := #[T, T] })
    (B : Nat) (v : Value) (xs : List Int) (y : Int) (hs : a.eval s = v) (hown : Own E B w v xs) (ad : Addr) (c : Nat) (hx : a.eval x = .slice (some ad) 1 c) (hc : w.cell? ad = some (.int .i64 y))
    (hl : xs.length < 1000000000) (hB : B ≤ w.heap.size)
    (h : ∀ v' w', Apd E B w v (xs ++ [y]) v' w' → wpList P ops Q rest (a.put o.dst v') w') : wpList P ops Q (o :: rest) a w := by
  obtain ⟨i0, hi, hz0, hz1, hz2⟩ := info_parts hT.hi
  obtain ⟨v', w', hrun, h2, h3, _, h5⟩ := run_append_own_at (P := P) w B T o.type E i0 _ 1 8 hT.ht hi hz0 hz1 hz2 rfl (by decide) v xs.length (xs.map (.int .i64)) hown ad 1 c [.int .i64 y] rfl
    (fun j u hu => by
      match j, hu with
      | 0, hu => simp at hu; subst hu; simpa [Addr.add] using hc
      | j + 1, hu => simp at hu) (by simp [Value.oneCell']) (by unfold maxLen; omega) (by omega) hB
  refine wpList_plain hgd fun _ hK => ?_
  unfold Oper.wp execOp
  simp only [ho, resolve, invoke, builtin, Sem.run_bind, Sem.run_pure, Result.andThen_ok, List.map_toArray, List.map_cons, List.map_nil, hs, hx, hrun]
  exact hK _ _ (h v' w' ⟨by unfold Own; rw [List.length_append, List.map_append]; exact h2, h3, h5⟩)

/-- append(s, xs...) -/
theorem wpList_pushAll {P : Program} {T E : TypeId} (hT : IntSl P T E) {ops : Array Oper} {rest : List Oper} {o : Oper} {a : Act} {Q : Exit → Act → World → Prop} {w : World} (hgd : o.guard = none) (s x : Operand)
    (ho : o.op = .call { callee := .builtin .append, args := #[s, x], argTypes := #[T, T] })
    (B : Nat) (v : Value) (xs ys : List Int) (hs : a.eval s = v) (hown : Own E B w v xs) (A : Option Addr) (n c : Nat) (hx : a.eval x = .slice A n c) (hn : ys.length = n) (hc : Ints w A ys)
    (hl : xs.length + ys.length < 1000000000) (hB : B ≤ w.heap.size)
    (h : ∀ v' w', Apd E B w v (xs ++ ys) v' w' → wpList P ops Q rest (a.put o.dst v') w') : wpList P ops Q (o :: rest) a w := by
  obtain ⟨i0, hi, hz0, hz1, hz2⟩ := info_parts hT.hi
  subst hn
  have hrun : ∃ v' w', (Builtin.append_ #[T, T] o.type #[v, .slice A ys.length c]).run P w = .ok v' w' ∧ Apd E B w v (xs ++ ys) v' w' := by
    rcases A with _ | ad
    · have hy : ys = [] := by
        rcases ys with _ | ⟨y, ys⟩
        · rfl
        · obtain ⟨ad, h, _⟩ := hc (by simp)
          cases h
      subst hy
      refine ⟨v, w, ?_, by simpa using hown, World.grownBy.refl w _, .inl rfl⟩
      rcases hown.2 with ⟨rfl, hn⟩ | ⟨g, cap, cur, rfl, _, _, hnc, _⟩
      · simp [Builtin.append_, run_underlying hT.ht, sizeOf, typeInfo, hi, Builtin.lenOf, Builtin.firstCells]
      · simp [Builtin.append_, run_underlying hT.ht, sizeOf, typeInfo, hi, Builtin.lenOf, Builtin.firstCells, hnc, storeCells]
    · obtain ⟨v', w', hrun, h2, h3, _, h5⟩ := run_append_own_at (P := P) w B T o.type E i0 _ 1 8 hT.ht hi hz0 hz1 hz2 rfl (by decide) v xs.length (xs.map (.int .i64)) hown ad ys.length c (ys.map (.int .i64)) (by simp)
        (fun j u hu => by
          rw [List.getElem?_map] at hu
          cases hy : ys[j]? with
          | none => rw [hy] at hu; cases hu
          | some y =>
            rw [hy] at hu
            have hj : j < ys.length := by
              rcases Nat.lt_or_ge j ys.length with h | h
              · exact h
              · rw [List.getElem?_eq_none h] at hy; cases hy
            obtain ⟨ad', h1, _, h3⟩ := hc (by omega)
            cases h1
            rw [h3 j y hy]
            exact hu) (by intro u hu; obtain ⟨y, _, rfl⟩ := List.mem_map.1 hu; rfl) (by unfold maxLen; omega) (by omega) hB
      exact ⟨v', w', hrun, by unfold Own; rw [List.length_append, List.map_append]; exact h2, h3, h5⟩
  obtain ⟨v', w', hrun, h2⟩ := hrun
  refine wpList_plain hgd fun _ hK => ?_
  unfold Oper.wp execOp
  simp only [ho, resolve, invoke, builtin, Sem.run_bind, Sem.run_pure, Result.andThen_ok, List.map_toArray, List.map_cons, List.map_nil, hs, hx, hrun]
  exact hK _ _ (h v' w' h2)
end Go.Proofs.Ythikjaoffikigaa
