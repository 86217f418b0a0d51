/- Arguments opened: a slice of structs of a whole number and a struct of whole numbers. -/
import Derived.Test.YtbmobikhfcmgjaaO
import Derived.Test.YtbmobikhfcmgjaaR
namespace Go.Proofs.Ytbmobikhfcmgjaa
open Go.RowKit Go.WideShapes Go.ChangeShapes Go.ChangeAt Go.Deep

theorem take1 {cs : List Value} {j : Nat} (h : j < cs.length) : (cs.drop j).take 1 = [cs[j]] := by
  rw [List.drop_eq_getElem_cons h]
  rfl
section
variable {H : Type} {enc : TypeId × Value → H} {P : Program} {w : World} {base : Nat}
theorem open_nested {t e : TypeId} {f0 f1 : Field} {gs : Array Field} {v : Value} {d : DataW H} {p : List MemPlace} {b0 : Nat} (ht : P.underlying t = some (.slice e)) (he : P.underlying e = some (.struct #[f0, f1]))
    (h0t : P.underlying f0.type = some (.int .i64)) (h0o : f0.offset = 0) (h0c : P.cellsOf f0.type = 1) (h1t : P.underlying f1.type = some (.struct gs)) (h1o : f1.offset = 1) (h1c : P.cellsOf f1.type = gs.size)
    (hone : oneCellFields P gs = true) (hC : P.cellsOf e = gs.size + 1) (hints : ∀ (j : Nat) (f : Field), gs[j]? = some f → P.underlying f.type = some (.int .i64))
    (hv : Value.okWide P w .any b0 t v) (h : DataW.Trod enc P w 0 (fun _ => true) true t v d p) :
    ∃ (A : Option Addr) (n c : Nat) (F : Nat → Nat → Int), v = .slice A n c ∧ n ≤ c ∧ c ≤ maxLen ∧ (∀ i j, i < n → j < gs.size + 1 → (Lit.int .i64 (F i j)).wf = true) ∧
      (0 < n → ∃ b off, A = some ⟨b, off, none⟩ ∧ b < w.heap.size ∧ ∀ i j, i < n → j < gs.size + 1 → w.cell? ⟨b, off + (i * (gs.size + 1) + j), none⟩ = some (.int .i64 (F i j))) := by
  obtain ⟨a0, len, cap, rfl⟩ := okWide_slice ht hv
  obtain ⟨fuel, hf⟩ := h
  rcases open_slice ht hf with ⟨hcs, _⟩ | ⟨a, len', cap', m, n, D, Pl, hcs, _, hl, hm, hmm, _, hi⟩
  · simp [Value.cells] at hcs
    obtain ⟨rfl, rfl, rfl⟩ := hcs
    exact ⟨none, 0, 0, fun _ _ => 0, rfl, Nat.le_refl _, Nat.zero_le _, fun i j h => by omega, fun h => by omega⟩
  · simp [Value.cells] at hcs
    obtain ⟨rfl, rfl, rfl⟩ := hcs
    simp only [if_true] at hmm
    have key : ∀ i, i < len → ∀ j, j < gs.size + 1 → ∃ x : Int, w.cell? (a.add (i * (gs.size + 1) + j)) = some (.int .i64 x) ∧ (Lit.int .i64 x).wf = true := by
      intro i hil j hj
      obtain ⟨cs', hc, ht'⟩ := hi i (by omega)
      rw [hC] at hc
      obtain ⟨_, hcl, hat⟩ := World.cells?_some hc
      obtain ⟨ys, n', _, _, _, hyl, hfl⟩ := DataW.trod_struct he ht'
      have hcell := hat j hj
      rw [Go.Deep.add_add] at hcell
      rw [hcell]
      have hjl : j < cs'.length := by omega
      rw [List.getElem?_eq_getElem hjl]
      cases j with
      | zero =>
        have h1 := hfl 0 f0 rfl
        rw [h0o, h0c, take1 hjl] at h1
        have hyl2 : ys.length = 2 := hyl
        rw [List.getElem?_eq_getElem (by omega : 0 < ys.length)] at h1
        obtain ⟨x, hx, _, hw⟩ := DataW.trod_int h0t h1
        injection hx with hx
        exact ⟨x, by rw [hx], hw⟩
      | succ j =>
        have h1 := hfl 1 f1 rfl
        rw [h1o, h1c] at h1
        have hyl2 : ys.length = 2 := hyl
        rw [List.getElem?_eq_getElem (by omega : 1 < ys.length)] at h1
        obtain ⟨zs, n2, _, _, _, hzl, hgl⟩ := DataW.trod_struct h1t h1
        have hjg : j < gs.size := by omega
        have h2 := hgl j gs[j] (Array.getElem?_eq_getElem hjg)
        obtain ⟨ho, hk⟩ := hone_of hone j gs[j] (Array.getElem?_eq_getElem hjg)
        rw [ho, hk, take1 (by simp; omega)] at h2
        rw [List.getElem?_eq_getElem (by omega : j < zs.length)] at h2
        obtain ⟨x, hx, _, hw⟩ := DataW.trod_int (hints j gs[j] (Array.getElem?_eq_getElem hjg)) h2
        injection hx with hx
        refine ⟨x, ?_, hw⟩
        rw [← hx]
        simp [Nat.add_comm]
    have key2 : ∀ i, ∃ G : Nat → Int, i < len → ∀ j, j < gs.size + 1 → w.cell? (a.add (i * (gs.size + 1) + j)) = some (.int .i64 (G j)) ∧ (Lit.int .i64 (G j)).wf = true := by
      intro i
      by_cases hil : i < len
      · obtain ⟨G, hG⟩ := choose_lt (key i hil)
        exact ⟨G, fun _ => hG⟩
      · exact ⟨fun _ => 0, fun h => absurd h hil⟩
    obtain ⟨F, hF⟩ := Classical.axiomOfChoice key2
    refine ⟨some a, len, cap, F, rfl, hl, hm, fun i j h1 h2 => (hF i h1 j h2).2, fun hn => ?_⟩
    obtain ⟨b, off, spot⟩ := a
    have hc0 := (hF 0 hn 0 (by omega)).1
    have hsp : spot = none := by simpa [Addr.add] using World.cell?_spot hc0
    subst hsp
    rw [add_at] at hc0
    exact ⟨b, off, rfl, cell_lt hc0, fun i j h1 h2 => by rw [← add_at]; exact (hF i h1 j h2).1⟩
end

/-- a step: what, and whom -/
abbrev Step := Int × Tr
def steps (n : Nat) (F : Nat → Nat → Int) : List Step := (List.range n).map fun i => (F i 0, F i 1, F i 2, F i 3)
theorem steps_len (n : Nat) (F : Nat → Nat → Int) : (steps n F).length = n := by simp [steps]
/-- the slice '.slice A n c' reads as these steps -/
def Steps (w : World) (A : Option Addr) (xs : List Step) : Prop :=
  0 < xs.length → ∃ b off, A = some ⟨b, off, none⟩ ∧ b < w.heap.size ∧ ∀ j x, xs[j]? = some x → w.cell? ⟨b, off + j * 4, none⟩ = some (.int .i64 x.1) ∧ w.cell? ⟨b, off + j * 4 + 1, none⟩ = some (.int .i64 x.2.1) ∧ w.cell? ⟨b, off + j * 4 + 2, none⟩ = some (.int .i64 x.2.2.1) ∧ w.cell? ⟨b, off + j * 4 + 3, none⟩ = some (.int .i64 x.2.2.2)
theorem Steps.at_ {w w' : World} {A : Option Addr} {xs : List Step} (h : Steps w A xs) (hf : Fr No w w') {k : Nat} (hk : k < xs.length) : ∃ b off, A = some ⟨b, off, none⟩ ∧ b < w'.heap.size ∧ w'.cell? ⟨b, off + k * 4, none⟩ = some (.int .i64 xs[k].1) ∧ w'.cell? ⟨b, off + k * 4 + 1, none⟩ = some (.int .i64 xs[k].2.1) ∧ w'.cell? ⟨b, off + k * 4 + 2, none⟩ = some (.int .i64 xs[k].2.2.1) ∧ w'.cell? ⟨b, off + k * 4 + 3, none⟩ = some (.int .i64 xs[k].2.2.2) := by
  obtain ⟨b, off, h1, h2, h3⟩ := h (by omega)
  have key : ∀ o : Nat, w'.cell? ⟨b, o, none⟩ = w.cell? ⟨b, o, none⟩ := fun o => hf.cell (p := ⟨b, o, none⟩) h2 (fun h => h)
  obtain ⟨c1, c2, c3, c4⟩ := h3 k _ (List.getElem?_eq_getElem hk)
  exact ⟨b, off, h1, Nat.lt_of_lt_of_le h2 hf.size, (key _).trans c1, (key _).trans c2, (key _).trans c3, (key _).trans c4⟩
theorem steps_at {n : Nat} {F : Nat → Nat → Int} {j : Nat} {p : Step} (h : (steps n F)[j]? = some p) : j < n ∧ p = (F j 0, F j 1, F j 2, F j 3) := by
  unfold steps at h
  rw [List.getElem?_map] at h
  rcases Nat.lt_or_ge j n with hlt | hge
  · rw [List.getElem?_range hlt] at h
    simp at h
    exact ⟨hlt, h.symm⟩
  · rw [List.getElem?_eq_none (by simpa using hge)] at h
    cases h
theorem steps_arg {w : World} {A : Option Addr} {n : Nat} {F : Nat → Nat → Int} (h : 0 < n → ∃ b off, A = some ⟨b, off, none⟩ ∧ b < w.heap.size ∧ ∀ i j, i < n → j < 4 → w.cell? ⟨b, off + (i * 4 + j), none⟩ = some (.int .i64 (F i j))) : Steps w A (steps n F) := by
  intro h0
  rw [steps_len] at h0
  obtain ⟨b, off, e, hb, hc⟩ := h h0
  refine ⟨b, off, e, hb, fun j p hp => ?_⟩
  obtain ⟨hj, rfl⟩ := steps_at hp
  exact ⟨hc j 0 hj (by decide), hc j 1 hj (by decide), hc j 2 hj (by decide), hc j 3 hj (by decide)⟩
end Go.Proofs.Ytbmobikhfcmgjaa
