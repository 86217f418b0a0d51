/- Arguments opened: a slice of events, a slice of places. -/
import Derived.Test.YtmamolfbboffhaaM
import Derived.Test.YtmamolfbboffhaaO
namespace Go.Proofs.Ytmamolfbboffhaa
open Go.RowKit Go.WideShapes Go.ChangeShapes Go.ChangeAt Go.Deep

section
variable {H : Type} {enc : TypeId × Value → H} {w : World}
theorem open_events {v : Value} {d : DataW H} {p : List MemPlace} {b0 : Nat} (hv : Value.okWide Try.prog w .any b0 37 v) (h : DataW.Trod enc Try.prog w 0 (fun _ => true) true 37 v d p) :
    ∃ (A : Option Addr) (c : Nat) (l : List Ev), v = .slice A l.length c ∧ l.length ≤ c ∧ c ≤ maxLen ∧ EvsWf l ∧ SlS evS w A l := by
  obtain ⟨a0, len, cap, rfl⟩ := okWide_slice Try.underlying37 hv
  obtain ⟨fuel, hf⟩ := h
  rcases open_slice_fields Try.underlying37 Try.underlying54 (by kernel_rfl) (by kernel_rfl) hf with ⟨hcs, _⟩ | ⟨a, len', cap', m, D, Pl, hcs, _, hl, hm, hmm, _, hi⟩
  · simp [Value.cells] at hcs
    obtain ⟨rfl, rfl, rfl⟩ := hcs
    exact ⟨none, 0, [], rfl, Nat.le_refl _, Nat.zero_le _, fun e h => by simp at h, SlS.nil _ _⟩
  · simp [Value.cells] at hcs
    obtain ⟨rfl, rfl, rfl⟩ := hcs
    simp only [if_true] at hmm
    have key : ∀ i, i < len → ∃ e : Ev, (-9223372036854775808 ≤ e.k ∧ e.k ≤ 9223372036854775807) ∧ ∀ j u, (evCells e)[j]? = some u → w.cell? (a.add (i * 8 + j)) = some u := by
      intro i hil
      obtain ⟨ys, n, _, _, hlen, hfld⟩ := hi i (by omega)
      obtain ⟨v0, y0, c0, _, t0⟩ := hfld 0 _ rfl
      obtain ⟨v1, y1, c1, _, t1⟩ := hfld 1 _ rfl
      obtain ⟨v2, y2, c2, _, t2⟩ := hfld 2 _ rfl
      obtain ⟨v3, y3, c3, _, t3⟩ := hfld 3 _ rfl
      obtain ⟨v4, y4, c4, _, t4⟩ := hfld 4 _ rfl
      obtain ⟨v5, y5, c5, _, t5⟩ := hfld 5 _ rfl
      obtain ⟨v6, y6, c6, _, t6⟩ := hfld 6 _ rfl
      obtain ⟨v7, y7, c7, _, t7⟩ := hfld 7 _ rfl
      obtain ⟨x0, e0, _, w0⟩ := DataW.trod_int Try.underlying3 t0
      obtain ⟨x1, e1, _, w1⟩ := DataW.trod_int Try.underlying3 t1
      obtain ⟨x2, e2, _, w2⟩ := DataW.trod_int Try.underlying3 t2
      obtain ⟨x3, e3, _, w3⟩ := DataW.trod_int Try.underlying3 t3
      obtain ⟨x4, e4, _, w4⟩ := DataW.trod_int Try.underlying3 t4
      obtain ⟨x5, e5, _, w5⟩ := DataW.trod_int Try.underlying3 t5
      obtain ⟨x6, e6, _⟩ := DataW.trod_bool Try.underlying4 t6
      obtain ⟨x7, e7, _⟩ := DataW.trod_bool Try.underlying4 t7
      simp at e0 e1 e2 e3 e4 e5 e6 e7
      subst e0 e1 e2 e3 e4 e5 e6 e7
      refine ⟨⟨x0, x1, x2, x3, x4, x5, x6, x7⟩, wf_bounds w0, fun j u hu => ?_⟩
      match j, hu with
      | 0, hu => cases hu; exact c0
      | 1, hu => cases hu; exact c1
      | 2, hu => cases hu; exact c2
      | 3, hu => cases hu; exact c3
      | 4, hu => cases hu; exact c4
      | 5, hu => cases hu; exact c5
      | 6, hu => cases hu; exact c6
      | 7, hu => cases hu; exact c7
      | n + 8, hu => simp [evCells] at hu
    have key2 : ∀ i, ∃ e : Ev, i < len → (-9223372036854775808 ≤ e.k ∧ e.k ≤ 9223372036854775807) ∧ ∀ j u, (evCells e)[j]? = some u → w.cell? (a.add (i * 8 + j)) = some u := by
      intro i
      by_cases hil : i < len
      · obtain ⟨e, he⟩ := key i hil
        exact ⟨e, fun _ => he⟩
      · exact ⟨⟨0, 0, 0, 0, 0, 0, false, false⟩, fun h => absurd h hil⟩
    obtain ⟨F, hF⟩ := Classical.axiomOfChoice key2
    have hlen : ((List.range len).map F).length = len := by simp
    refine ⟨some a, cap, (List.range len).map F, by rw [hlen], by rw [hlen]; exact hl, hm, fun e he => ?_, fun hn => ?_⟩
    · obtain ⟨i, hi, rfl⟩ := List.mem_map.1 he
      exact (hF i (List.mem_range.1 hi)).1
    · rw [hlen] at hn
      obtain ⟨b, off, spot⟩ := a
      have hc0 := (hF 0 hn).2 0 _ rfl
      have hsp : spot = none := by simpa [Addr.add] using World.cell?_spot hc0
      subst hsp
      rw [add_at] at hc0
      refine ⟨b, off, rfl, cell_lt hc0, fun j x hx i u hu => ?_⟩
      have hj : j < len := by
        rcases Nat.lt_or_ge j len with h | h
        · exact h
        · rw [List.getElem?_eq_none (by rw [hlen]; exact h)] at hx; cases hx
      rw [List.getElem?_map, List.getElem?_range hj] at hx
      simp at hx
      subst hx
      have := (hF j hj).2 i u hu
      rw [add_at, ← Nat.add_assoc] at this
      exact this

theorem open_places {v : Value} {d : DataW H} {p : List MemPlace} {b0 : Nat} (hv : Value.okWide Try.prog w .any b0 30 v) (h : DataW.Trod enc Try.prog w 0 (fun _ => true) true 30 v d p) :
    ∃ (A : Option Addr) (c : Nat) (l : List (Int × Int)), v = .slice A l.length c ∧ l.length ≤ c ∧ c ≤ maxLen ∧ SlS plS w A l := by
  obtain ⟨A, n, c, F, rfl, hl, hm, _, hc⟩ := open_structs Try.underlying30 Try.underlying27 (by kernel_rfl) (by kernel_rfl) (by decide) (by
    intro j f hj
    match j, hj with
    | 0, hj => cases hj; exact Try.underlying3
    | 1, hj => cases hj; exact Try.underlying3) hv h
  have hlen : (pairs n F).length = n := by simp [pairs]
  refine ⟨A, c, pairs n F, by rw [hlen], by rw [hlen]; exact hl, hm, fun hn => ?_⟩
  rw [hlen] at hn
  obtain ⟨b, off, rfl, hb, hcell⟩ := hc hn
  refine ⟨b, off, rfl, hb, fun j x hx i u hu => ?_⟩
  obtain ⟨hj, rfl⟩ := pairs_at hx
  match i, hu with
  | 0, hu => cases hu; exact hcell j 0 hj (by decide)
  | 1, hu => cases hu; have := hcell j 1 hj (by decide); rw [show plS.size = 2 from rfl, Nat.add_assoc]; exact this
  | i + 2, hu => exact absurd hu (by simp [plS])
end
end Go.Proofs.Ytmamolfbboffhaa
