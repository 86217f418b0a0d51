/- Pairs as they come in; two matrices beside one another. -/
import Derived.Test.YthikjaoffikigaaN
import Derived.Test.YthikjaoffikigaaO
namespace Go.Proofs.Ythikjaoffikigaa
open Go.RowKit Go.WideShapes Go.ChangeShapes Go.ChangeAt Go.Deep

/-- a pair, as it lies -/
def plS : Shape (Int × Int) := ⟨fun p => [.int .i64 p.1, .int .i64 p.2], 2, fun _ => rfl, by decide, fun x u hu => by simp at hu; rcases hu with rfl | rfl <;> rfl⟩
theorem Pairs_at {w : World} {A : Option Addr} {l : List (Int × Int)} (h : SlS plS w A l) {k : Nat} (hk : k < l.length) : ∃ b off, A = some ⟨b, off, none⟩ ∧ b < w.heap.size ∧ w.cell? ⟨b, off + k * 2, none⟩ = some (.int .i64 (l.getD k (0, 0)).1) ∧ w.cell? ⟨b, off + k * 2 + 1, none⟩ = some (.int .i64 (l.getD k (0, 0)).2) := by
  obtain ⟨b, off, h1, h2, hd⟩ := h.at_ hk
  have e : l.getD k (0, 0) = l[k] := by simp [List.getD, hk]
  rw [e]
  exact ⟨b, off, h1, h2, hd 0 _ rfl, hd 1 _ rfl⟩
section
variable {H : Type} {enc : TypeId × Value → H} {w : World}
theorem open_pairs {v : Value} {d : DataW H} {p : List MemPlace} {b0 : Nat} (hv : Value.okWide Try.prog w .any b0 22 v) (h : DataW.Trod enc Try.prog w 0 (fun _ => true) true 22 v d p) :
    ∃ (A : Option Addr) (c : Nat) (l : List (Int × Int)), v = .slice A l.length c ∧ l.length ≤ c ∧ c ≤ maxLen ∧ SlS plS w A l := by
  obtain ⟨A, n, c, F, rfl, hl, hm, _, hc⟩ := open_structs Try.underlying22 Try.underlying29 (by kernel_rfl) (by kernel_rfl) (by decide) (by
    intro j f hj
    match j, hj with
    | 0, hj => cases hj; exact Try.underlying3
    | 1, hj => cases hj; exact Try.underlying3) hv h
  have hlen : (pairs n F).length = n := by simp [pairs]
  refine ⟨A, c, pairs n F, by rw [hlen], by rw [hlen]; exact hl, hm, fun hn => ?_⟩
  rw [hlen] at hn
  obtain ⟨b, off, rfl, hb, hcell⟩ := hc hn
  refine ⟨b, off, rfl, hb, fun j x hx i u hu => ?_⟩
  obtain ⟨hj, rfl⟩ := pairs_at hx
  match i, hu with
  | 0, hu => cases hu; exact hcell j 0 hj (by decide)
  | 1, hu => cases hu; have := hcell j 1 hj (by decide); rw [show plS.size = 2 from rfl, Nat.add_assoc]; exact this
  | i + 2, hu => exact absurd hu (by simp [plS])
end
theorem Fr.inn' {a w w' : World} {lo hi : Nat} (h : Fr No a w) (k : Fr (In lo hi) w w') (hl : a.heap.size ≤ lo) : Fr No a w' := h.then_ k fun i hi' hs => by unfold In at hs; omega
theorem Mx.far {w w' : World} {m n : Nat} {r : Nat → Nat → Bool} {lo hi lo' hi' : Nat} (h : Mx w m n r lo hi) (k : Fr (In lo' hi') w w') (hd : hi ≤ lo' ∨ hi' ≤ lo) : Mx w' m n r lo hi :=
  h.fr k fun i hi hs => by unfold In at *; omega
theorem Mx.top {w : World} {m n : Nat} {r : Nat → Nat → Bool} {lo hi : Nat} (h : Mx w m n r lo hi) : hi ≤ w.heap.size := by
  obtain ⟨L, g, h⟩ := h
  exact h.top
theorem hasB_nat {n : Nat} {r : Nat → Nat → Bool} {a b : Nat} (ha : a < n) (hb : b < n) : hasB n r a b = r a b := by
  unfold hasB
  have h1 : inn n a = true := by unfold inn; simp; omega
  have h2 : inn n b = true := by unfold inn; simp; omega
  rw [h1, h2, Int.toNat_natCast, Int.toNat_natCast]; rfl
end Go.Proofs.Ythikjaoffikigaa
