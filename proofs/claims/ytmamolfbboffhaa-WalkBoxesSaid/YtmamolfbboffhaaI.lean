/- Plain: half of a double, the double of it; the sum of a closed path. -/
import Derived.Test.YtmamolfbboffhaaH
namespace Go.Proofs.Ytmamolfbboffhaa
open Ieee

theorem read_two : double.read 4611686018427387904 = .number false (2 ^ 52) (-51) := by decide
theorem DV.half {d : Datum} {x : Int} (h : DV 0 d x) (hx : x.natAbs < 2 ^ 53) : ∃ f, d.quotient 54 (.number false (2 ^ 52) (-51)) = some f ∧ DV 1 f x := by
  obtain ⟨s, k, rfl, hs⟩ := h
  refine ⟨_, rfl, s, ?_⟩
  have hl2 : (2 ^ 52 : Nat).log2 = 52 := by decide
  have hm : ∃ more, 54 + 52 - (x.natAbs * 2 ^ k).log2 = more ∧ (x.natAbs ≠ 0 → 52 ≤ k + more) := by
    refine ⟨_, rfl, fun h0 => ?_⟩
    rw [log2_scale h0]
    have := log2_le hx
    omega
  obtain ⟨more, hm, hge⟩ := hm
  rw [hl2, hm]
  by_cases h0 : x.natAbs = 0
  · have hx0 : x = 0 := by omega
    subst hx0
    have hml : more = 106 := by rw [← hm]; simp
    subst hml
    refine ⟨k + 55, ?_, fun h => absurd rfl h⟩
    simp
    omega
  · have hge := hge h0
    have e1 : (x.natAbs * 2 ^ k) <<< more = x.natAbs * 2 ^ (k + more - 52) * 2 ^ 52 := by
      rw [Nat.shiftLeft_eq, Nat.mul_assoc, ← Nat.pow_add, Nat.mul_assoc, ← Nat.pow_add, show k + more - 52 + 52 = k + more by omega]
    refine ⟨k + more - 51, ?_, hs⟩
    rw [e1, Nat.mul_div_cancel _ (by decide), Nat.mul_mod_left]
    have e2 : 2 * (x.natAbs * 2 ^ (k + more - 52)) = x.natAbs * 2 ^ (k + more - 51) := by
      rw [show k + more - 51 = k + more - 52 + 1 by omega, Nat.pow_succ]
      rw [Nat.mul_comm 2, Nat.mul_assoc]
    simp only [e2]
    simp
    omega
theorem val_half {a : Nat} {x : Int} (h : Val 0 a x) (hx : x.natAbs < 2 ^ 53) : ∃ r, floatBits .quo .f64 a 4611686018427387904 = some r ∧ Val 1 r x := by
  obtain ⟨f, h1, h2⟩ := DV.half h hx
  exact ⟨_, by show (((double.read a).quotient 54 (double.read 4611686018427387904)).map double.write) = _; rw [read_two, h1]; rfl, h2.write (by decide) hx⟩
theorem val_two : Val 0 4611686018427387904 2 := ⟨false, 51, by decide, fun _ => by decide⟩
theorem val_twice {a : Nat} {x : Int} (h : Val 1 a x) (hb : (x * 2).natAbs < 2 ^ 53) : ∃ r, floatBits .mul .f64 a 4611686018427387904 = some r ∧ Val 1 r (x * 2) := by
  obtain ⟨f, h1, h2⟩ := DV.product h val_two
  exact ⟨_, by show (((double.read a).product (double.read 4611686018427387904)).map double.write) = _; rw [h1]; rfl, h2.write (by decide) hb⟩
theorem val_eq2 {a b : Nat} {x : Int} (h : Val 1 a (x * 2)) (h' : Val 0 b x) : double.order a b = some .eq := by
  obtain ⟨s, i, e1, hs⟩ := h
  obtain ⟨t, j, e2, ht⟩ := h'
  unfold Format.order
  rw [e1, e2]
  have hb : min (-((i + 1 : Nat) : Int)) (-((j + 0 : Nat) : Int)) = -((max (i + 1) j : Nat) : Int) := by omega
  have e1 : (-((i + 1 : Nat) : Int) - -((max (i + 1) j : Nat) : Int)).toNat = max (i + 1) j - (i + 1) := by omega
  have e2 : (-((j + 0 : Nat) : Int) - -((max (i + 1) j : Nat) : Int)).toNat = max (i + 1) j - j := by omega
  simp only [Datum.order, hb, e1, e2, signed_val hs, signed_val ht]
  rw [show j + (max (i + 1) j - j) = max (i + 1) j by omega, show i + (max (i + 1) j - (i + 1)) = max (i + 1) j - 1 by omega]
  have e3 : x * 2 * 2 ^ (max (i + 1) j - 1) = x * 2 ^ (max (i + 1) j) := by
    obtain ⟨q, hq⟩ : ∃ q, max (i + 1) j = q + 1 := ⟨max (i + 1) j - 1, by omega⟩
    rw [hq, Int.pow_succ, Int.mul_assoc, Int.mul_comm 2, show q + 1 - 1 = q from rfl]
  rw [e3]
  simp

/-- twice the area, so far -/
def pt (l : List (Int × Int)) (k : Nat) : Int × Int := l.getD k (0, 0)
def cr (p q : Int × Int) : Int := p.1 * q.2 - p.2 * q.1
def dsum (l : List (Int × Int)) : Nat → Int | 0 => 0 | n + 1 => dsum l n + cr (pt l n) (pt l ((n + 1) % l.length))
def Small (l : List (Int × Int)) : Prop := ∀ p ∈ l, p.1.natAbs ≤ 10000 ∧ p.2.natAbs ≤ 10000
theorem pt_at {l : List (Int × Int)} {k : Nat} (h : k < l.length) : pt l k = l[k] := by simp [pt, h]
theorem Small.pt {l : List (Int × Int)} (h : Small l) (k : Nat) : (pt l k).1.natAbs ≤ 10000 ∧ (Ytmamolfbboffhaa.pt l k).2.natAbs ≤ 10000 := by
  by_cases hk : k < l.length
  · rw [pt_at hk]; exact h _ (List.getElem_mem hk)
  · have : Ytmamolfbboffhaa.pt l k = (0, 0) := by simp [Ytmamolfbboffhaa.pt, List.getElem?_eq_none (show l.length ≤ k by omega)]
    rw [this]; decide
theorem cr_le {p q : Int × Int} (h1 : p.1.natAbs ≤ 10000) (h2 : p.2.natAbs ≤ 10000) (h3 : q.1.natAbs ≤ 10000) (h4 : q.2.natAbs ≤ 10000) : (cr p q).natAbs ≤ 200000000 := by
  have key : ∀ x y : Int, x.natAbs ≤ 10000 → y.natAbs ≤ 10000 → (x * y).natAbs ≤ 10000 * 10000 := fun x y hx hy => by rw [Int.natAbs_mul]; exact Nat.mul_le_mul hx hy
  have := key _ _ h1 h4
  have := key _ _ h2 h3
  unfold cr
  omega
theorem dsum_le {l : List (Int × Int)} (h : Small l) (n : Nat) : (dsum l n).natAbs ≤ n * 200000000 := by
  induction n with
  | zero => simp [dsum]
  | succ n ih =>
    have := cr_le (h.pt n).1 (h.pt n).2 (h.pt ((n + 1) % l.length)).1 (h.pt ((n + 1) % l.length)).2
    simp only [dsum]
    omega
end Go.Proofs.Ytmamolfbboffhaa
