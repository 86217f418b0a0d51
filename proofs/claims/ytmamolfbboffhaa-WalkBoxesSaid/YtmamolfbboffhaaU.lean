/- A map keyed by complex numbers: look up and put in. -/
import Derived.Test.YtmamolfbboffhaaE
import Derived.Maps.OwnSet
namespace Go.Proofs.Ytmamolfbboffhaa
open Go.RowKit Go.Instr

theorem zvq {a b : Zw} {p q : Int × Int} (h : Zv a p) (h' : Zv b q) : (Op.floatEq .f64 a.1 b.1 && Op.floatEq .f64 a.2 b.2) = decide (p = q) := by
  have e1 : Op.floatEq .f64 a.1 b.1 = decide (p.1 = q.1) := by
    unfold Op.floatEq
    rw [show FloatKind.f64.format.order a.1 b.1 = some (compare p.1 q.1) from val_order h.1 h'.1]
    by_cases hx : p.1 = q.1
    · simp [hx]
    · rw [decide_eq_false hx]
      rcases Int.lt_or_gt_of_ne hx with h | h
      · rw [Int.compare_eq_lt.2 h]; rfl
      · rw [Int.compare_eq_gt.2 h]; rfl
  have e2 : Op.floatEq .f64 a.2 b.2 = decide (p.2 = q.2) := by
    unfold Op.floatEq
    rw [show FloatKind.f64.format.order a.2 b.2 = some (compare p.2 q.2) from val_order h.2 h'.2]
    by_cases hx : p.2 = q.2
    · simp [hx]
    · rw [decide_eq_false hx]
      rcases Int.lt_or_gt_of_ne hx with h | h
      · rw [Int.compare_eq_lt.2 h]; rfl
      · rw [Int.compare_eq_gt.2 h]; rfl
  rw [e1, e2]
  by_cases h1 : p.1 = q.1 <;> by_cases h2 : p.2 = q.2 <;> simp [h1, h2, Prod.ext_iff]

/-- the entries: each place at its number -/
def ents : Nat → List Zw → List MapEntry
  | _, [] => []
  | j, z :: zs => ⟨zV z, .int .i64 j, j⟩ :: ents (j + 1) zs
theorem ents_snoc (z : Zw) : ∀ (j : Nat) (zs : List Zw), ents j (zs ++ [z]) = ents j zs ++ [⟨zV z, .int .i64 (j + zs.length : Nat), j + zs.length⟩]
  | j, [] => by simp [ents]
  | j, y :: zs => by
    simp only [List.cons_append, ents, ents_snoc z (j + 1) zs, List.length_cons]
    rw [show j + 1 + zs.length = j + (zs.length + 1) by omega]
theorem run_eq (w : World) (a b : Zw) : (Op.equal 23 (zV a) (zV b)).run Try.prog w = .ok (Op.floatEq .f64 a.1 b.1 && Op.floatEq .f64 a.2 b.2) w := by
  unfold Op.equal
  rw [show Op.maxDepth = 9999 + 1 from rfl]
  unfold Op.equalIn
  simp only [Sem.run_bind, run_underlying Try.underlying23, Result.andThen_ok, zV]
  simp

/-- the first place that is this one -/
def hit (p : Int × Int) : List (Int × Int) → Option Nat
  | [] => none
  | q :: l => if p = q then some 0 else (hit p l).map (· + 1)
theorem run_ask (w : World) {z : Zw} {p : Int × Int} (hz : Zv z p) : ∀ (zs : List Zw) (l : List (Int × Int)) (i j : Nat), Zvs zs l → (findAsking 23 (zV z) (ents j zs) i).run Try.prog w = .ok ((hit p l).map fun n => (i + n, .int .i64 (j + n : Nat))) w
  | [], [], i, j, _ => by simp [ents, findAsking, hit]
  | [], _ :: _, _, _, h => absurd h.1 (by simp)
  | _ :: _, [], _, _, h => absurd h.1 (by simp)
  | y :: zs, q :: l, i, j, h => by
    have hy : Zv y q := h.2 0 (by simp) (by simp)
    have ht : Zvs zs l := ⟨by have := h.1; simpa using this, fun n h1 h2 => by have := h.2 (n + 1) (by simp; omega) (by simp; omega); simpa using this⟩
    have ih := run_ask w hz zs l (i + 1) (j + 1) ht
    unfold ents findAsking
    simp only [Sem.run_bind, run_eq, zvq hz hy, Result.andThen_ok]
    unfold hit
    by_cases hpq : p = q
    · simp [hpq]
    · simp only [hpq, decide_false, if_false]
      simp only [Bool.false_eq_true, if_false]
      rw [ih]
      cases hit p l with
      | none => rfl
      | some n => simp; omega
theorem run_key (w : World) {z : Zw} {p : Int × Int} (hz : Zv z p) {zs : List Zw} {l : List (Int × Int)} (h : Zvs zs l) : (findKey 23 (zV z) (ents 0 zs)).run Try.prog w = .ok ((hit p l).map fun n => (n, .int .i64 n)) w := by
  have ha := run_ask w hz zs l 0 0 h
  unfold findKey
  simp only [Sem.run_bind, run_underlying Try.underlying23, Result.andThen_ok]
  cases zs with
  | nil =>
    cases l with
    | nil => simp [ents, findNow, hit]
    | cons q l => exact absurd h.1 (by simp)
  | cons y zs =>
    have : findNow (.complex .f64) (zV z) (ents 0 (y :: zs)) 0 = none := by simp [ents, findNow, sameNow, zV]
    simp only [this, ha]
    simp
end Go.Proofs.Ytmamolfbboffhaa
