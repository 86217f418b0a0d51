/- Plain: what the closure is. -/
import Derived.Test.YthikjaoffikigaaM
namespace Go.Proofs.Ythikjaoffikigaa

/-- a way from one to another, all between below k -/
inductive Pth (r : Nat → Nat → Bool) (k : Nat) : Nat → Nat → Prop
  | one {i j : Nat} : r i j = true → Pth r k i j
  | step {i m j : Nat} : r i m = true → m < k → Pth r k m j → Pth r k i j
section
variable {r r' : Nat → Nat → Bool} {k n i j m : Nat}
theorem Pth.mono (h : Pth r k i j) {k' : Nat} (hk : k ≤ k') : Pth r k' i j := by
  induction h with
  | one h => exact .one h
  | step h hm _ ih => exact .step h (by omega) ih
theorem Pth.trans (h : Pth r k i m) (hm : m < k) (h' : Pth r k m j) : Pth r k i j := by
  induction h with
  | one h => exact .step h hm h'
  | step h hl _ ih => exact .step h hl (ih hm h')
theorem Pth.part (h : Pth r (k + 1) i j) : Pth r k i j ∨ (Pth r k i k ∧ Pth r k k j) := by
  induction h with
  | one h => exact .inl (.one h)
  | @step i m j h hm _ ih =>
    by_cases hmk : m < k
    · rcases ih with ih | ⟨h1, h2⟩
      · exact .inl (.step h hmk ih)
      · exact .inr ⟨.step h hmk h1, h2⟩
    · obtain rfl : m = k := by omega
      rcases ih with ih | ⟨_, h2⟩
      · exact .inr ⟨.one h, ih⟩
      · exact .inr ⟨.one h, h2⟩
theorem war_pth (n : Nat) (r : Nat → Nat → Bool) : ∀ (k : Nat), k ≤ n → ∀ i j, i < n → (war n r k i j = true ↔ Pth r k i j)
  | 0, _, i, j, _ => ⟨fun h => .one h, fun h => by
      cases h with
      | one h => exact h
      | step _ hm _ => omega⟩
  | k + 1, hk, i, j, hi => by
    have ih := war_pth n r k (by omega)
    show colV (war n r k) k n i j = true ↔ _
    unfold colV
    simp only [hi, decide_true, Bool.true_and, Bool.or_eq_true, Bool.and_eq_true]
    rw [ih i j hi, ih i k hi, ih k j (by omega)]
    constructor
    · rintro (h | ⟨h1, h2⟩)
      · exact h.mono (by omega)
      · exact (h1.mono (by omega)).trans (by omega) (h2.mono (by omega))
    · intro h
      rcases h.part with h | h
      · exact .inl h
      · exact .inr h
/-- the closure -/
def clo (n : Nat) (r : Nat → Nat → Bool) : Nat → Nat → Bool := war n r n
theorem clo_iff (hi : i < n) : clo n r i j = true ↔ Pth r n i j := war_pth n r n (Nat.le_refl _) i j hi
theorem clo_has (hi : i < n) (h : r i j = true) : clo n r i j = true := (clo_iff hi).2 (.one h)
theorem clo_trans (hi : i < n) (hm : m < n) (h1 : clo n r i m = true) (h2 : clo n r m j = true) : clo n r i j = true := (clo_iff hi).2 (((clo_iff hi).1 h1).trans hm ((clo_iff hm).1 h2))
theorem Pth.le (h : Pth r n i j) (hr : ∀ i j, r i j = true → r' i j = true) : Pth r' n i j := by
  induction h with
  | one h => exact .one (hr _ _ h)
  | step h hm _ ih => exact .step (hr _ _ h) hm ih
theorem clo_le (hi : i < n) (hr : ∀ i j, r i j = true → r' i j = true) (h : clo n r i j = true) : clo n r' i j = true := (clo_iff hi).2 (((clo_iff hi).1 h).le hr)
theorem Pth.back (h : Pth r n i j) (hr : ∀ i j, r i j = true → r' j i = true) : Pth r' n j i := by
  induction h with
  | one h => exact .one (hr _ _ h)
  | step h hm _ ih => exact ih.trans hm (.one (hr _ _ h))
theorem bool_iff {a b : Bool} (h : a = true ↔ b = true) : a = b := by cases a <;> cases b <;> simp_all
theorem clo_back (hi : i < n) (hj : j < n) (hr : ∀ i j, r i j = r' j i) : clo n r i j = clo n r' j i :=
  bool_iff ⟨fun h => (clo_iff hj).2 (((clo_iff hi).1 h).back fun i j h => by rw [← hr]; exact h), fun h => (clo_iff hi).2 (((clo_iff hj).1 h).back fun i j h => by rw [hr]; exact h)⟩
theorem Pth.flat (h : Pth (clo n r) n i j) (hi : i < n) : Pth r n i j := by
  induction h with
  | one h => exact (clo_iff hi).1 h
  | step h hm _ ih => exact ((clo_iff hi).1 h).trans hm (ih hm)
theorem clo_clo (hi : i < n) : clo n (clo n r) i j = clo n r i j :=
  bool_iff ⟨fun h => (clo_iff hi).2 (((clo_iff hi).1 h).flat hi), fun h => clo_has hi h⟩
end
theorem rowC_congr {n : Nat} {r r' : Nat → Nat → Bool} {i : Nat} (h : ∀ j, j < n → r i j = r' i j) : rowC n r i = rowC n r' i := sn_congr fun j hj => by rw [h j hj]
theorem cnt_congr {n : Nat} {r r' : Nat → Nat → Bool} (h : ∀ i j, i < n → j < n → r i j = r' i j) : cnt n r = cnt n r' := sn_congr fun i hi => rowC_congr fun j hj => h i j hi hj
theorem sn_plus (f g : Nat → Nat) (n : Nat) : sn (fun k => f k + g k) n = sn f n + sn g n := by
  induction n with
  | zero => rfl
  | succ n ih => simp only [sn]; rw [ih]; omega
theorem sn_swap (f : Nat → Nat → Nat) (a b : Nat) : sn (fun i => sn (f i) b) a = sn (fun j => sn (fun i => f i j) a) b := by
  induction a with
  | zero => exact (sn_zero fun _ _ => rfl).symm
  | succ a ih =>
    simp only [sn]
    rw [ih, ← sn_plus]
theorem cnt_back {n : Nat} {r r' : Nat → Nat → Bool} (h : ∀ i j, i < n → j < n → r i j = r' j i) : cnt n r = cnt n r' := by
  unfold cnt
  have e : sn (rowC n r') n = sn (fun i => sn (fun j => one (r' i j)) n) n := rfl
  rw [e, sn_swap]
  exact sn_congr fun i hi => sn_congr fun j hj => by rw [h i j hi hj]

/-- so many pairs are set -/
def addR (n : Nat) (l : List (Int × Int)) : Nat → Nat → Nat → Bool
  | 0 => r0
  | k + 1 => setR n (addR n l k) (l.getD k (0, 0)).1 (l.getD k (0, 0)).2
/-- .. turned around -/
def addT (n : Nat) (l : List (Int × Int)) : Nat → Nat → Nat → Bool
  | 0 => r0
  | k + 1 => setR n (addT n l k) (l.getD k (0, 0)).2 (l.getD k (0, 0)).1
theorem setR_back {n : Nat} {r r' : Nat → Nat → Bool} (h : ∀ i j, r i j = r' j i) (a b : Int) (i j : Nat) : setR n r a b i j = setR n r' b a j i := by
  unfold setR
  rw [Bool.and_comm]
  split
  · unfold plus; rw [h, Bool.and_comm (decide (i = a.toNat))]
  · exact h i j
theorem add_back (n : Nat) (l : List (Int × Int)) : ∀ (k i j : Nat), addR n l k i j = addT n l k j i
  | 0, _, _ => rfl
  | k + 1, i, j => setR_back (add_back n l k) _ _ i j
/-- .. on top of another relation -/
def addO (n : Nat) (l : List (Int × Int)) (r : Nat → Nat → Bool) : Nat → Nat → Nat → Bool
  | 0 => r
  | k + 1 => setR n (addO n l r k) (l.getD k (0, 0)).1 (l.getD k (0, 0)).2
theorem setR_ge {n : Nat} {r : Nat → Nat → Bool} {a b : Int} {i j : Nat} (h : r i j = true) : setR n r a b i j = true := by
  unfold setR
  split
  · unfold plus; rw [h]; rfl
  · exact h
theorem addO_ge (n : Nat) (l : List (Int × Int)) (r : Nat → Nat → Bool) {i j : Nat} (h : r i j = true) : ∀ k, addO n l r k i j = true
  | 0 => h
  | k + 1 => setR_ge (addO_ge n l r h k)
theorem addR_ge (n : Nat) (l : List (Int × Int)) {i j k : Nat} (h : addR n l k i j = true) : ∀ d, addR n l (k + d) i j = true
  | 0 => h
  | d + 1 => setR_ge (addR_ge n l h d)
theorem addR_has (n : Nat) (l : List (Int × Int)) {k m : Nat} (hk : k < m) {a b : Nat} (ha : a < n) (hb : b < n) (e : l.getD k (0, 0) = ((a : Int), (b : Int))) : addR n l m a b = true := by
  obtain ⟨d, rfl⟩ : ∃ d, m = k + 1 + d := ⟨m - (k + 1), by omega⟩
  refine addR_ge n l ?_ d
  show setR n (addR n l k) (l.getD k (0, 0)).1 (l.getD k (0, 0)).2 a b = true
  rw [e]
  unfold setR
  have h1 : inn n a = true := by unfold inn; simp; omega
  have h2 : inn n b = true := by unfold inn; simp; omega
  rw [h1, h2]
  simp [plus]
end Go.Proofs.Ythikjaoffikigaa
