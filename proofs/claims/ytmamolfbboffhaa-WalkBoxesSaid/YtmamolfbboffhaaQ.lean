/- Plain: the sum of a closed path that is turned as a whole, or backwards. -/
import Derived.Test.YtmamolfbboffhaaJ
namespace Go.Proofs.Ytmamolfbboffhaa

def sm (g : Nat → Int) : Nat → Int | 0 => 0 | n + 1 => sm g n + g n
theorem sm_congr {f g : Nat → Int} {n : Nat} (h : ∀ k, k < n → f k = g k) : sm f n = sm g n := by
  induction n with
  | zero => rfl
  | succ n ih => simp only [sm]; rw [ih (fun k hk => h k (by omega)), h n (by omega)]
theorem sm_head (g : Nat → Int) (n : Nat) : sm g (n + 1) = g 0 + sm (fun k => g (k + 1)) n := by
  induction n with
  | zero => simp [sm]
  | succ n ih => rw [sm, ih]; simp only [sm]; omega
theorem sm_neg (g : Nat → Int) (n : Nat) : sm (fun k => -(g k)) n = -(sm g n) := by
  induction n with
  | zero => rfl
  | succ n ih => simp only [sm]; rw [ih]; omega
theorem sm_rev (g : Nat → Int) (n : Nat) : sm (fun k => g (n - 1 - k)) n = sm g n := by
  induction n with
  | zero => rfl
  | succ n ih =>
    rw [sm_head]
    simp only [sm]
    rw [← ih, sm_congr (f := fun k => g (n + 1 - 1 - (k + 1))) (g := fun k => g (n - 1 - k)) (fun k hk => by show g _ = g _; congr 1; omega)]
    simp only [Nat.add_sub_cancel, Nat.sub_zero]
    omega
theorem sm_turn (g : Nat → Int) (m : Nat) : sm (fun k => g ((k + m) % (m + 1))) (m + 1) = sm g (m + 1) := by
  rw [sm_head]
  have : sm (fun k => g ((k + 1 + m) % (m + 1))) m = sm g m := sm_congr (fun k hk => by
    show g _ = g _
    congr 1
    rw [show k + 1 + m = k + (m + 1) by omega, Nat.add_mod_right]
    exact Nat.mod_eq_of_lt (by omega))
  rw [this]
  simp only [sm, Nat.zero_add]
  rw [Nat.mod_eq_of_lt (by omega)]
  omega
theorem dsum_sm (l : List (Int × Int)) (n : Nat) : dsum l n = sm (fun k => cr (pt l k) (pt l ((k + 1) % l.length))) n := by
  induction n with
  | zero => rfl
  | succ n ih => simp only [dsum, sm]; rw [ih]
theorem cr_swap (p q : Int × Int) : cr p q = -(cr q p) := by unfold cr; rw [Int.mul_comm q.1, Int.mul_comm q.2]; omega
theorem pt_reverse {l : List (Int × Int)} {k : Nat} (h : k < l.length) : pt l.reverse k = pt l (l.length - 1 - k) := by
  rw [pt_at (by simpa using h), pt_at (by omega), List.getElem_reverse]
theorem dsum_reverse (l : List (Int × Int)) : dsum l.reverse l.reverse.length = -(dsum l l.length) := by
  rw [dsum_sm, dsum_sm, List.length_reverse]
  obtain ⟨m, hm⟩ | h0 : (∃ m, l.length = m + 1) ∨ l.length = 0 := by
    cases h : l.length with
    | zero => exact .inr rfl
    | succ m => exact .inl ⟨m, rfl⟩
  · have h1 : sm (fun k => cr (pt l.reverse k) (pt l.reverse ((k + 1) % l.length))) l.length
        = sm (fun k => cr (pt l (l.length - 1 - k)) (pt l (l.length - 1 - (k + 1) % l.length))) l.length := sm_congr (fun k hk => by
      show cr _ _ = cr _ _
      rw [pt_reverse hk, pt_reverse (Nat.mod_lt _ (by omega))])
    rw [h1, ← sm_rev]
    rw [hm]
    have h2 : sm (fun k => cr (pt l (m + 1 - 1 - (m + 1 - 1 - k))) (pt l (m + 1 - 1 - (m + 1 - 1 - k + 1) % (m + 1)))) (m + 1)
        = sm (fun k => -((fun j => cr (pt l j) (pt l ((j + 1) % (m + 1)))) ((k + m) % (m + 1)))) (m + 1) := sm_congr (fun k hk => by
      show cr _ _ = -(cr _ _)
      rw [cr_swap]
      congr 2
      · congr 1
        by_cases hk0 : k = 0
        · subst hk0
          rw [show m + 1 - 1 - 0 + 1 = m + 1 by omega, Nat.mod_self, Nat.zero_add, Nat.mod_eq_of_lt (by omega)]
          omega
        · rw [Nat.mod_eq_of_lt (by omega), show k + m = (k - 1) + (m + 1) by omega, Nat.add_mod_right, Nat.mod_eq_of_lt (by omega)]
          omega
      · congr 1
        by_cases hk0 : k = 0
        · subst hk0
          rw [Nat.zero_add, Nat.mod_eq_of_lt (show m < m + 1 by omega), Nat.mod_self]
          omega
        · rw [show k + m = (k - 1) + (m + 1) by omega, Nat.add_mod_right, Nat.mod_eq_of_lt (show k - 1 < m + 1 by omega), show k - 1 + 1 = k by omega, Nat.mod_eq_of_lt (by omega)]
          omega)
    rw [h2, sm_neg, sm_turn (fun j => cr (pt l j) (pt l ((j + 1) % (m + 1))))]
  · rw [h0]; rfl

/-- a path turned as a whole -/
def trn (t : Int × Int) (l : List (Int × Int)) : List (Int × Int) := l.map fun p => mulZ p t
theorem pt_trn (t : Int × Int) (l : List (Int × Int)) (k : Nat) : pt (trn t l) k = mulZ (pt l k) t := by
  by_cases h : k < l.length
  · rw [pt_at (by simpa [trn] using h), pt_at h]; simp [trn]
  · have h1 : pt l k = (0, 0) := by simp [pt, List.getElem?_eq_none (show l.length ≤ k by omega)]
    have h2 : pt (trn t l) k = (0, 0) := by simp [pt, List.getElem?_eq_none (show (trn t l).length ≤ k by simp [trn]; omega)]
    rw [h1, h2]; simp [mulZ]
theorem cr_turn {t : Int × Int} (h : Dir t) (p q : Int × Int) : cr (mulZ p t) (mulZ q t) = cr p q := by
  unfold Dir at h
  rcases h with rfl | rfl | rfl | rfl <;> simp only [cr, mulZ] <;> simp [Int.mul_neg, Int.neg_mul] <;> (first | omega | (rw [Int.mul_comm p.2 q.1, Int.mul_comm p.1 q.2]; omega))
theorem dsum_turn {t : Int × Int} (h : Dir t) (l : List (Int × Int)) (n : Nat) : dsum (trn t l) n = dsum l n := by
  rw [dsum_sm, dsum_sm]
  refine sm_congr fun k hk => ?_
  show cr _ _ = cr _ _
  rw [pt_trn, pt_trn, cr_turn h]
  simp [trn]
theorem trn_small {t : Int × Int} (h : Dir t) {l : List (Int × Int)} (hs : Small l) : Small (trn t l) := by
  intro p hp
  obtain ⟨q, hq, rfl⟩ := List.mem_map.1 hp
  have := hs q hq
  unfold Dir at h
  rcases h with rfl | rfl | rfl | rfl <;> simp [mulZ] <;> omega
theorem small_reverse {l : List (Int × Int)} (hs : Small l) : Small l.reverse := fun p hp => hs p (by simpa using hp)
theorem zvs_pw {l : List (Int × Int)} (hs : Small l) : Zvs (l.map pw) l := by
  refine ⟨by simp, fun j h h' => ?_⟩
  have := hs _ (List.getElem_mem h')
  simp only [List.getElem_map]
  exact ⟨val_int _ (by omega), val_int _ (by omega)⟩
theorem Zvs.reverse {zs : List Zw} {l : List (Int × Int)} (h : Zvs zs l) : Zvs zs.reverse l.reverse := by
  refine ⟨by simp [h.1], fun j h1 h2 => ?_⟩
  simp only [List.getElem_reverse]
  have e := h.1
  have := h.2 (zs.length - 1 - j) (by simp at h1; omega) (by simp at h1; omega)
  simpa [e] using this
end Go.Proofs.Ytmamolfbboffhaa
