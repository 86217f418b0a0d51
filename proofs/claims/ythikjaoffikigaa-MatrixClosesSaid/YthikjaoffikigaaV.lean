/- Plain: what is reached by going on so often is the closure. -/
import Derived.Test.YthikjaoffikigaaN
namespace Go.Proofs.Ythikjaoffikigaa

/-- one goes through all numbers ahead of j: what is reached goes on -/
def sw (r : Nat → Nat → Bool) (n : Nat) (o : Nat → Bool) : Nat → Nat → Bool
  | 0 => o
  | j + 1 => if sw r n o j j then (fun x => sw r n o j x || (decide (x < n) && r j x)) else sw r n o j
/-- so often -/
def rn (r : Nat → Nat → Bool) (n : Nat) (o : Nat → Bool) : Nat → Nat → Bool
  | 0 => o
  | t + 1 => sw r n (rn r n o t) n
section
variable {r : Nat → Nat → Bool} {n : Nat} {o o' : Nat → Bool}
theorem sw_next {j x : Nat} (h : sw r n o j x = true) : sw r n o (j + 1) x = true := by
  unfold sw
  split
  · simp [h]
  · exact h
theorem sw_mono {j x : Nat} (h : sw r n o j x = true) : ∀ d, sw r n o (j + d) x = true
  | 0 => h
  | d + 1 => sw_next (sw_mono h d)
theorem sw_ge {x : Nat} (h : o x = true) (j : Nat) : sw r n o j x = true := by
  have := sw_mono (r := r) (n := n) (o := o) (j := 0) h j
  simpa using this
theorem sw_has {j k : Nat} (ho : o j = true) (hj : j < n) (hk : k < n) (h : r j k = true) : sw r n o n k = true := by
  have h1 : sw r n o (j + 1) k = true := by
    unfold sw
    rw [if_pos (sw_ge ho j)]
    simp [hk, h]
  have := sw_mono h1 (n - (j + 1))
  rwa [show j + 1 + (n - (j + 1)) = n by omega] at this
theorem sw_sound {i : Nat} (h : ∀ x, o x = true → x < n ∧ Pth r n i x) : ∀ j, j ≤ n → ∀ x, sw r n o j x = true → x < n ∧ Pth r n i x
  | 0, _, x, hx => h x hx
  | j + 1, hj, x, hx => by
    unfold sw at hx
    split at hx
    · rename_i hs
      rcases Bool.or_eq_true _ _ ▸ hx with hx | hx
      · exact sw_sound h j (by omega) x hx
      · simp at hx
        exact ⟨hx.1, (sw_sound h j (by omega) j hs).2.trans (by omega) (.one hx.2)⟩
    · exact sw_sound h j (by omega) x hx
theorem sw_congr (h : ∀ x, x < n → o x = o' x) : ∀ j, j ≤ n → ∀ x, x < n → sw r n o j x = sw r n o' j x
  | 0, _, x, hx => h x hx
  | j + 1, hj, x, hx => by
    have ih := sw_congr h j (by omega)
    unfold sw
    rw [ih j (by omega)]
    split
    · show (_ || _) = (_ || _); rw [ih x hx]
    · exact ih x hx
theorem rn_ge {x : Nat} (h : o x = true) : ∀ t, rn r n o t x = true
  | 0 => h
  | t + 1 => sw_ge (rn_ge h t) n
theorem rn_sound {i : Nat} (h : ∀ x, o x = true → x < n ∧ Pth r n i x) : ∀ t x, rn r n o t x = true → x < n ∧ Pth r n i x
  | 0, x, hx => h x hx
  | t + 1, x, hx => sw_sound (fun x hx => rn_sound h t x hx) n (Nat.le_refl _) x hx
def sz (n : Nat) (o : Nat → Bool) : Nat := sn (fun x => one (o x)) n
theorem sn_lt {f g : Nat → Nat} : ∀ {n : Nat}, (∀ k, k < n → f k ≤ g k) → (∀ k, k < n → f k = g k) ∨ sn f n + 1 ≤ sn g n
  | 0, _ => .inl fun k h => by omega
  | n + 1, h => by
    have hn := h n (by omega)
    have hle : sn f n ≤ sn g n := by
      rcases sn_lt (f := f) (g := g) (n := n) (fun k hk => h k (by omega)) with h' | h'
      · rw [sn_congr h']; omega
      · omega
    rcases sn_lt (f := f) (g := g) (n := n) (fun k hk => h k (by omega)) with h' | h'
    · by_cases e : f n = g n
      · exact .inl fun k hk => by
          by_cases hkn : k = n
          · subst hkn; exact e
          · exact h' k (by omega)
      · right; simp only [sn]; omega
    · right; simp only [sn]; omega
theorem sz_le (n : Nat) (o : Nat → Bool) : sz n o ≤ n := by
  have := sn_le (f := fun x => one (o x)) (n := n) (c := 1) (fun k _ => one_le _)
  unfold sz; omega
theorem one_inj {a b : Bool} (h : one a = one b) : a = b := by cases a <;> cases b <;> simp_all [one]
theorem sw_grow (r : Nat → Nat → Bool) (n : Nat) (o : Nat → Bool) : (∀ x, x < n → sw r n o n x = o x) ∨ sz n o + 1 ≤ sz n (sw r n o n) := by
  have h := sn_lt (f := fun x => one (o x)) (g := fun x => one (sw r n o n x)) (n := n) (fun k _ => by
    show one (o k) ≤ one (sw r n o n k)
    cases ho : o k
    · simp [one]
    · rw [sw_ge ho n]; exact Nat.le_refl _)
  rcases h with h | h
  · exact .inl fun x hx => (one_inj (h x hx)).symm
  · exact .inr h
theorem rn_stable (r : Nat → Nat → Bool) (n : Nat) (o : Nat → Bool) : ∀ t, (∀ x, x < n → rn r n o (t + 1) x = rn r n o t x) ∨ t + 1 ≤ sz n (rn r n o (t + 1))
  | 0 => by
    rcases sw_grow r n o with h | h
    · exact .inl h
    · exact .inr (by show 0 + 1 ≤ sz n (sw r n o n); omega)
  | t + 1 => by
    rcases rn_stable r n o t with h | h
    · exact .inl fun x hx => sw_congr h n (Nat.le_refl _) x hx
    · rcases sw_grow r n (rn r n o (t + 1)) with h' | h'
      · exact .inl h'
      · exact .inr (by show t + 1 + 1 ≤ sz n (sw r n (rn r n o (t + 1)) n); omega)
theorem rn_closed (r : Nat → Nat → Bool) (n : Nat) (o : Nat → Bool) {j k : Nat} (hj : j < n) (hk : k < n) (h : rn r n o n j = true) (hr : r j k = true) : rn r n o n k = true := by
  rcases rn_stable r n o n with h' | h'
  · rw [← h' k hk]
    exact sw_has h hj hk hr
  · have := sz_le n (rn r n o (n + 1)); omega
theorem reach {f : Nat → Bool} (hc : ∀ j k, j < n → k < n → f j = true → r j k = true → f k = true) {a k : Nat} (h : Pth r n a k) (hk : k < n) : (∀ x, x < n → r a x = true → f x = true) → f k = true := by
  induction h with
  | one h => intro ha; exact ha _ hk h
  | step h hm _ ih => intro ha; exact ih hk fun x hx hr => hc _ x hm hx (ha _ hm h) hr
end
/-- what is reached from i -/
def from0 (n : Nat) (r : Nat → Nat → Bool) (i : Nat) : Nat → Bool := fun x => decide (x < n) && r i x
theorem from_clo (n : Nat) (r : Nat → Nat → Bool) {i k : Nat} (hi : i < n) (hk : k < n) : rn r n (from0 n r i) n k = clo n r i k := by
  refine bool_iff ⟨fun h => (clo_iff hi).2 (rn_sound (fun x hx => ?_) n k h).2, fun h => ?_⟩
  · unfold from0 at hx
    simp at hx
    exact ⟨hx.1, .one hx.2⟩
  · refine reach (fun j k hj hk h hr => rn_closed r n _ hj hk h hr) ((clo_iff hi).1 h) hk fun x hx hr => rn_ge (by unfold from0; simp [hx, hr]) n
end Go.Proofs.Ythikjaoffikigaa
