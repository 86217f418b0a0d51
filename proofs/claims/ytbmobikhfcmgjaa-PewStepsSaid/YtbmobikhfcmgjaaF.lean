/- Adding whoever comes; who is kept. -/
import Derived.Test.YtbmobikhfcmgjaaE
import Derived.Test.YtbmobikhfcmgjaaO
namespace Go.Proofs.Ytbmobikhfcmgjaa
open Go.RowKit Go.WideShapes Go.ChangeShapes Go.ChangeAt

/-- may x wait, and is it none of ds? -/
def keep (ds : List Int) (x : Tr) : Bool := decide (0 ≤ x.1 ∧ -1 ≤ x.2.1 ∧ ∀ d ∈ ds, d ≠ x.1)
theorem keep_iff {ds : List Int} {x : Tr} : keep ds x = true ↔ 0 ≤ x.1 ∧ -1 ≤ x.2.1 ∧ ∀ d ∈ ds, d ≠ x.1 := by unfold keep; simp
theorem keep_drop (ds : List Int) (d : Int) (L : List Tr) : rest d (L.filter (keep ds)) = L.filter (keep (ds ++ [d])) := by
  unfold rest
  rw [List.filter_filter]
  congr 1
  funext x
  rw [Bool.eq_iff_iff]
  simp only [Bool.and_eq_true, bne_iff_ne, ne_eq, keep_iff, List.mem_append, List.mem_singleton]
  constructor
  · rintro ⟨h1, h2, h3, h4⟩
    exact ⟨h2, h3, fun e he => by rcases he with he | rfl; exact h4 e he; exact fun e => h1 e.symm⟩
  · rintro ⟨h2, h3, h4⟩
    exact ⟨fun e => h4 d (.inr rfl) e.symm, h2, h3, fun e he => h4 e (.inl he)⟩

def AddedAny (g B : Nat) (ns : List Seat) (x : Tr) (w : World) (e : Ending) (w' : World) : Prop := ∃ (r : Int) (ns' : List Seat), e = .returned (.int .i64 r) ∧ PewIs w' g B ns' ∧ who ns' = who ns ++ (if keep [] x then [x] else []) ∧ Fr (May g ns) w w'
theorem add_any {w : World} {g B : Nat} {ns : List Seat} (h : PewIs w g B ns) (hn : ns.length < 1024) (hB : B ≤ w.heap.size) (x : Tr) : Calls Try.prog 10 #[.pointer (some ⟨g, 0, none⟩), .agg #[.int .i64 x.1, .int .i64 x.2.1, .int .i64 x.2.2]] w (AddedAny g B ns x w) := by
  by_cases hx : x.1 < 0 ∨ x.2.1 < -1
  · refine (add_bad _ x.1 x.2.1 x.2.2 w hx).mono ?_
    rintro e w' ⟨rfl, hf⟩
    have hk : ¬ keep [] x = true := by rw [keep_iff]; rintro ⟨h1, h2, _⟩; omega
    exact ⟨1, ns, rfl, h.no hf, by rw [if_neg hk, List.append_nil], hf.mono fun _ _ h => h.elim⟩
  · refine (add_room h hn hB x.1 x.2.1 x.2.2 (by omega) (by omega)).mono ?_
    rintro e w' ⟨rfl, ⟨b, hb, hp⟩, hf⟩
    have hk : keep [] x = true := by rw [keep_iff]; exact ⟨by omega, by omega, by simp⟩
    exact ⟨0, _, rfl, hp, by rw [if_pos hk]; simp [who], hf⟩
theorem filter_snoc (p : Tr → Bool) (L : List Tr) (x : Tr) : (L ++ [x]).filter p = L.filter p ++ (if p x then [x] else []) := by
  rw [List.filter_append]
  cases h : p x <;> simp [List.filter_cons, h]

/-- the argument: a list of waiters -/
def trips (n : Nat) (F : Nat → Nat → Int) : List Tr := (List.range n).map fun i => (F i 0, F i 1, F i 2)
theorem trips_len (n : Nat) (F : Nat → Nat → Int) : (trips n F).length = n := by simp [trips]
theorem trips_at {n : Nat} {F : Nat → Nat → Int} {j : Nat} {p : Tr} (h : (trips n F)[j]? = some p) : j < n ∧ p = (F j 0, F j 1, F j 2) := by
  unfold trips at h
  rw [List.getElem?_map] at h
  rcases Nat.lt_or_ge j n with hlt | hge
  · rw [List.getElem?_range hlt] at h
    simp at h
    exact ⟨hlt, h.symm⟩
  · rw [List.getElem?_eq_none (by simpa using hge)] at h
    cases h
theorem trip_arg {w : World} {A : Option Addr} {n : Nat} {F : Nat → Nat → Int} (h : 0 < n → ∃ b off, A = some ⟨b, off, none⟩ ∧ b < w.heap.size ∧ ∀ i j, i < n → j < 3 → w.cell? ⟨b, off + (i * 3 + j), none⟩ = some (.int .i64 (F i j))) : Trip w A (trips n F) := by
  intro h0
  rw [trips_len] at h0
  obtain ⟨b, off, e, hb, hc⟩ := h h0
  refine ⟨b, off, e, hb, fun j p hp => ?_⟩
  obtain ⟨hj, rfl⟩ := trips_at hp
  exact ⟨hc j 0 hj (by decide), hc j 1 hj (by decide), hc j 2 hj (by decide)⟩

theorem who_len (ns : List Seat) : (who ns).length = ns.length := by simp [who]
theorem rest_same {q : Int} {L : List Tr} (h : ∀ x ∈ L, x.1 ≠ q) : rest q L = L := by
  unfold rest
  rw [List.filter_eq_self]
  intro x hx
  simpa using h x hx
theorem rest_lt {q : Int} : ∀ {L : List Tr}, (∃ x ∈ L, x.1 = q) → (rest q L).length < L.length
  | [], h => by obtain ⟨x, hx, _⟩ := h; cases hx
  | a :: L, h => by
    unfold rest
    rw [List.filter_cons]
    by_cases ha : a.1 = q
    · have hb : ¬ (a.1 != q) = true := by simp [ha]
      rw [if_neg hb]
      have := rest_le q L
      unfold rest at this
      rw [List.length_cons]
      omega
    · obtain ⟨x, hx, hb⟩ := h
      rcases List.mem_cons.1 hx with rfl | hx
      · exact absurd hb ha
      · have := rest_lt ⟨x, hx, hb⟩
        unfold rest at this
        have hb : (a.1 != q) = true := by simpa using ha
        rw [if_pos hb, List.length_cons, List.length_cons]
        omega
theorem rest_mem {q : Int} {L : List Tr} : ∀ x ∈ rest q L, x.1 ≠ q := by
  intro x hx
  unfold rest at hx
  simpa using (List.mem_filter.1 hx).2
end Go.Proofs.Ytbmobikhfcmgjaa
