/- The document's matrix, as it lies: In, Has, Set. -/
import Derived.Test.YthikjaoffikigaaQ
namespace Go.Proofs.Ythikjaoffikigaa
open Go.RowKit

/-- the document's matrix at block m: n rows of n truths -/
structure RxL (w : World) (m n : Nat) (L : Lay) (r : Nat → Nat → Bool) (lo hi : Nat) : Prop where
  most : n ≤ 1024
  head : Blk w m 54 #[.slice L.ra n L.rc]
  inM : In lo hi m
  top : hi ≤ w.heap.size
  ra : 0 < n → L.ra = some ⟨L.rb, L.ro, none⟩
  inR : 0 < n → In lo hi L.rb
  ty : 0 < n → ∃ cs, Blk w L.rb 55 cs
  rows : ∀ i, i < n → w.cell? ⟨L.rb, L.ro + i, none⟩ = some (.slice (some ⟨L.b i, L.o i, none⟩) n (L.c i))
  inB : ∀ i, i < n → In lo hi (L.b i)
  tyB : ∀ i, i < n → ∃ cs, Blk w (L.b i) 4 cs
  words : ∀ i, i < n → ∀ j, j < n → w.cell? ⟨L.b i, L.o i + j, none⟩ = some (.bool (r i j))
  apart : ∀ i j u v, i < n → j < n → u < n → v < n → L.b i = L.b j → L.o i + u = L.o j + v → i = j ∧ u = v
def Rx (w : World) (m n : Nat) (r : Nat → Nat → Bool) (lo hi : Nat) : Prop := ∃ L, RxL w m n L r lo hi
section
variable {w w' : World} {m n : Nat} {L : Lay} {r : Nat → Nat → Bool} {lo hi : Nat}
theorem RxL.fr {S : Nat → Prop} (h : RxL w m n L r lo hi) (hf : Fr S w w') (hs : ∀ k, In lo hi k → ¬ S k) : RxL w' m n L r lo hi where
  most := h.most
  head := h.head.fr hf (hs _ h.inM)
  inM := h.inM
  top := Nat.le_trans h.top hf.size
  ra := h.ra
  inR := h.inR
  ty := fun hn => by obtain ⟨cs, hc⟩ := h.ty hn; exact ⟨cs, hc.fr hf (hs _ (h.inR hn))⟩
  rows := fun i hi' => (hf.cell (p := ⟨L.rb, L.ro + i, none⟩) (Nat.lt_of_lt_of_le (h.inR (by omega)).2 h.top) (hs _ (h.inR (by omega)))).trans (h.rows i hi')
  inB := h.inB
  tyB := fun i hi' => by obtain ⟨cs, hc⟩ := h.tyB i hi'; exact ⟨cs, hc.fr hf (hs _ (h.inB i hi'))⟩
  words := fun i hi' v hv => (hf.cell (p := ⟨L.b i, L.o i + v, none⟩) (Nat.lt_of_lt_of_le (h.inB i hi').2 h.top) (hs _ (h.inB i hi'))).trans (h.words i hi' v hv)
  apart := h.apart
theorem Rx.fr {S : Nat → Prop} (h : Rx w m n r lo hi) (hf : Fr S w w') (hs : ∀ k, In lo hi k → ¬ S k) : Rx w' m n r lo hi := by
  obtain ⟨L, h⟩ := h
  exact ⟨L, h.fr hf hs⟩
theorem Rx.no (h : Rx w m n r lo hi) (hf : Fr No w w') : Rx w' m n r lo hi := h.fr hf fun _ _ h => h
theorem Rx.far {lo' hi' : Nat} (h : Rx w m n r lo hi) (k : Fr (In lo' hi') w w') (hd : hi ≤ lo' ∨ hi' ≤ lo) : Rx w' m n r lo hi :=
  h.fr k fun i hi hs => by unfold In at *; omega
theorem Rx.top (h : Rx w m n r lo hi) : hi ≤ w.heap.size := by
  obtain ⟨L, h⟩ := h
  exact h.top
theorem Rx.head (h : Rx w m n r lo hi) : n ≤ 1024 ∧ ∃ A c, Blk w m 54 #[.slice A n c] := by
  obtain ⟨L, h⟩ := h
  exact ⟨h.most, _, _, h.head⟩
end
set_option maxHeartbeats 400000 in
theorem rin_any {w : World} {m n : Nat} {r : Nat → Nat → Bool} {lo hi : Nat} (h : Rx w m n r lo hi) (i : Int) : Calls Try.prog 26 #[.pointer (some ⟨m, 0, none⟩), .int .i64 i] w fun e w' => e = .returned (.bool (inn n i)) ∧ w = w' := by
  obtain ⟨hn, A, c, hb⟩ := h.head
  have c0 : w.cell? ⟨m, 0, none⟩ = some (.slice A n c) := hb.cell 0
  have hg := hb.lt
  clear h hb
  by_cases h0 : 0 ≤ i
  · go_enter Try.func26, Try.ntmps26
    go_wp2
    go_ret
    exact ⟨by simp [inn, h0], rfl⟩
  · go_enter Try.func26, Try.ntmps26
    go_wp2
    go_ret
    refine ⟨?_, rfl⟩
    have : inn n i = false := by unfold inn; simp; omega
    rw [this]; rfl
set_option maxHeartbeats 400000 in
theorem rhas_in {w : World} {m n : Nat} {r : Nat → Nat → Bool} {lo hi : Nat} (h : Rx w m n r lo hi) {a b : Nat} (ha : a < n) (hb : b < n) : Calls Try.prog 16 #[.pointer (some ⟨m, 0, none⟩), .int .i64 a, .int .i64 b] w fun e w' => e = .returned (.bool (r a b)) ∧ w = w' := by
  have H := Lib.hid h
  obtain ⟨L, hL⟩ := h
  have hmost := hL.most
  have hm := hL.head
  have c1 : w.cell? ⟨m, 0, none⟩ = some (.slice L.ra n L.rc) := hm.cell 0
  have hg := hm.lt
  have hra := hL.ra (by omega)
  rw [hra] at c1
  have c2 := hL.rows a ha
  have c3 := hL.words a ha b hb
  have hi1 : inn n a = true := by unfold inn; simp; omega
  have hi2 : inn n b = true := by unfold inn; simp; omega
  have i1 : (0 : Int) ≤ (a : Int) ∧ (a : Int) < (n : Nat) := by omega
  have i2 : (0 : Int) ≤ (b : Int) ∧ (b : Int) < (n : Nat) := by omega
  clear hL hm hra
  go_enter Try.func16, Try.ntmps16
  go_wp2_with (go_at_call 26; refine (rin_any H.out _).mono ?_; rintro e w1 ⟨rfl, rfl⟩)
  go_ret
  exact ⟨rfl, rfl⟩
set_option maxHeartbeats 400000 in
theorem rhas_out {w : World} {m n : Nat} {r : Nat → Nat → Bool} {lo hi : Nat} (h : Rx w m n r lo hi) {i k : Int} (ho : (inn n i && inn n k) = false) : Calls Try.prog 16 #[.pointer (some ⟨m, 0, none⟩), .int .i64 i, .int .i64 k] w fun e w' => e = .returned (.bool false) ∧ w = w' := by
  have H := Lib.hid h
  clear h
  cases h1 : inn n i
  · clear ho
    go_enter Try.func16, Try.ntmps16
    go_wp2_with (go_at_call 26; refine (rin_any H.out _).mono ?_; rintro e w1 ⟨rfl, rfl⟩)
    go_ret
    exact ⟨rfl, rfl⟩
  · rw [h1] at ho
    have h2 : inn n k = false := by simpa using ho
    clear ho
    go_enter Try.func16, Try.ntmps16
    go_wp2_with (go_at_call 26; refine (rin_any H.out _).mono ?_; rintro e w1 ⟨rfl, rfl⟩)
    go_ret
    exact ⟨rfl, rfl⟩
theorem rhas_any {w : World} {m n : Nat} {r : Nat → Nat → Bool} {lo hi : Nat} (h : Rx w m n r lo hi) (i k : Int) : Calls Try.prog 16 #[.pointer (some ⟨m, 0, none⟩), .int .i64 i, .int .i64 k] w fun e w' => e = .returned (.bool (hasB n r i k)) ∧ w = w' := by
  cases ho : inn n i && inn n k
  · have : hasB n r i k = false := by unfold hasB; rw [ho]; rfl
    rw [this]
    exact rhas_out h ho
  · have h1 : inn n i = true := by cases hi : inn n i <;> simp_all
    have h2 : inn n k = true := by cases hi : inn n k <;> simp_all
    have : hasB n r i k = r i.toNat k.toNat := by unfold hasB; rw [ho]; rfl
    rw [this]
    obtain ⟨a, rfl, ha⟩ := inn_iff h1
    obtain ⟨b, rfl, hb⟩ := inn_iff h2
    exact rhas_in h ha hb
theorem RxL.put {w : World} {m n : Nat} {L : Lay} {r r' : Nat → Nat → Bool} {lo hi : Nat} (h : RxL w m n L r lo hi) {a b : Nat} (ha : a < n) (hb : b < n) (hr : ∀ i k, i < n → k < n → ¬ (i = a ∧ k = b) → r' i k = r i k) :
    RxL (w.setCell ⟨L.b a, L.o a + b, none⟩ (.bool (r' a b))) m n L r' lo hi := by
  have hn : 0 < n := by omega
  obtain ⟨cb, hcb⟩ := h.tyB a ha
  obtain ⟨cr, hcr⟩ := h.ty hn
  have hne1 : m ≠ L.b a := h.head.ne_ hcb (by decide)
  have hne2 : L.rb ≠ L.b a := hcr.ne_ hcb (by decide)
  refine { most := h.most, head := h.head.far (p := ⟨L.b a, L.o a + b, none⟩) hne1 _, inM := h.inM, top := by simpa [World.setCell] using h.top, ra := h.ra, inR := h.inR, ty := fun _ => ⟨cr, hcr.far (p := ⟨L.b a, L.o a + b, none⟩) hne2 _⟩, rows := fun i hi' => ?_, inB := h.inB, tyB := fun i hi' => ?_, words := fun i hi' u hu => ?_, apart := h.apart }
  · rw [World.cell?_setCell_other (h := fun e => hne2 (by injection e with e1; exact e1.symm))]
    exact h.rows i hi'
  · obtain ⟨cs, hcs⟩ := h.tyB i hi'
    by_cases e : L.b i = L.b a
    · rw [e]; exact ⟨_, hcb.set_ _ _⟩
    · exact ⟨cs, hcs.far (p := ⟨L.b a, L.o a + b, none⟩) e _⟩
  · by_cases e : i = a ∧ u = b
    · obtain ⟨rfl, rfl⟩ := e
      rw [World.cell?_setCell_same (h := h.words i hi' u hu)]
    · rw [World.cell?_setCell_other (h := fun e' => e (by
        injection e' with e1 e2
        exact (fun ⟨x, y⟩ => ⟨x.symm, y.symm⟩) (h.apart a i b u ha hi' hb hu e1 e2)))]
      rw [hr i u hi' hu e]
      exact h.words i hi' u hu
def RSetted (m n : Nat) (r : Nat → Nat → Bool) (lo hi : Nat) (c : Int) (w : World) (e : Ending) (w' : World) : Prop := e = .returned (.int .i64 c) ∧ Rx w' m n r lo hi ∧ Fr (In lo hi) w w'
set_option maxHeartbeats 600000 in
theorem rset_in {w : World} {m n : Nat} {r : Nat → Nat → Bool} {lo hi : Nat} (h : Rx w m n r lo hi) {a b : Nat} (ha : a < n) (hb : b < n) : Calls Try.prog 15 #[.pointer (some ⟨m, 0, none⟩), .int .i64 a, .int .i64 b] w (RSetted m n (plus r a b) lo hi 0 w) := by
  have H := Lib.hid h
  obtain ⟨L, hL⟩ := h
  have KL := Lib.hid hL
  have hmost := hL.most
  have hm := hL.head
  have c1 : w.cell? ⟨m, 0, none⟩ = some (.slice L.ra n L.rc) := hm.cell 0
  have hg := hm.lt
  have hra := hL.ra (by omega)
  rw [hra] at c1
  have c2 := hL.rows a ha
  have c3 := hL.words a ha b hb
  obtain ⟨cb, hcb⟩ := hL.tyB a ha
  have z3 := hcb.frozen (L.o a + b)
  have hgb := hcb.lt
  have hi1 : inn n a = true := by unfold inn; simp; omega
  have hi2 : inn n b = true := by unfold inn; simp; omega
  have i1 : (0 : Int) ≤ (a : Int) ∧ (a : Int) < (n : Nat) := by omega
  have i2 : (0 : Int) ≤ (b : Int) ∧ (b : Int) < (n : Nat) := by omega
  clear hL hm hra hcb
  go_enter Try.func15, Try.ntmps15
  go_wp2_with (go_at_call 26; refine (rin_any H.out _).mono ?_; rintro e w1 ⟨rfl, rfl⟩)
  go_ret
  refine ⟨rfl, ⟨L, ?_⟩, (Fr.refl (In lo hi) w).setCell (p := ⟨L.b a, L.o a + b, none⟩) (fun _ => KL.out.inB a ha) _⟩
  have e : plus r a b a b = true := by simp [plus]
  have := KL.out.put (r' := plus r a b) ha hb (fun i k _ _ hik => by
    unfold plus
    by_cases h3 : i = a
    · have h4 : ¬ k = b := fun h => hik ⟨h3, h⟩
      simp [h4]
    · simp [h3])
  rw [e] at this
  exact this
set_option maxHeartbeats 400000 in
theorem rset_out {w : World} {m n : Nat} {r : Nat → Nat → Bool} {lo hi : Nat} (h : Rx w m n r lo hi) {i k : Int} (ho : (inn n i && inn n k) = false) : Calls Try.prog 15 #[.pointer (some ⟨m, 0, none⟩), .int .i64 i, .int .i64 k] w (RSetted m n r lo hi 1 w) := by
  have H := Lib.hid h
  clear h
  cases h2 : inn n i
  · clear ho
    go_enter Try.func15, Try.ntmps15
    go_wp2_with (go_at_call 26; refine (rin_any H.out _).mono ?_; rintro e w1 ⟨rfl, rfl⟩)
    go_ret
    exact ⟨rfl, H.out, Fr.refl _ _⟩
  · rw [h2] at ho
    have h3 : inn n k = false := by simpa using ho
    clear ho
    go_enter Try.func15, Try.ntmps15
    go_wp2_with (go_at_call 26; refine (rin_any H.out _).mono ?_; rintro e w1 ⟨rfl, rfl⟩)
    go_ret
    exact ⟨rfl, H.out, Fr.refl _ _⟩
theorem rset_any {w : World} {m n : Nat} {r : Nat → Nat → Bool} {lo hi : Nat} (h : Rx w m n r lo hi) (i k : Int) : Calls Try.prog 15 #[.pointer (some ⟨m, 0, none⟩), .int .i64 i, .int .i64 k] w (RSetted m n (setR n r i k) lo hi (setE n i k) w) := by
  cases ho : inn n i && inn n k
  · rw [show setR n r i k = r by unfold setR; rw [ho]; rfl, show setE n i k = 1 by unfold setE; rw [ho]; rfl]
    exact rset_out h ho
  · rw [show setR n r i k = plus r i.toNat k.toNat by unfold setR; rw [ho]; rfl, show setE n i k = 0 by unfold setE; rw [ho]; rfl]
    have h1 : inn n i = true := by cases hi : inn n i <;> simp_all
    have h2 : inn n k = true := by cases hi : inn n k <;> simp_all
    obtain ⟨a, rfl, ha⟩ := inn_iff h1
    obtain ⟨b, rfl, hb⟩ := inn_iff h2
    exact rset_in h ha hb
end Go.Proofs.Ythikjaoffikigaa
