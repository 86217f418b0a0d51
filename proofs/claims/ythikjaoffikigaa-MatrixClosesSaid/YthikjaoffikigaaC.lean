/- A matrix of bits, as it lies; its size, what is in it, one pair asked and set. -/
import Derived.Test.YthikjaoffikigaaB
namespace Go.Proofs.Ythikjaoffikigaa
open Go.RowKit

/-- the blocks from lo on, ahead of hi -/
def In (lo hi : Nat) : Nat → Prop := fun k => lo ≤ k ∧ k < hi
/-- how many words a row has -/
def wd (n : Nat) : Nat := (n + 63) / 64

/-- where the rows lie -/
structure Lay where
  rb : Nat
  ro : Nat
  ra : Option Addr
  rc : Nat
  b : Nat → Nat
  o : Nat → Nat
  c : Nat → Nat

/-- the matrix at block m: n numbers, related as r says -/
structure MxL (w : World) (m n : Nat) (L : Lay) (g : Nat → Nat → Nat) (r : Nat → Nat → Bool) (lo hi : Nat) : Prop where
  most : n ≤ 1024
  head : Blk w m 47 #[.int .i64 n, .slice L.ra n L.rc]
  inM : In lo hi m
  top : hi ≤ w.heap.size
  ra : 0 < n → L.ra = some ⟨L.rb, L.ro, none⟩
  inR : 0 < n → In lo hi L.rb
  ty : 0 < n → ∃ cs, Blk w L.rb 48 cs
  rows : ∀ i, i < n → w.cell? ⟨L.rb, L.ro + i, none⟩ = some (.slice (some ⟨L.b i, L.o i, none⟩) (wd n) (L.c i))
  inB : ∀ i, i < n → In lo hi (L.b i)
  tyB : ∀ i, i < n → ∃ cs, Blk w (L.b i) 50 cs
  words : ∀ i, i < n → ∀ v, v < wd n → w.cell? ⟨L.b i, L.o i + v, none⟩ = some (.int .u64 (g i v : Nat))
  apart : ∀ i j u v, i < n → j < n → u < wd n → v < wd n → L.b i = L.b j → L.o i + u = L.o j + v → i = j ∧ u = v
  bits : ∀ i, i < n → ∀ v, v < wd n → ∀ b, (g i v).testBit b = (decide (b < 64) && decide (64 * v + b < n) && r i (64 * v + b))
def Mx (w : World) (m n : Nat) (r : Nat → Nat → Bool) (lo hi : Nat) : Prop := ∃ L g, MxL w m n L g r lo hi

section
variable {w w' : World} {m n : Nat} {L : Lay} {g : Nat → Nat → Nat} {r : Nat → Nat → Bool} {lo hi : Nat}
theorem MxL.fr {S : Nat → Prop} (h : MxL w m n L g r lo hi) (hf : Fr S w w') (hs : ∀ k, In lo hi k → ¬ S k) : MxL w' m n L g r lo hi where
  most := h.most
  head := h.head.fr hf (hs _ h.inM)
  inM := h.inM
  top := Nat.le_trans h.top hf.size
  ra := h.ra
  inR := h.inR
  ty := fun hn => by obtain ⟨cs, hc⟩ := h.ty hn; exact ⟨cs, hc.fr hf (hs _ (h.inR hn))⟩
  rows := fun i hi' => (hf.cell (p := ⟨L.rb, L.ro + i, none⟩) (Nat.lt_of_lt_of_le (h.inR (by omega)).2 h.top) (hs _ (h.inR (by omega)))).trans (h.rows i hi')
  inB := h.inB
  tyB := fun i hi' => by obtain ⟨cs, hc⟩ := h.tyB i hi'; exact ⟨cs, hc.fr hf (hs _ (h.inB i hi'))⟩
  words := fun i hi' v hv => (hf.cell (p := ⟨L.b i, L.o i + v, none⟩) (Nat.lt_of_lt_of_le (h.inB i hi').2 h.top) (hs _ (h.inB i hi'))).trans (h.words i hi' v hv)
  apart := h.apart
  bits := h.bits
theorem Mx.fr {S : Nat → Prop} (h : Mx w m n r lo hi) (hf : Fr S w w') (hs : ∀ k, In lo hi k → ¬ S k) : Mx w' m n r lo hi := by
  obtain ⟨L, g, h⟩ := h
  exact ⟨L, g, h.fr hf hs⟩
theorem Mx.no (h : Mx w m n r lo hi) (hf : Fr No w w') : Mx w' m n r lo hi := h.fr hf fun _ _ h => h
theorem Mx.congr {r' : Nat → Nat → Bool} (h : Mx w m n r lo hi) (e : ∀ i k, i < n → k < n → r i k = r' i k) : Mx w m n r' lo hi := by
  obtain ⟨L, g, h⟩ := h
  refine ⟨L, g, { h with bits := ?_ }⟩
  intro i hi' v hv b
  rw [h.bits i hi' v hv b]
  by_cases hb : b < 64
  · by_cases hk : 64 * v + b < n
    · rw [e i _ hi' hk]
    · simp [hk]
  · simp [hb]
theorem MxL.low (h : MxL w m n L g r lo hi) {i : Nat} (hi' : i < n) {v : Nat} (hv : v < wd n) : g i v < 18446744073709551616 := by
  exact Nat.lt_pow_two_of_testBit (g i v) (n := 64) fun b hb => by
    rw [h.bits i hi' v hv]
    simp
    omega
end
end Go.Proofs.Ythikjaoffikigaa
