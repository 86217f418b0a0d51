/- Size, in, Has, Set. -/
import Derived.Test.YthikjaoffikigaaC
namespace Go.Proofs.Ythikjaoffikigaa
open Go.RowKit

theorem Mx.head {w : World} {m n : Nat} {r : Nat → Nat → Bool} {lo hi : Nat} (h : Mx w m n r lo hi) : n ≤ 1024 ∧ ∃ R : Value, Blk w m 47 #[.int .i64 n, R] := by
  obtain ⟨L, g, h⟩ := h
  exact ⟨h.most, _, h.head⟩
set_option maxHeartbeats 400000 in
theorem size_any {w : World} {m n : Nat} {r : Nat → Nat → Bool} {lo hi : Nat} (h : Mx w m n r lo hi) : Calls Try.prog 21 #[.pointer (some ⟨m, 0, none⟩)] w fun e w' => e = .returned (.int .i64 n) ∧ w = w' := by
  obtain ⟨hn, R, hb⟩ := h.head
  have c0 : w.cell? ⟨m, 0, none⟩ = some (.int .i64 n) := hb.cell 0
  have hg := hb.lt
  clear h hb
  go_enter Try.func21, Try.ntmps21
  go_wp2
  go_ret
  exact ⟨rfl, rfl⟩
set_option maxHeartbeats 400000 in
theorem size_nil (w : World) : Calls Try.prog 21 #[.pointer none] w fun e w' => e = .returned (.int .i64 0) ∧ w = w' := by
  go_enter Try.func21, Try.ntmps21
  go_wp2
  go_ret
  exact ⟨rfl, rfl⟩
/-- is a number within -/
def inn (n : Nat) (i : Int) : Bool := decide (0 ≤ i) && decide (i < n)
set_option maxHeartbeats 400000 in
theorem in_any {w : World} {m n : Nat} {r : Nat → Nat → Bool} {lo hi : Nat} (h : Mx w m n r lo hi) (i : Int) : Calls Try.prog 24 #[.pointer (some ⟨m, 0, none⟩), .int .i64 i] w fun e w' => e = .returned (.bool (inn n i)) ∧ w = w' := by
  have H := Lib.hid h
  clear h
  by_cases h0 : 0 ≤ i
  · go_enter Try.func24, Try.ntmps24
    go_wp2_with (go_at_call 21; refine (size_any H.out).mono ?_; rintro e w1 ⟨rfl, rfl⟩)
    go_ret
    exact ⟨by simp [inn, h0], rfl⟩
  · go_enter Try.func24, Try.ntmps24
    go_wp2
    go_ret
    refine ⟨?_, rfl⟩
    have : inn n i = false := by unfold inn; simp; omega
    rw [this]; rfl
set_option maxHeartbeats 400000 in
theorem in_nil (w : World) (i : Int) : Calls Try.prog 24 #[.pointer none, .int .i64 i] w fun e w' => e = .returned (.bool false) ∧ w = w' := by
  by_cases h0 : 0 ≤ i
  · go_enter Try.func24, Try.ntmps24
    go_wp2_with (go_at_call 21; refine (size_nil _).mono ?_; rintro e w1 ⟨rfl, rfl⟩)
    go_ret
    exact ⟨by simp; omega, rfl⟩
  · go_enter Try.func24, Try.ntmps24
    go_wp2
    go_ret
    exact ⟨by simp [h0], rfl⟩

theorem div_pow (x s : Nat) : (x : Int) / 2 ^ s = ((x / 2 ^ s : Nat) : Int) := by
  rw [Int.natCast_ediv, Int.natCast_pow]; rfl
theorem bit_test {x s : Nat} (hx : x < 18446744073709551616) : (bits .and .u64 ((x : Int) / 2 ^ s) 1 == 1) = x.testBit s := by
  rw [div_pow, show (1 : Int) = ((1 : Nat) : Int) from rfl, u64_and_nat _ _ (Nat.lt_of_le_of_lt (Nat.div_le_self _ _) hx) (by decide), nat_mask1, Nat.testBit_eq_decide_div_mod_eq]
  by_cases h : x / 2 ^ s % 2 = 1
  · rw [h]; rfl
  · rw [show x / 2 ^ s % 2 = 0 by omega]; rfl
theorem wd_lt {n b : Nat} (h : b < n) : b / 64 < wd n := by unfold wd; omega
set_option maxHeartbeats 400000 in
theorem has_in {w : World} {m n : Nat} {r : Nat → Nat → Bool} {lo hi : Nat} (h : Mx w m n r lo hi) {a b : Nat} (ha : a < n) (hb : b < n) : Calls Try.prog 12 #[.pointer (some ⟨m, 0, none⟩), .int .i64 a, .int .i64 b] w fun e w' => e = .returned (.bool (r a b)) ∧ w = w' := by
  have H := Lib.hid h
  obtain ⟨L, g, hL⟩ := h
  obtain ⟨v, hv⟩ : ∃ v, b / 64 = v := ⟨_, rfl⟩
  obtain ⟨s, hs⟩ : ∃ s, b % 64 = s := ⟨_, rfl⟩
  have hvl : v < wd n := hv ▸ wd_lt hb
  have hmost := hL.most
  have hv16 : v ≤ 15 := by unfold wd at hvl; omega
  have hwn : wd n ≤ 16 := by unfold wd; omega
  have hm := hL.head
  have c1 : w.cell? ⟨m, 1, none⟩ = some (.slice L.ra n L.rc) := hm.cell 1
  have hg := hm.lt
  have hra := hL.ra (by omega)
  rw [hra] at c1
  have c2 := hL.rows a ha
  have c3 := hL.words a ha v hvl
  have hx := hL.low ha hvl
  have hbit := hL.bits a ha v hvl s
  generalize g a v = x at *
  have hi1 : inn n a = true := by unfold inn; simp; omega
  have hi2 : inn n b = true := by unfold inn; simp; omega
  have hv1 : (b : Int) / 64 = v := by omega
  have hv2 : (b : Int).tdiv 64 = v := by rw [Int.tdiv_eq_ediv_of_nonneg (by omega)]; omega
  have hs1 : (b : Int) % 64 = s := by omega
  have hs2 : (b : Int).tmod 64 = s := by rw [Int.tmod_eq_emod_of_nonneg (by omega)]; omega
  have hsl : s < 64 := by omega
  have HB := Lib.hid hbit
  have HV := Lib.hid hv
  have HS := Lib.hid hs
  have hwl : v < wd n := hvl
  clear hL hm hra hbit hv hs
  go_enter Try.func12, Try.ntmps12
  go_wp2_with (go_at_call 24; refine (in_any H.out _).mono ?_; rintro e w1 ⟨rfl, rfl⟩)
  go_ret
  refine ⟨?_, rfl⟩
  have ht := bit_test (s := s) hx
  rw [HB.out, show 64 * v + s = b by have := HV.out; have := HS.out; omega] at ht
  simp [hsl, hb] at ht
  exact congrArg (fun t => Ending.returned (Value.bool t)) ht

set_option maxHeartbeats 400000 in
theorem has_out {w : World} {m n : Nat} {r : Nat → Nat → Bool} {lo hi : Nat} (h : Mx w m n r lo hi) {i k : Int} (ho : (inn n i && inn n k) = false) : Calls Try.prog 12 #[.pointer (some ⟨m, 0, none⟩), .int .i64 i, .int .i64 k] w fun e w' => e = .returned (.bool false) ∧ w = w' := by
  have H := Lib.hid h
  clear h
  cases h1 : inn n i
  · clear ho
    go_enter Try.func12, Try.ntmps12
    go_wp2_with (go_at_call 24; refine (in_any H.out _).mono ?_; rintro e w1 ⟨rfl, rfl⟩)
    go_ret
    exact ⟨rfl, rfl⟩
  · rw [h1] at ho
    have h2 : inn n k = false := by simpa using ho
    clear ho
    go_enter Try.func12, Try.ntmps12
    go_wp2_with (go_at_call 24; refine (in_any H.out _).mono ?_; rintro e w1 ⟨rfl, rfl⟩)
    go_ret
    exact ⟨rfl, rfl⟩
/-- is one related to another one, both within -/
def hasB (n : Nat) (r : Nat → Nat → Bool) (i k : Int) : Bool := inn n i && inn n k && r i.toNat k.toNat
theorem inn_iff {n : Nat} {i : Int} (h : inn n i = true) : ∃ a : Nat, i = a ∧ a < n := by
  unfold inn at h
  simp at h
  exact ⟨i.toNat, by omega, by omega⟩
theorem has_any {w : World} {m n : Nat} {r : Nat → Nat → Bool} {lo hi : Nat} (h : Mx w m n r lo hi) (i k : Int) : Calls Try.prog 12 #[.pointer (some ⟨m, 0, none⟩), .int .i64 i, .int .i64 k] w fun e w' => e = .returned (.bool (hasB n r i k)) ∧ w = w' := by
  cases ho : inn n i && inn n k
  · have : hasB n r i k = false := by unfold hasB; rw [ho]; rfl
    rw [this]
    exact has_out h ho
  · have h1 : inn n i = true := by cases hi : inn n i <;> simp_all
    have h2 : inn n k = true := by cases hi : inn n k <;> simp_all
    have : hasB n r i k = r i.toNat k.toNat := by unfold hasB; rw [ho]; rfl
    rw [this]
    obtain ⟨a, rfl, ha⟩ := inn_iff h1
    obtain ⟨b, rfl, hb⟩ := inn_iff h2
    exact has_in h ha hb

def upd (g : Nat → Nat → Nat) (a v y : Nat) : Nat → Nat → Nat := fun i u => if i = a ∧ u = v then y else g i u
theorem MxL.put {w : World} {m n : Nat} {L : Lay} {g : Nat → Nat → Nat} {r r' : Nat → Nat → Bool} {lo hi : Nat} (h : MxL w m n L g r lo hi) {a v y : Nat} (ha : a < n) (hv : v < wd n)
    (hy : ∀ t, y.testBit t = (decide (t < 64) && decide (64 * v + t < n) && r' a (64 * v + t))) (hr : ∀ i k, i < n → k < n → (i ≠ a ∨ k / 64 ≠ v) → r' i k = r i k) :
    MxL (w.setCell ⟨L.b a, L.o a + v, none⟩ (.int .u64 (y : Nat))) m n L (upd g a v y) r' lo hi := by
  have hn : 0 < n := by omega
  obtain ⟨cb, hcb⟩ := h.tyB a ha
  obtain ⟨cr, hcr⟩ := h.ty hn
  have hne1 : m ≠ L.b a := h.head.ne_ hcb (by decide)
  have hne2 : L.rb ≠ L.b a := hcr.ne_ hcb (by decide)
  refine { most := h.most, head := h.head.far (p := ⟨L.b a, L.o a + v, none⟩) hne1 _, inM := h.inM, top := by simpa [World.setCell] using h.top, ra := h.ra, inR := h.inR, ty := fun _ => ⟨cr, hcr.far (p := ⟨L.b a, L.o a + v, none⟩) hne2 _⟩, rows := fun i hi' => ?_, inB := h.inB, tyB := fun i hi' => ?_, words := fun i hi' u hu => ?_, apart := h.apart, bits := fun i hi' u hu t => ?_ }
  · rw [World.cell?_setCell_other (h := fun e => hne2 (by injection e with e1; exact e1.symm))]
    exact h.rows i hi'
  · obtain ⟨cs, hcs⟩ := h.tyB i hi'
    by_cases e : L.b i = L.b a
    · rw [e]; exact ⟨_, hcb.set_ _ _⟩
    · exact ⟨cs, hcs.far (p := ⟨L.b a, L.o a + v, none⟩) e _⟩
  · unfold upd
    by_cases e : i = a ∧ u = v
    · obtain ⟨rfl, rfl⟩ := e
      rw [if_pos ⟨rfl, rfl⟩, World.cell?_setCell_same (h := h.words i hi' u hu)]
    · rw [if_neg e, World.cell?_setCell_other (h := fun e' => e (by
        injection e' with e1 e2
        exact (fun ⟨x, y⟩ => ⟨x.symm, y.symm⟩) (h.apart a i v u ha hi' hv hu e1 e2)))]
      exact h.words i hi' u hu
  · unfold upd
    by_cases e : i = a ∧ u = v
    · obtain ⟨rfl, rfl⟩ := e
      rw [if_pos ⟨rfl, rfl⟩, hy]
    · rw [if_neg e, h.bits i hi' u hu]
      by_cases ht : t < 64
      · by_cases hk : 64 * u + t < n
        · rw [hr i _ hi' hk (by
            by_cases hia : i = a
            · right; intro hd; exact e ⟨hia, by omega⟩
            · left; exact hia)]
        · simp [hk]
      · simp [ht]
end Go.Proofs.Ythikjaoffikigaa
