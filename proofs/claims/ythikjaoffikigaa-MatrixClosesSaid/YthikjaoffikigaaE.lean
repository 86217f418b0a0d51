/- Set. -/
import Derived.Test.YthikjaoffikigaaD
namespace Go.Proofs.Ythikjaoffikigaa
open Go.RowKit

theorem or_bit {x s : Nat} (hx : x < 18446744073709551616) (hs : s < 64) : bits .or .u64 (x : Int) (IntKind.u64.wrap (2 ^ s)) = ((x ||| 2 ^ s : Nat) : Int) := by
  have h2 : 2 ^ s < 18446744073709551616 := by
    have : (2 : Nat) ^ s < 2 ^ 64 := Nat.pow_lt_pow_right (by decide) hs
    exact this
  rw [show ((2 : Int) ^ s) = ((2 ^ s : Nat) : Int) by rw [Int.natCast_pow]; rfl, wrapN h2, u64_or_nat _ _ hx h2]
/-- one pair more -/
def plus (r : Nat → Nat → Bool) (a b : Nat) : Nat → Nat → Bool := fun i k => r i k || (decide (i = a) && decide (k = b))
def Setted (m n : Nat) (r : Nat → Nat → Bool) (lo hi : Nat) (c : Int) (w : World) (e : Ending) (w' : World) : Prop := e = .returned (.int .i64 c) ∧ Mx w' m n r lo hi ∧ Fr (In lo hi) w w'
set_option maxHeartbeats 600000 in
theorem set_in {w : World} {m n : Nat} {r : Nat → Nat → Bool} {lo hi : Nat} (h : Mx w m n r lo hi) {a b : Nat} (ha : a < n) (hb : b < n) : Calls Try.prog 10 #[.pointer (some ⟨m, 0, none⟩), .int .i64 a, .int .i64 b] w (Setted m n (plus r a b) lo hi 0 w) := by
  have H := Lib.hid h
  obtain ⟨L, g, hL⟩ := h
  have KL := Lib.hid hL
  obtain ⟨v, hv⟩ : ∃ v, b / 64 = v := ⟨_, rfl⟩
  obtain ⟨s, hs⟩ : ∃ s, b % 64 = s := ⟨_, rfl⟩
  have hvl : v < wd n := hv ▸ wd_lt hb
  have hmost := hL.most
  have hv16 : v ≤ 15 := by unfold wd at hvl; omega
  have hwn : wd n ≤ 16 := by unfold wd; omega
  have hm := hL.head
  have c1 : w.cell? ⟨m, 1, none⟩ = some (.slice L.ra n L.rc) := hm.cell 1
  have hg := hm.lt
  have hra := hL.ra (by omega)
  rw [hra] at c1
  have c2 := hL.rows a ha
  have c3 := hL.words a ha v hvl
  have hx := hL.low ha hvl
  obtain ⟨cb, hcb⟩ := hL.tyB a ha
  have z3 := hcb.frozen (L.o a + v)
  have hgb := hcb.lt
  have KX := Lib.hid (show ∃ x, g a v = x from ⟨_, rfl⟩)
  have hi1 : inn n a = true := by unfold inn; simp; omega
  have hi2 : inn n b = true := by unfold inn; simp; omega
  have hv1 : (b : Int) / 64 = v := by omega
  have hv2 : (b : Int).tdiv 64 = v := by rw [Int.tdiv_eq_ediv_of_nonneg (by omega)]; omega
  have hs1 : (b : Int) % 64 = s := by omega
  have hs2 : (b : Int).tmod 64 = s := by rw [Int.tmod_eq_emod_of_nonneg (by omega)]; omega
  have hsl : s < 64 := by omega
  have HV := Lib.hid hv
  have HS := Lib.hid hs
  have w1 : IntKind.i64.wrap ((b : Int).tdiv 64) = v := by rw [hv2, IntKind.wrap_i64]; omega
  have w2 : IntKind.i64.wrap ((b : Int) / 64) = v := by rw [hv1, IntKind.wrap_i64]; omega
  have w3 : IntKind.i64.wrap (v : Int) = v := by rw [IntKind.wrap_i64]; omega
  have i1 : (0 : Int) ≤ (v : Int) := by omega
  have i2 : (v : Int) < (wd n : Nat) := by omega
  have i3 : (0 : Int) ≤ (a : Int) := by omega
  have i4 : (a : Int) < (n : Int) := by omega
  clear hL hm hra hv hs hcb
  go_enter Try.func10, Try.ntmps10
  go_wp2_with (go_at_call 24; refine (in_any H.out _).mono ?_; rintro e w1 ⟨rfl, rfl⟩)
  go_region
  all_goals go_wp2
  have e := or_bit (x := g a v) (s := s) hx hsl
  rw [e]
  go_ret
  have hbv : b = 64 * v + s := by have := HV.out; have := HS.out; omega
  refine ⟨rfl, ?_, ?_⟩
  · refine Mx.no ⟨L, _, KL.out.put (y := g a v ||| 2 ^ s) (r' := plus r a b) ha hvl ?_ ?_⟩ ((Fr.refl No _).drew)
    · intro t
      rw [Nat.testBit_or, KL.out.bits a ha v hvl t, Nat.testBit_two_pow]
      unfold plus
      by_cases ht : s = t
      · subst ht
        rw [← hbv]
        simp [hsl, hb]
      · have h2 : ¬ 64 * v + t = b := by omega
        simp [ht, h2]
    · intro i k _ _ hik
      unfold plus
      have h2 : ¬ (i = a ∧ k = b) := by
        rintro ⟨rfl, rfl⟩
        rcases hik with h | h
        · exact h rfl
        · omega
      by_cases h3 : i = a
      · have h4 : ¬ k = b := fun h => h2 ⟨h3, h⟩
        simp [h4]
      · simp [h3]
  · exact ((Fr.refl (In lo hi) w).setCell (p := ⟨L.b a, L.o a + v, none⟩) (fun _ => KL.out.inB a ha) _).drew

set_option maxHeartbeats 400000 in
theorem set_out {w : World} {m n : Nat} {r : Nat → Nat → Bool} {lo hi : Nat} (h : Mx w m n r lo hi) {i k : Int} (ho : (inn n i && inn n k) = false) : Calls Try.prog 10 #[.pointer (some ⟨m, 0, none⟩), .int .i64 i, .int .i64 k] w (Setted m n r lo hi 1 w) := by
  have H := Lib.hid h
  clear h
  by_cases h0 : i < 0
  · clear ho
    go_enter Try.func10, Try.ntmps10
    go_wp2
    go_ret
    exact ⟨rfl, H.out, Fr.refl _ _⟩
  by_cases h1 : k < 0
  · clear ho
    go_enter Try.func10, Try.ntmps10
    go_wp2
    go_ret
    exact ⟨rfl, H.out, Fr.refl _ _⟩
  cases h2 : inn n i
  · clear ho
    go_enter Try.func10, Try.ntmps10
    go_wp2_with (go_at_call 24; refine (in_any H.out _).mono ?_; rintro e w1 ⟨rfl, rfl⟩)
    go_ret
    exact ⟨rfl, H.out, Fr.refl _ _⟩
  · rw [h2] at ho
    have h3 : inn n k = false := by simpa using ho
    clear ho
    go_enter Try.func10, Try.ntmps10
    go_wp2_with (go_at_call 24; refine (in_any H.out _).mono ?_; rintro e w1 ⟨rfl, rfl⟩)
    go_ret
    exact ⟨rfl, H.out, Fr.refl _ _⟩
/-- what Set makes of it; what it answers -/
def setR (n : Nat) (r : Nat → Nat → Bool) (i k : Int) : Nat → Nat → Bool := if inn n i && inn n k then plus r i.toNat k.toNat else r
def setE (n : Nat) (i k : Int) : Int := if inn n i && inn n k then 0 else 1
theorem set_any {w : World} {m n : Nat} {r : Nat → Nat → Bool} {lo hi : Nat} (h : Mx w m n r lo hi) (i k : Int) : Calls Try.prog 10 #[.pointer (some ⟨m, 0, none⟩), .int .i64 i, .int .i64 k] w (Setted m n (setR n r i k) lo hi (setE n i k) w) := by
  cases ho : inn n i && inn n k
  · rw [show setR n r i k = r by unfold setR; rw [ho]; rfl, show setE n i k = 1 by unfold setE; rw [ho]; rfl]
    exact set_out h ho
  · rw [show setR n r i k = plus r i.toNat k.toNat by unfold setR; rw [ho]; rfl, show setE n i k = 0 by unfold setE; rw [ho]; rfl]
    have h1 : inn n i = true := by cases hi : inn n i <;> simp_all
    have h2 : inn n k = true := by cases hi : inn n k <;> simp_all
    obtain ⟨a, rfl, ha⟩ := inn_iff h1
    obtain ⟨b, rfl, hb⟩ := inn_iff h2
    exact set_in h ha hb
end Go.Proofs.Ythikjaoffikigaa
