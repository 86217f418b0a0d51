/- Plain: doubles that stand for whole numbers (or halves) below 2^53: what add, sub, mul, halving and comparing give. -/
import Derived.Test.YtmamolfbboffhaaA
import Derived.Laws.ComplexArith
namespace Go.Proofs.Ytmamolfbboffhaa
open Ieee

theorem log2_scale {n : Nat} (h : n ≠ 0) (k : Nat) : (n * 2 ^ k).log2 = n.log2 + k := by
  have h1 := (Nat.le_log2 h).1 (Nat.le_refl _)
  have h2 := (Nat.log2_lt h).1 (Nat.lt_succ_self _)
  have hne : n * 2 ^ k ≠ 0 := Nat.mul_ne_zero h (by have := Nat.two_pow_pos k; omega)
  have a1 : n.log2 + k ≤ (n * 2 ^ k).log2 := (Nat.le_log2 hne).2 (by rw [Nat.pow_add]; exact Nat.mul_le_mul_right _ h1)
  have a2 : (n * 2 ^ k).log2 < n.log2 + k + 1 := (Nat.log2_lt hne).2 (by
    rw [show n.log2 + k + 1 = (n.log2 + 1) + k by omega, Nat.pow_add]
    exact Nat.mul_lt_mul_of_pos_right h2 (Nat.two_pow_pos k))
  omega

theorem cut_zero (s : Bool) (x : Nat) : Toward.even.cut s x 0 = x := by
  unfold Toward.cut
  simp
  constructor <;> omega
theorem cut_exact (s : Bool) (x d : Nat) (h : d ≤ (x * 2 ^ d).log2 + 2) : Toward.even.cut s (x * 2 ^ d) d = x := by
  unfold Toward.cut
  rw [Nat.min_eq_left h, Nat.one_shiftLeft]
  have hp := Nat.two_pow_pos d
  dsimp only
  rw [Nat.mul_div_cancel _ hp, Nat.mul_mod_left]
  simp

/-- the rung of n / 2^u -/
def rungOf (u n : Nat) : Nat := if n = 0 then 0 else (n.log2 + 1022 - u) * 4503599627370496 + n * 2 ^ (52 - n.log2)

theorem log2_le {n : Nat} (h : n < 2 ^ 53) : n.log2 ≤ 52 := by
  by_cases h0 : n = 0
  · subst h0; decide
  · have := (Nat.log2_lt h0).2 h
    omega
theorem kept_bounds {n : Nat} (h0 : n ≠ 0) (h : n < 2 ^ 53) : 4503599627370496 ≤ n * 2 ^ (52 - n.log2) ∧ n * 2 ^ (52 - n.log2) < 9007199254740992 := by
  have hl := log2_le h
  have h1 := (Nat.le_log2 h0).1 (Nat.le_refl _)
  have h2 := (Nat.log2_lt h0).1 (Nat.lt_succ_self _)
  have e1 : 2 ^ n.log2 * 2 ^ (52 - n.log2) = 4503599627370496 := by rw [← Nat.pow_add, show n.log2 + (52 - n.log2) = 52 by omega]
  have e2 : 2 ^ (n.log2 + 1) * 2 ^ (52 - n.log2) = 9007199254740992 := by rw [← Nat.pow_add, show n.log2 + 1 + (52 - n.log2) = 53 by omega]
  rw [← e1, ← e2]
  exact ⟨Nat.mul_le_mul_right _ h1, Nat.mul_lt_mul_of_pos_right h2 (Nat.two_pow_pos _)⟩
theorem least_double : double.leastPlace = -1074 := by decide
theorem frac_double : (double.fractionBits : Int) = 52 := by decide
theorem binade_double : double.binade = 4503599627370496 := by decide
theorem inf_double : double.infRung = 9218868437227405312 := by decide
theorem weight_double : double.signWeight = 9223372036854775808 := by decide

theorem nearest_scale (s : Bool) (u n k : Nat) (hu : u ≤ 1) (h : n < 2 ^ 53) : double.nearest s (n * 2 ^ k) (-((k + u : Nat) : Int)) = double.word s (rungOf u n) := by
  unfold Format.nearest rungOf
  by_cases h0 : n = 0
  · subst h0; simp
  · have hne : n * 2 ^ k ≠ 0 := Nat.mul_ne_zero h0 (by have := Nat.two_pow_pos k; omega)
    have hl := log2_le h
    obtain ⟨kb1, kb2⟩ := kept_bounds h0 h
    rw [if_neg hne, if_neg h0, log2_scale h0, least_double, frac_double, binade_double, inf_double]
    have hlast : max (-((k + u : Nat) : Int) + ((n.log2 + k : Nat) : Int) - 52) (-1074) = (n.log2 : Int) - u - 52 := by omega
    simp only [hlast]
    have hkept : Toward.even.cut s ((n * 2 ^ k) <<< (-((k + u : Nat) : Int) - ((n.log2 : Int) - u - 52)).toNat) ((n.log2 : Int) - u - 52 - -((k + u : Nat) : Int)).toNat = n * 2 ^ (52 - n.log2) := by
      by_cases hk : k ≤ 52 - n.log2
      · have e1 : (-((k + u : Nat) : Int) - ((n.log2 : Int) - u - 52)).toNat = 52 - n.log2 - k := by omega
        have e2 : ((n.log2 : Int) - u - 52 - -((k + u : Nat) : Int)).toNat = 0 := by omega
        rw [e1, e2, cut_zero, Nat.shiftLeft_eq, Nat.mul_assoc, ← Nat.pow_add, show k + (52 - n.log2 - k) = 52 - n.log2 by omega]
      · have e1 : (-((k + u : Nat) : Int) - ((n.log2 : Int) - u - 52)).toNat = 0 := by omega
        have e2 : ((n.log2 : Int) - u - 52 - -((k + u : Nat) : Int)).toNat = k + n.log2 - 52 := by omega
        rw [e1, e2, Nat.shiftLeft_zero]
        have e3 : n * 2 ^ k = n * 2 ^ (52 - n.log2) * 2 ^ (k + n.log2 - 52) := by rw [Nat.mul_assoc, ← Nat.pow_add, show 52 - n.log2 + (k + n.log2 - 52) = k by omega]
        rw [e3]
        exact cut_exact _ _ _ (by rw [← e3, log2_scale h0]; omega)
    rw [hkept]
    have e4 : ((n.log2 : Int) - u - 52 - -1074).toNat = n.log2 + 1022 - u := by omega
    rw [e4, Nat.min_eq_left (by omega)]

theorem read_rung (s : Bool) (u n : Nat) (hu : u ≤ 1) (h : n < 2 ^ 53) : ∃ k : Nat, double.read (double.word s (rungOf u n)) = .number s (n * 2 ^ k) (-((k + u : Nat) : Int)) := by
  have hw : rungOf u n < 9218868437227405312 := by
    unfold rungOf
    by_cases h0 : n = 0
    · rw [if_pos h0]; decide
    · rw [if_neg h0]; have := kept_bounds h0 h; have := log2_le h; omega
  have e1 : double.word s (rungOf u n) % 9223372036854775808 = rungOf u n := by
    unfold Format.word
    rw [weight_double]
    cases s <;> simp <;> omega
  have e2 : (double.word s (rungOf u n) / 9223372036854775808 % 2 == 1) = s := by
    unfold Format.word
    rw [weight_double]
    cases s
    · simp; omega
    · simp; omega
  unfold Format.read
  rw [weight_double, e1, e2, binade_double, inf_double, least_double]
  unfold rungOf at hw ⊢
  by_cases h0 : n = 0
  · refine ⟨1074 - u, ?_⟩
    subst h0
    rw [if_pos rfl, Nat.zero_mul]
    rw [if_pos (show (0 : Nat) < 4503599627370496 by omega), show (-((1074 - u + u : Nat) : Int)) = -1074 by omega]
  · refine ⟨52 - n.log2, ?_⟩
    rw [if_neg h0] at hw ⊢
    obtain ⟨kb1, kb2⟩ := kept_bounds h0 h
    have hl := log2_le h
    generalize n * 2 ^ (52 - n.log2) = K at *
    have c1 : ¬ (n.log2 + 1022 - u) * 4503599627370496 + K < 4503599627370496 := by omega
    have c3 : ((n.log2 + 1022 - u) * 4503599627370496 + K) % 4503599627370496 = K - 4503599627370496 := by omega
    have c4 : ((n.log2 + 1022 - u) * 4503599627370496 + K) / 4503599627370496 = n.log2 + 1023 - u := by omega
    rw [if_neg c1, if_pos hw, c3, c4]
    have c5 : 4503599627370496 + (K - 4503599627370496) = K := by omega
    have c6 : (-1074 : Int) + ((n.log2 + 1023 - u - 1 : Nat) : Int) = -((52 - n.log2 + u : Nat) : Int) := by omega
    rw [c5, c6]

/-- the datum stands for x / 2^u -/
def DV (u : Nat) (d : Datum) (x : Int) : Prop := ∃ (s : Bool) (k : Nat), d = .number s (x.natAbs * 2 ^ k) (-((k + u : Nat) : Int)) ∧ (x ≠ 0 → s = decide (x < 0))
/-- the word stands for x / 2^u -/
def Val (u : Nat) (b : Nat) (x : Int) : Prop := DV u (double.read b) x

theorem DV.write {u : Nat} {d : Datum} {x : Int} (h : DV u d x) (hu : u ≤ 1) (hx : x.natAbs < 2 ^ 53) : Val u (double.write d) x := by
  obtain ⟨s, k, rfl, hs⟩ := h
  unfold Format.write
  simp only
  rw [nearest_scale s u _ k hu hx]
  obtain ⟨k', hk⟩ := read_rung s u x.natAbs hu hx
  exact ⟨s, k', hk, hs⟩
theorem DV.opposite {u : Nat} {d : Datum} {x : Int} (h : DV u d x) : DV u d.opposite (-x) := by
  obtain ⟨s, k, rfl, hs⟩ := h
  refine ⟨!s, k, by simp [Datum.opposite], fun h0 => ?_⟩
  rw [hs (by omega)]
  by_cases h : x < 0
  · simp [h]; omega
  · simp [h]; omega
theorem signed_val {s : Bool} {x : Int} (hs : x ≠ 0 → s = decide (x < 0)) (k up : Nat) : signed s (x.natAbs * 2 ^ k) up = x * 2 ^ (k + up) := by
  unfold signed
  rw [Nat.shiftLeft_eq, Nat.mul_assoc, ← Nat.pow_add]
  by_cases h0 : x = 0
  · subst h0; simp
  · rw [hs h0]
    by_cases h : x < 0
    · simp only [h, decide_true, if_true]
      rw [Int.natCast_mul, Int.natCast_pow]
      rw [show ((x.natAbs : Nat) : Int) = -x by omega, Int.neg_mul, Int.neg_neg]
      rfl
    · simp only [h, decide_false]
      rw [if_neg (by decide), Int.natCast_mul, Int.natCast_pow]
      rw [show ((x.natAbs : Nat) : Int) = x by omega]
      rfl
theorem DV.sum {u : Nat} {d e : Datum} {x y : Int} (h : DV u d x) (h' : DV u e y) : ∃ f, d.sum e = some f ∧ DV u f (x + y) := by
  obtain ⟨s, i, rfl, hs⟩ := h
  obtain ⟨t, j, rfl, ht⟩ := h'
  have hb : min (-((i + u : Nat) : Int)) (-((j + u : Nat) : Int)) = -((max i j + u : Nat) : Int) := by omega
  have e1 : (-((i + u : Nat) : Int) - -((max i j + u : Nat) : Int)).toNat = max i j - i := by omega
  have e2 : (-((j + u : Nat) : Int) - -((max i j + u : Nat) : Int)).toNat = max i j - j := by omega
  have e3 : x * 2 ^ (max i j) + y * 2 ^ (max i j) = (x + y) * 2 ^ (max i j) := by rw [Int.add_mul]
  refine ⟨_, by simp only [Datum.sum, hb, e1, e2, signed_val hs, signed_val ht, show i + (max i j - i) = max i j by omega, show j + (max i j - j) = max i j by omega, e3]; rfl, ?_⟩
  refine ⟨_, max i j, by
    have : ((x + y) * 2 ^ max i j).natAbs = (x + y).natAbs * 2 ^ max i j := by rw [Int.natAbs_mul, Int.natAbs_pow]; rfl
    rw [this], fun h0 => ?_⟩
  have hp : (0 : Int) < 2 ^ max i j := Int.pow_pos (by decide)
  rw [if_neg (by intro h; rcases Int.mul_eq_zero.1 h with h | h <;> omega)]
  rw [decide_eq_decide]
  constructor
  · intro h
    by_cases h' : x + y < 0
    · exact h'
    · have := Int.mul_nonneg (show 0 ≤ x + y by omega) (Int.le_of_lt hp)
      omega
  · intro h
    exact Int.mul_neg_of_neg_of_pos h hp
theorem DV.product {u v : Nat} {d e : Datum} {x y : Int} (h : DV u d x) (h' : DV v e y) : ∃ f, d.product e = some f ∧ DV (u + v) f (x * y) := by
  obtain ⟨s, i, rfl, hs⟩ := h
  obtain ⟨t, j, rfl, ht⟩ := h'
  refine ⟨_, rfl, s ^^ t, i + j, ?_, fun h0 => ?_⟩
  · congr 1
    · rw [Int.natAbs_mul, Nat.pow_add]; simp only [Nat.mul_assoc, Nat.mul_left_comm]
    · omega
  · have hx : x ≠ 0 := fun e => h0 (by rw [e, Int.zero_mul])
    have hy : y ≠ 0 := fun e => h0 (by rw [e, Int.mul_zero])
    rw [hs hx, ht hy]
    rcases Int.lt_or_gt_of_ne hx with h1 | h1 <;> rcases Int.lt_or_gt_of_ne hy with h2 | h2
    · have := Int.mul_pos_of_neg_of_neg h1 h2; simp [h1, h2]; omega
    · have := Int.mul_neg_of_neg_of_pos h1 h2; simp [h1, show ¬ y < 0 by omega, this]
    · have := Int.mul_neg_of_pos_of_neg h1 h2; simp [h2, show ¬ x < 0 by omega, this]
    · have := Int.mul_pos h1 h2; simp [show ¬ x < 0 by omega, show ¬ y < 0 by omega]; omega
theorem DV.order {u : Nat} {d e : Datum} {x y : Int} (h : DV u d x) (h' : DV u e y) : d.order e = some (compare x y) := by
  obtain ⟨s, i, rfl, hs⟩ := h
  obtain ⟨t, j, rfl, ht⟩ := h'
  have hb : min (-((i + u : Nat) : Int)) (-((j + u : Nat) : Int)) = -((max i j + u : Nat) : Int) := by omega
  have e1 : (-((i + u : Nat) : Int) - -((max i j + u : Nat) : Int)).toNat = max i j - i := by omega
  have e2 : (-((j + u : Nat) : Int) - -((max i j + u : Nat) : Int)).toNat = max i j - j := by omega
  simp only [Datum.order, hb, e1, e2, signed_val hs, signed_val ht, show i + (max i j - i) = max i j by omega, show j + (max i j - j) = max i j by omega]
  congr 1
  have hp : (0 : Int) < 2 ^ max i j := Int.pow_pos (by decide)
  rcases Int.lt_trichotomy x y with h | h | h
  · rw [Int.compare_eq_lt.2 h, Int.compare_eq_lt.2 (Int.mul_lt_mul_of_pos_right h hp)]
  · subst h; simp
  · rw [Int.compare_eq_gt.2 h, Int.compare_eq_gt.2 (Int.mul_lt_mul_of_pos_right h hp)]

theorem val_add {u a b : Nat} {x y : Int} (h : Val u a x) (h' : Val u b y) (hu : u ≤ 1) (hb : (x + y).natAbs < 2 ^ 53) : ∃ r, floatBits .add .f64 a b = some r ∧ Val u r (x + y) := by
  obtain ⟨f, h1, h2⟩ := DV.sum h h'
  exact ⟨_, by show (((double.read a).sum (double.read b)).map double.write) = _; rw [h1]; rfl, h2.write hu hb⟩
theorem val_sub {u a b : Nat} {x y : Int} (h : Val u a x) (h' : Val u b y) (hu : u ≤ 1) (hb : (x - y).natAbs < 2 ^ 53) : ∃ r, floatBits .sub .f64 a b = some r ∧ Val u r (x - y) := by
  obtain ⟨f, h1, h2⟩ := DV.sum h h'.opposite
  exact ⟨_, by show (((double.read a).sum (double.read b).opposite).map double.write) = _; rw [h1]; rfl, h2.write hu hb⟩
theorem val_mul {a b : Nat} {x y : Int} (h : Val 0 a x) (h' : Val 0 b y) (hb : (x * y).natAbs < 2 ^ 53) : ∃ r, floatBits .mul .f64 a b = some r ∧ Val 0 r (x * y) := by
  obtain ⟨f, h1, h2⟩ := DV.product h h'
  exact ⟨_, by show (((double.read a).product (double.read b)).map double.write) = _; rw [h1]; rfl, h2.write (by decide) hb⟩
theorem val_order {u a b : Nat} {x y : Int} (h : Val u a x) (h' : Val u b y) : double.order a b = some (compare x y) := DV.order h h'
theorem val_int (n : Int) (hb : n.natAbs < 2 ^ 53) : Val 0 (floatOfInt .f64 n) n := by
  have h : DV 0 (.number (n < 0) n.natAbs 0) n := ⟨_, 0, by simp, fun _ => rfl⟩
  exact h.write (by decide) hb
theorem read_neg (b : Nat) : double.read (Op.negFloat .f64 b) = (double.read b).opposite := by
  have e1 : Op.negFloat .f64 b / 9223372036854775808 = (b / 9223372036854775808) ^^^ 1 := by
    have := Nat.xor_div_two_pow (a := b) (b := 2 ^ 63) (n := 63)
    exact this
  have e2 : Op.negFloat .f64 b % 9223372036854775808 = b % 9223372036854775808 := by
    have h : (b ^^^ 9223372036854775808) % 9223372036854775808 = b % 9223372036854775808 := by
      have := Nat.xor_mod_two_pow (a := b) (b := 2 ^ 63) (n := 63)
      simpa using this
    exact h
  have e3 : ((b / 9223372036854775808 ^^^ 1) % 2 == 1) = !(b / 9223372036854775808 % 2 == 1) := by
    have h := Nat.xor_mod_two_pow (a := b / 9223372036854775808) (b := 1) (n := 1)
    rw [Nat.pow_one] at h
    rw [h]
    rcases Nat.mod_two_eq_zero_or_one (b / 9223372036854775808) with h0 | h0 <;> rw [h0] <;> decide
  unfold Format.read
  rw [weight_double, e1, e2, e3]
  dsimp only
  split
  · rfl
  · split
    · rfl
    · split <;> rfl
theorem val_neg {u b : Nat} {x : Int} (h : Val u b x) : Val u (Op.negFloat .f64 b) (-x) := by
  unfold Val
  rw [read_neg]
  exact DV.opposite h
end Go.Proofs.Ytmamolfbboffhaa
