/- Plain: how many bits of a number are set, and what adding them up in parallel gives. -/
import Derived.Test.YthikjaoffikigaaA
namespace Go.Proofs.Ythikjaoffikigaa

/-- how many of the lowest n bits are set -/
def cb : Nat → Nat → Nat
  | 0, _ => 0
  | n + 1, x => x % 2 + cb n (x / 2)

theorem cb_add (n m x : Nat) : cb (n + m) x = cb n x + cb m (x / 2 ^ n) := by
  induction n generalizing x with
  | zero => simp [cb]
  | succ n ih =>
    rw [show n + 1 + m = (n + m) + 1 by omega]
    simp only [cb]
    rw [ih, Nat.div_div_eq_div_mul, ← Nat.pow_succ', Nat.add_assoc]
theorem cb_low (n x y : Nat) : cb n (x + 2 ^ n * y) = cb n x := by
  induction n generalizing x y with
  | zero => rfl
  | succ n ih =>
    simp only [cb]
    have h1 : (x + 2 ^ (n + 1) * y) % 2 = x % 2 := by
      rw [Nat.pow_succ', Nat.mul_assoc]; omega
    have h2 : (x + 2 ^ (n + 1) * y) / 2 = x / 2 + 2 ^ n * y := by
      rw [Nat.pow_succ', Nat.mul_assoc]; omega
    rw [h1, h2, ih]
theorem cb_le (n x : Nat) : cb n x ≤ n := by
  induction n generalizing x with
  | zero => simp [cb]
  | succ n ih => simp only [cb]; have := ih (x / 2); omega
theorem cb_byte (k a b : Nat) (ha : a < 256) : cb (8 + k) (a + 256 * b) = cb 8 a + cb k b := by
  rw [cb_add]
  have h1 := cb_low 8 a b
  have h2 : (a + 256 * b) / 2 ^ 8 = b := by omega
  rw [h2]
  rw [show (2 : Nat) ^ 8 = 256 by decide] at h1
  rw [h1]

/-- a byte k times -/
def rep (c : Nat) : Nat → Nat
  | 0 => 0
  | k + 1 => c + 256 * rep c k

theorem and_split {a b c m : Nat} (ha : a < 256) (hc : c < 256) : (a + 256 * b) &&& (c + 256 * m) = (a &&& c) + 256 * (b &&& m) := by
  have h1 : ((a + 256 * b) &&& (c + 256 * m)) % 2 ^ 8 = a &&& c := by
    rw [Nat.and_mod_two_pow]
    rw [show (a + 256 * b) % 2 ^ 8 = a by omega, show (c + 256 * m) % 2 ^ 8 = c by omega]
  have h2 : ((a + 256 * b) &&& (c + 256 * m)) / 2 ^ 8 = b &&& m := by
    rw [Nat.and_div_two_pow]
    rw [show (a + 256 * b) / 2 ^ 8 = b by omega, show (c + 256 * m) / 2 ^ 8 = m by omega]
  have h3 := Nat.div_add_mod ((a + 256 * b) &&& (c + 256 * m)) (2 ^ 8)
  rw [h1, h2] at h3
  rw [show (2 : Nat) ^ 8 = 256 by decide] at h3
  omega

def s1 (m x : Nat) : Nat := (x / 2 &&& m) + (x &&& m)
def s2 (m x : Nat) : Nat := (x / 4 &&& m) + (x &&& m)
def s3 (m x : Nat) : Nat := (x / 16 + x) &&& m

set_option maxRecDepth 100000 in
theorem tab1 : ∀ a, a < 128 → ∀ b, b < 2 → (a + 128 * b) &&& 85 = a &&& 85 := by decide
set_option maxRecDepth 100000 in
theorem tab2 : ∀ a, a < 64 → ∀ b, b < 4 → (a + 64 * b) &&& 51 = a &&& 51 := by decide
set_option maxRecDepth 100000 in
theorem tab3 : ∀ a, a < 256 → s3 15 (s2 51 (s1 85 a)) = cb 8 a := by decide
set_option maxRecDepth 100000 in
theorem tab4 : ∀ a, a < 256 → s1 85 a < 256 := by decide
set_option maxRecDepth 100000 in
theorem tab5 : ∀ a, a < 256 → (a / 4 &&& 51) + (a &&& 51) < 103 := by decide
set_option maxRecDepth 100000 in
theorem tab6 : ∀ a, a < 103 → ∀ b, b < 6 → (a / 16 + a + 16 * b) % 256 &&& 15 = (a / 16 + a) &&& 15 := by decide

theorem s1_split {a b m : Nat} (ha : a < 256) : s1 (85 + 256 * m) (a + 256 * b) = s1 85 a + 256 * s1 m b := by
  unfold s1
  have e1 : (a + 256 * b) / 2 = (a / 2 + 128 * (b % 2)) + 256 * (b / 2) := by omega
  rw [e1, and_split (by omega) (by omega), and_split ha (by omega), tab1 (a / 2) (by omega) (b % 2) (by omega)]
  omega
theorem s2_split {a b m : Nat} (ha : a < 256) : s2 (51 + 256 * m) (a + 256 * b) = s2 51 a + 256 * s2 m b := by
  unfold s2
  have e1 : (a + 256 * b) / 4 = (a / 4 + 64 * (b % 4)) + 256 * (b / 4) := by omega
  rw [e1, and_split (by omega) (by omega), and_split ha (by omega), tab2 (a / 4) (by omega) (b % 4) (by omega)]
  omega
theorem s3_split {a b m : Nat} (ha : a < 103) (hb : b % 16 < 6) : s3 (15 + 256 * m) (a + 256 * b) = s3 15 a + 256 * s3 m b := by
  unfold s3
  have e1 : (a + 256 * b) / 16 + (a + 256 * b) = (a / 16 + a + 16 * (b % 16)) + 256 * (b / 16 + b) := by omega
  have h : a / 16 + a + 16 * (b % 16) < 256 := by omega
  rw [e1, and_split h (by omega)]
  have := tab6 a ha (b % 16) hb
  rw [Nat.mod_eq_of_lt h] at this
  rw [this]
set_option maxRecDepth 100000 in
theorem tab7 : ∀ a, a < 256 → s2 51 (s1 85 a) % 16 < 6 ∧ s2 51 (s1 85 a) < 103 := by decide
def y2 (k x : Nat) : Nat := s2 (rep 51 k) (s1 (rep 85 k) x)
def y3 (k x : Nat) : Nat := s3 (rep 15 k) (y2 k x)
theorem y2_zero (x : Nat) : y2 0 x = 0 := by simp [y2, s2, s1, rep]
theorem y2_succ (k : Nat) {a b : Nat} (ha : a < 256) : y2 (k + 1) (a + 256 * b) = s2 51 (s1 85 a) + 256 * y2 k b := by
  unfold y2
  show s2 (51 + 256 * rep 51 k) (s1 (85 + 256 * rep 85 k) (a + 256 * b)) = _
  rw [s1_split ha, s2_split (tab4 a ha)]
theorem y2_low (k x : Nat) : y2 k x % 16 < 6 := by
  cases k with
  | zero => rw [y2_zero]; decide
  | succ k =>
    have e : x = x % 256 + 256 * (x / 256) := by omega
    rw [e, y2_succ k (by omega)]
    have := (tab7 (x % 256) (by omega)).1
    omega
theorem y3_zero (x : Nat) : y3 0 x = 0 := by simp [y3, s3, rep]
theorem y3_succ (k : Nat) {a b : Nat} (ha : a < 256) : y3 (k + 1) (a + 256 * b) = cb 8 a + 256 * y3 k b := by
  unfold y3
  rw [y2_succ k ha]
  show s3 (15 + 256 * rep 15 k) _ = _
  rw [s3_split (tab7 a ha).2 (y2_low k b), tab3 a ha]

/-- the count of the document's own number of bits: by adding up in parallel -/
theorem pop (x : Nat) (hx : x < 18446744073709551616) : ∃ z, y3 8 x = z ∧ z + z / 256 < 18446744073709551616 ∧ (z + z / 256) + (z + z / 256) / 65536 < 18446744073709551616 ∧
    ((z + z / 256) + (z + z / 256) / 65536) + ((z + z / 256) + (z + z / 256) / 65536) / 4294967296 < 18446744073709551616 ∧
    (((z + z / 256) + (z + z / 256) / 65536) + ((z + z / 256) + (z + z / 256) / 65536) / 4294967296) % 128 = cb 64 x := by
  have d : ∀ t : Nat, t = t % 256 + 256 * (t / 256) := fun t => by omega
  have m : ∀ t : Nat, t % 256 < 256 := fun t => by omega
  have c : ∀ k t, y3 (k + 1) t = cb 8 (t % 256) + 256 * y3 k (t / 256) := fun k t => by
    have := y3_succ k (b := t / 256) (m t)
    rw [← d t] at this
    exact this
  have e : ∀ k t, cb (8 + k) t = cb 8 (t % 256) + cb k (t / 256) := fun k t => by
    have := cb_byte k (t % 256) (t / 256) (m t)
    rw [← d t] at this
    exact this
  refine ⟨_, rfl, ?_⟩
  have e64 := e 56 x
  rw [e 48, e 40, e 32, e 24, e 16, e 8, e 0 (x / 256 / 256 / 256 / 256 / 256 / 256 / 256)] at e64
  have z8 := c 7 x
  rw [c 6, c 5, c 4, c 3, c 2, c 1, c 0, y3_zero] at z8
  have cz : ∀ t, cb 0 t = 0 := fun t => rfl
  rw [cz] at e64
  rw [e64, z8]
  have l0 := cb_le 8 (x % 256)
  generalize cb 8 (x % 256) = p0 at *
  have l1 := cb_le 8 (x / 256 % 256)
  generalize cb 8 (x / 256 % 256) = p1 at *
  have l2 := cb_le 8 (x / 256 / 256 % 256)
  generalize cb 8 (x / 256 / 256 % 256) = p2 at *
  have l3 := cb_le 8 (x / 256 / 256 / 256 % 256)
  generalize cb 8 (x / 256 / 256 / 256 % 256) = p3 at *
  have l4 := cb_le 8 (x / 256 / 256 / 256 / 256 % 256)
  generalize cb 8 (x / 256 / 256 / 256 / 256 % 256) = p4 at *
  have l5 := cb_le 8 (x / 256 / 256 / 256 / 256 / 256 % 256)
  generalize cb 8 (x / 256 / 256 / 256 / 256 / 256 % 256) = p5 at *
  have l6 := cb_le 8 (x / 256 / 256 / 256 / 256 / 256 / 256 % 256)
  generalize cb 8 (x / 256 / 256 / 256 / 256 / 256 / 256 % 256) = p6 at *
  have l7 := cb_le 8 (x / 256 / 256 / 256 / 256 / 256 / 256 / 256 % 256)
  generalize cb 8 (x / 256 / 256 / 256 / 256 / 256 / 256 / 256 % 256) = p7 at *
  clear e64 z8 c e d m cz hx
  rw [show (65536 : Nat) = 256 * 256 by decide, show (4294967296 : Nat) = 256 * 256 * (256 * 256) by decide]
  simp only [← Nat.div_div_eq_div_mul]
  have dv : ∀ p Q : Nat, p < 256 → (p + 256 * Q) / 256 = Q := fun p Q h => by omega
  have hz : (p0 + 256 * (p1 + 256 * (p2 + 256 * (p3 + 256 * (p4 + 256 * (p5 + 256 * (p6 + 256 * (p7 + 256 * 0)))))))) / 256 = p1 + 256 * (p2 + 256 * (p3 + 256 * (p4 + 256 * (p5 + 256 * (p6 + 256 * (p7 + 256 * 0)))))) := dv _ _ (by omega)
  rw [hz]
  have h4 : p0 + 256 * (p1 + 256 * (p2 + 256 * (p3 + 256 * (p4 + 256 * (p5 + 256 * (p6 + 256 * (p7 + 256 * 0))))))) + (p1 + 256 * (p2 + 256 * (p3 + 256 * (p4 + 256 * (p5 + 256 * (p6 + 256 * (p7 + 256 * 0))))))) =
    (p0 + p1) + 256 * ((p1 + p2) + 256 * ((p2 + p3) + 256 * ((p3 + p4) + 256 * ((p4 + p5) + 256 * ((p5 + p6) + 256 * ((p6 + p7) + 256 * p7)))))) := by omega
  rw [h4, dv _ _ (by omega), dv _ _ (by omega)]
  have h6 : ((p0 + p1) + 256 * ((p1 + p2) + 256 * ((p2 + p3) + 256 * ((p3 + p4) + 256 * ((p4 + p5) + 256 * ((p5 + p6) + 256 * ((p6 + p7) + 256 * p7))))))) + ((p2 + p3) + 256 * ((p3 + p4) + 256 * ((p4 + p5) + 256 * ((p5 + p6) + 256 * ((p6 + p7) + 256 * p7))))) =
    (p0 + p1 + p2 + p3) + 256 * ((p1 + p2 + p3 + p4) + 256 * ((p2 + p3 + p4 + p5) + 256 * ((p3 + p4 + p5 + p6) + 256 * ((p4 + p5 + p6 + p7) + 256 * ((p5 + p6 + p7) + 256 * ((p6 + p7) + 256 * p7)))))) := by omega
  rw [h6, dv _ _ (by omega), dv _ _ (by omega), dv _ _ (by omega), dv _ _ (by omega)]
  clear h6 h4 hz dv
  refine ⟨by omega, by omega, by omega, by omega⟩
end Go.Proofs.Ythikjaoffikigaa
