/- Count. -/
import Derived.Test.YthikjaoffikigaaI
namespace Go.Proofs.Ythikjaoffikigaa
open Go.RowKit

def sn (f : Nat → Nat) : Nat → Nat | 0 => 0 | k + 1 => sn f k + f k
theorem sn_congr {f g : Nat → Nat} {n : Nat} (h : ∀ k, k < n → f k = g k) : sn f n = sn g n := by
  induction n with
  | zero => rfl
  | succ n ih => simp only [sn]; rw [ih (fun k hk => h k (by omega)), h n (by omega)]
theorem sn_head (f : Nat → Nat) (n : Nat) : sn f (n + 1) = f 0 + sn (fun k => f (k + 1)) n := by
  induction n with
  | zero => simp [sn]
  | succ n ih => rw [sn, ih]; simp only [sn]; omega
theorem sn_add (f : Nat → Nat) (a b : Nat) : sn f (a + b) = sn f a + sn (fun k => f (a + k)) b := by
  induction b with
  | zero => rfl
  | succ b ih => rw [← Nat.add_assoc, sn, ih]; simp only [sn]; omega
theorem sn_zero {f : Nat → Nat} {n : Nat} (h : ∀ k, k < n → f k = 0) : sn f n = 0 := by
  induction n with
  | zero => rfl
  | succ n ih => simp only [sn]; rw [ih (fun k hk => h k (by omega)), h n (by omega)]
theorem sn_le {f : Nat → Nat} {n c : Nat} (h : ∀ k, k < n → f k ≤ c) : sn f n ≤ n * c := by
  induction n with
  | zero => simp [sn]
  | succ n ih =>
    have := ih (fun k hk => h k (by omega))
    have := h n (by omega)
    simp only [sn]
    rw [Nat.succ_mul]
    omega
def one (b : Bool) : Nat := if b then 1 else 0
theorem one_le (b : Bool) : one b ≤ 1 := by cases b <;> decide
theorem cb_sn (k x : Nat) : cb k x = sn (fun t => one (x.testBit t)) k := by
  induction k generalizing x with
  | zero => rfl
  | succ k ih =>
    rw [sn_head]
    show x % 2 + cb k (x / 2) = _
    rw [ih (x / 2)]
    congr 1
    · rw [Nat.testBit_zero]
      unfold one
      by_cases h : x % 2 = 1
      · simp [h]
      · simp [show x % 2 = 0 by omega]
    · exact sn_congr fun t _ => by rw [Nat.testBit_succ]
/-- to how many is one related -/
def rowC (n : Nat) (r : Nat → Nat → Bool) (i : Nat) : Nat := sn (fun j => one (r i j)) n
/-- how many pairs -/
def cnt (n : Nat) (r : Nat → Nat → Bool) : Nat := sn (rowC n r) n
/-- the first v words' -/
def partC (n : Nat) (r : Nat → Nat → Bool) (i v : Nat) : Nat := sn (fun j => one (decide (j < n) && r i j)) (64 * v)
theorem partC_next {w : World} {m n : Nat} {L : Lay} {g : Nat → Nat → Nat} {r : Nat → Nat → Bool} {lo hi : Nat} (h : MxL w m n L g r lo hi) {i v : Nat} (hi' : i < n) (hv : v < wd n) : partC n r i (v + 1) = partC n r i v + cb 64 (g i v) := by
  have e : sn (fun k => one (decide (64 * v + k < n) && r i (64 * v + k))) 64 = sn (fun t => one ((g i v).testBit t)) 64 := sn_congr fun t ht => by rw [h.bits i hi' v hv]; simp [ht]
  unfold partC
  rw [show 64 * (v + 1) = 64 * v + 64 by omega, sn_add, cb_sn, e]
theorem partC_zero (n : Nat) (r : Nat → Nat → Bool) (i : Nat) : partC n r i 0 = 0 := rfl
theorem partC_all (n : Nat) (r : Nat → Nat → Bool) (i : Nat) : partC n r i (wd n) = rowC n r i := by
  unfold partC rowC
  obtain ⟨d, hd⟩ : ∃ d, 64 * wd n = n + d := ⟨64 * wd n - n, by unfold wd; omega⟩
  rw [hd, sn_add, sn_zero (f := fun k => one (decide (n + k < n) && r i (n + k))) (fun k _ => by rw [show decide (n + k < n) = false by simp]; rfl)]
  exact sn_congr fun k hk => by simp [hk]
theorem partC_le (n : Nat) (r : Nat → Nat → Bool) (i v : Nat) : partC n r i v ≤ 64 * v := by
  have := sn_le (f := fun j => one (decide (j < n) && r i j)) (n := 64 * v) (c := 1) (fun k _ => one_le _)
  unfold partC; omega
theorem rowC_le (n : Nat) (r : Nat → Nat → Bool) (i : Nat) : rowC n r i ≤ n := by
  have := sn_le (f := fun j => one (r i j)) (n := n) (c := 1) (fun k _ => one_le _)
  unfold rowC; omega
theorem rows_le (n : Nat) (hn : n ≤ 1024) (r : Nat → Nat → Bool) (i : Nat) : sn (rowC n r) i ≤ i * 1024 := sn_le fun k _ => Nat.le_trans (rowC_le n r k) hn

attribute [local irreducible] sn partC rowC cb
set_option maxHeartbeats 600000 in
theorem count_any {w : World} {m n : Nat} {r : Nat → Nat → Bool} {lo hi : Nat} (h : Mx w m n r lo hi) : Calls Try.prog 13 #[.pointer (some ⟨m, 0, none⟩)] w fun e w' => e = .returned (.int .i64 (cnt n r)) ∧ w = w' := by
  have H := Lib.hid h
  obtain ⟨L, g, hL0⟩ := h
  have hmost := hL0.most
  have HL := Lib.hid hL0
  clear hL0
  have hwd : wd n ≤ 16 := by unfold wd; omega
  go_enter Try.func13, Try.ntmps13
  go_wp2_with (go_at_call 21; refine (size_any H.out).mono ?_; rintro e w1 ⟨rfl, rfl⟩)
  go_loopw [3, 9] (fun s i wr => ∃ k : Nat, s = .int .i64 (sn (rowC n r) k : Nat) ∧ i = .int .i64 k ∧ k ≤ n ∧ wr = w) (fun _ i _ => n - (intOf i).toNat)
  case atStart => exact ⟨0, by unfold sn; rfl, rfl, by omega, rfl⟩
  case round =>
    obtain ⟨k, rfl, rfl, hk, rfl⟩ := hrel
    have hle := rows_le n hmost r k
    by_cases hlt : k < n
    · have HS := Lib.hid (show sn (rowC n r) (k + 1) = sn (rowC n r) k + rowC n r k by conv => lhs; unfold sn)
      have hL0 := HL.out
      have hb0 := hL0.head
      have c1 : wr.cell? ⟨m, 1, none⟩ = some (.slice L.ra n L.rc) := hb0.cell 1
      have hgm := hb0.lt
      have hra := hL0.ra (by omega)
      rw [hra] at c1
      have c2 := hL0.rows k hlt
      clear hL0 hb0 hra
      go_wp2
      go_loopw [3, 20] (fun s i wr' => ∃ v : Nat, s = .int .i64 (sn (rowC n r) k + partC n r k v : Nat) ∧ i = .int .i64 v ∧ v ≤ wd n ∧ wr' = wr) (fun _ i _ => wd n - (intOf i).toNat)
      case atStart => exact ⟨0, by rw [partC_zero, Nat.add_zero], rfl, by omega, rfl⟩
      case round =>
        obtain ⟨v, rfl, rfl, hv, rfl⟩ := hrel
        by_cases hlv : v < wd n
        · have c3 := HL.out.words k hlt v hlv
          have x1 := HL.out.low hlt hlv
          have HC := Lib.hid (partC_next HL.out hlt hlv)
          have hpl := partC_le n r k v
          have hcb := cb_le 64 (g k v)
          go_wp2_with (go_at_call 25; refine (ones_any _ x1 _).mono ?_; rintro e w1 ⟨rfl, rfl⟩)
          go_roundw
          case rel => exact ⟨v + 1, by rw [HC.out]; go_num, by go_num, by omega, by first | rfl | trivial⟩
          case measure => simp [intOf]; omega
        · obtain rfl : v = wd n := by omega
          have HP := Lib.hid (partC_all n r k)
          go_wp2
          go_roundw
          case rel => exact ⟨k + 1, by rw [HS.out, HP.out], by go_num, by omega, by first | rfl | trivial⟩
          case measure => simp [intOf]; omega
    · obtain rfl : k = n := by omega
      go_wp2
      go_ret
      exact ⟨rfl, rfl⟩
end Go.Proofs.Ythikjaoffikigaa
