/- Close. -/
import Derived.Test.YthikjaoffikigaaH
namespace Go.Proofs.Ythikjaoffikigaa
open Go.RowKit

/-- row a has got the first v words of row k -/
def rowV (r : Nat → Nat → Bool) (a k v : Nat) : Nat → Nat → Bool := fun i j => r i j || (decide (i = a) && decide (j < 64 * v) && r k j)
/-- the rows ahead of a have got row k -/
def colV (r : Nat → Nat → Bool) (k a : Nat) : Nat → Nat → Bool := fun i j => r i j || (decide (i < a) && r i k && r k j)
/-- .. and all, number by number -/
def war (n : Nat) (r : Nat → Nat → Bool) : Nat → Nat → Nat → Bool | 0 => r | k + 1 => colV (war n r k) k n
theorem rowV_zero (r : Nat → Nat → Bool) (a k : Nat) : rowV r a k 0 = r := by funext i j; simp [rowV]
theorem colV_zero (r : Nat → Nat → Bool) (k : Nat) : colV r k 0 = r := by funext i j; simp [colV]
theorem colV_skip {r : Nat → Nat → Bool} {k a : Nat} (h : r a k = false) : colV r k (a + 1) = colV r k a := by
  funext i j
  unfold colV
  by_cases e : i = a
  · subst e; simp [h]
  · have : decide (i < a + 1) = decide (i < a) := by rw [decide_eq_decide]; omega
    rw [this]
theorem colV_self (r : Nat → Nat → Bool) (k a j : Nat) : colV r k a a j = r a j := by simp [colV]
theorem colV_k (r : Nat → Nat → Bool) (k a j : Nat) : colV r k a k j = r k j := by
  unfold colV
  cases r k j <;> simp
theorem colV_row {r : Nat → Nat → Bool} {k a : Nat} (h : r a k = true) (v i j : Nat) (hj : j < 64 * v) : rowV (colV r k a) a k v i j = colV r k (a + 1) i j := by
  unfold rowV
  rw [colV_k]
  unfold colV
  by_cases e : i = a
  · subst e; simp [hj, h]
  · have : decide (i < a + 1) = decide (i < a) := by rw [decide_eq_decide]; omega
    rw [this]
    simp [e]
theorem rowV_k (r : Nat → Nat → Bool) (a k v j : Nat) (h : 64 * v ≤ j) : rowV r a k v k j = r k j := by
  unfold rowV
  rw [show decide (j < 64 * v) = false by simp; omega]
  simp
theorem rowV_a (r : Nat → Nat → Bool) (a k v j : Nat) (h : 64 * v ≤ j) : rowV r a k v a j = r a j := by
  unfold rowV
  rw [show decide (j < 64 * v) = false by simp; omega]
  simp
theorem rowV_next (r : Nat → Nat → Bool) (a k v i j : Nat) (h : i ≠ a ∨ j / 64 ≠ v) : rowV r a k (v + 1) i j = rowV r a k v i j := by
  unfold rowV
  by_cases e : i = a
  · have hv : j / 64 ≠ v := by rcases h with h | h; exact absurd e h; exact h
    have : decide (j < 64 * (v + 1)) = decide (j < 64 * v) := by rw [decide_eq_decide]; omega
    rw [this]
  · simp [e]
theorem rowV_new (r : Nat → Nat → Bool) (a k v t : Nat) (ht : t < 64) : rowV r a k (v + 1) a (64 * v + t) = (r a (64 * v + t) || r k (64 * v + t)) := by
  unfold rowV
  rw [show decide (64 * v + t < 64 * (v + 1)) = true by simp; omega]
  simp
theorem MxL.congr {w : World} {m n : Nat} {L : Lay} {g : Nat → Nat → Nat} {r r' : Nat → Nat → Bool} {lo hi : Nat} (h : MxL w m n L g r lo hi) (e : ∀ i k, i < n → k < n → r i k = r' i k) : MxL w m n L g r' lo hi := by
  refine { h with bits := ?_ }
  intro i hi' v hv b
  rw [h.bits i hi' v hv b]
  by_cases hb : b < 64
  · by_cases hk : 64 * v + b < n
    · rw [e i _ hi' hk]
    · simp [hk]
  · simp [hb]

def Closed (m n : Nat) (r : Nat → Nat → Bool) (lo hi : Nat) (w : World) (e : Ending) (w' : World) : Prop := e = .returned (.tuple #[]) ∧ Mx w' m n (war n r n) lo hi ∧ Fr (In lo hi) w w'
attribute [local irreducible] war colV rowV
set_option maxHeartbeats 600000 in
theorem close_any {w : World} {m n : Nat} {r : Nat → Nat → Bool} {lo hi : Nat} (h : Mx w m n r lo hi) : Calls Try.prog 11 #[.pointer (some ⟨m, 0, none⟩)] w (Closed m n r lo hi w) := by
  have H := Lib.hid h
  have hmost := h.head.1
  have HW0 := Lib.hid (show war n r 0 = r by unfold war; rfl)
  clear h
  go_enter Try.func11, Try.ntmps11
  go_wp2_with (go_at_call 21; refine (size_any H.out).mono ?_; rintro e w1 ⟨rfl, rfl⟩)
  go_loopw [8] (fun i wr => ∃ k : Nat, i = .int .i64 k ∧ k ≤ n ∧ Hid (Mx wr m n (war n r k) lo hi) ∧ Fr (In lo hi) w wr) (fun i _ => n - (intOf i).toNat)
  case atStart => exact ⟨0, rfl, by omega, Lib.hid (by rw [HW0.out]; exact H.out), Fr.refl _ _⟩
  case round =>
    obtain ⟨k, rfl, hk, hM, hf⟩ := hrel
    by_cases hlt : k < n
    · have HWS := Lib.hid (show war n r (k + 1) = colV (war n r k) k n by conv => lhs; unfold war)
      generalize hR : war n r k = R at *
      have HR := Lib.hid hR
      clear hR
      obtain ⟨hm1, RV, hbm⟩ := hM.out.head
      have c0 : wr.cell? ⟨m, 0, none⟩ = some (.int .i64 n) := hbm.cell 0
      have hgm := hbm.lt
      clear hbm
      go_wp2
      go_loopw [15] (fun i wr => ∃ a : Nat, i = .int .i64 a ∧ a ≤ n ∧ Hid (Mx wr m n (colV R k a) lo hi) ∧ Fr (In lo hi) w wr) (fun i _ => n - (intOf i).toNat)
      case atStart => exact ⟨0, rfl, by omega, Lib.hid (by rw [colV_zero]; exact hM.out), hf⟩
      case round =>
        clear hM hf c0 hgm
        obtain ⟨a, rfl, ha, hM, hf⟩ := hrel
        by_cases hla : a < n
        · have hhas : hasB n (colV R k a) (a : Int) (k : Int) = R a k := by
            unfold hasB
            have h1 : inn n a = true := by unfold inn; simp; omega
            have h2 : inn n k = true := by unfold inn; simp; omega
            rw [h1, h2, Int.toNat_natCast, Int.toNat_natCast, colV_self]; rfl
          cases hRa : R a k
          · rw [hRa] at hhas
            have HS := Lib.hid (colV_skip hRa)
            clear hRa
            have HH := Lib.hid hhas
            clear hhas
            go_wp2_with (go_at_call 12; refine (has_any hM.out _ _).mono ?_; rintro e w1 ⟨rfl, rfl⟩; rw [HH.out])
            go_roundw
            case rel => exact ⟨a + 1, by go_num, by omega, Lib.hid (by rw [HS.out]; exact hM.out), hf⟩
            case measure => simp [intOf]; omega
          · rw [hRa] at hhas
            have HS := Lib.hid hRa
            clear hRa
            have HH := Lib.hid hhas
            clear hhas
            obtain ⟨L, g, hL0⟩ := hM.out
            have hmost' := hL0.most
            have hb0 := hL0.head
            have c1 : wr.cell? ⟨m, 1, none⟩ = some (.slice L.ra n L.rc) := hb0.cell 1
            have hgm := hb0.lt
            have hra := hL0.ra (by omega)
            rw [hra] at c1
            have c2 := hL0.rows k hlt
            have HL := Lib.hid hL0
            clear hL0 hb0 hra
            go_wp2_with (go_at_call 12; refine (has_any hM.out _ _).mono ?_; rintro e w1 ⟨rfl, rfl⟩; rw [HH.out])
            go_loopw [31] (fun i wr => ∃ (v : Nat) (g : Nat → Nat → Nat), i = .int .i64 v ∧ v ≤ wd n ∧ Hid (MxL wr m n L g (rowV (colV R k a) a k v) lo hi) ∧ Fr (In lo hi) w wr) (fun i _ => wd n - (intOf i).toNat)
            case atStart => exact ⟨0, g, rfl, by omega, Lib.hid (by rw [rowV_zero]; exact HL.out), hf⟩
            case round =>
              clear hM hf c1 c2 hgm
              obtain ⟨v, g, rfl, hv, hM, hf⟩ := hrel
              have hwd : wd n ≤ 16 := by unfold wd; omega
              by_cases hlv : v < wd n
              · have hL0 := hM.out
                have hb0 := hL0.head
                have c1 : wr.cell? ⟨m, 1, none⟩ = some (.slice L.ra n L.rc) := hb0.cell 1
                have hgm := hb0.lt
                have hra := hL0.ra (by omega)
                rw [hra] at c1
                have c2 := hL0.rows a hla
                have c3 := hL0.words k hlt v hlv
                have c4 := hL0.words a hla v hlv
                have x1 := hL0.low hlt hlv
                have x2 := hL0.low hla hlv
                obtain ⟨cb, hcb⟩ := hL0.tyB a hla
                have z4 := hcb.frozen (L.o a + v)
                have hgb := hcb.lt
                have hor := u64_or_nat (g a v) (g k v) x2 x1
                have i1 : (0 : Int) ≤ (v : Int) ∧ (v : Int) < (wd n : Nat) := by omega
                have i2 : (0 : Int) ≤ (a : Int) ∧ (a : Int) < (n : Nat) := by omega
                clear hL0 hb0 hra hcb
                go_wp2
                go_roundw
                case rel =>
                  refine ⟨v + 1, upd g a v (g a v ||| g k v), by go_num, by omega, Lib.hid ?_, hf.setCell (p := ⟨L.b a, L.o a + v, none⟩) (fun _ => hM.out.inB a hla) _⟩
                  refine hM.out.put hla hlv ?_ ?_
                  · intro t
                    rw [Nat.testBit_or, hM.out.bits a hla v hlv, hM.out.bits k hlt v hlv]
                    by_cases ht : t < 64
                    · rw [rowV_new _ _ _ _ _ ht, rowV_a _ _ _ _ _ (by omega), rowV_k _ _ _ _ _ (by omega)]
                      simp only [ht, decide_true, Bool.true_and]
                      cases decide (64 * v + t < n) <;> simp
                    · simp [ht]
                  · intro i j _ _ hij
                    exact rowV_next _ _ _ _ _ _ hij
                case measure => simp [intOf]; omega
              · obtain rfl : v = wd n := by omega
                go_wp2
                go_roundw
                case rel => exact ⟨a + 1, by go_num, by omega, Lib.hid ⟨L, g, hM.out.congr fun i j _ hj => colV_row HS.out _ _ _ (by unfold wd; omega)⟩, hf⟩
                case measure => simp [intOf]; omega
        · obtain rfl : a = n := by omega
          go_wp2
          go_roundw
          case rel => exact ⟨k + 1, by go_num, by omega, Lib.hid (by rw [HWS.out]; exact hM.out), hf⟩
          case measure => simp [intOf]; omega
    · obtain rfl : k = n := by omega
      go_wp2
      go_end0
      exact ⟨rfl, hM.out, hf⟩
end Go.Proofs.Ythikjaoffikigaa
