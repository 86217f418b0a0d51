/- The document's from: which numbers are reached from one. -/
import Derived.Test.YthikjaoffikigaaU
import Derived.Test.YthikjaoffikigaaV
namespace Go.Proofs.Ythikjaoffikigaa
open Go.RowKit

/-- so many truths, as they lie -/
def tr (n : Nat) (f : Nat → Bool) : Array Value := Array.ofFn (n := n) fun k => .bool (f k)
theorem tr_get {n k : Nat} {f : Nat → Bool} (h : k < n) : (tr n f)[k]? = some (.bool (f k)) := by simp [tr, h]
theorem tr_congr {n : Nat} {f g : Nat → Bool} (h : ∀ k, k < n → f k = g k) : tr n f = tr n g := by
  unfold tr; congr 1; funext k; rw [h k k.2]
theorem tr_set {n k : Nat} {f g : Nat → Bool} {b : Bool} (h : k < n) (hk : g k = b) (ho : ∀ x, x < n → x ≠ k → g x = f x) : (tr n f).setIfInBounds k (.bool b) = tr n g := by
  apply Array.ext
  · simp [tr]
  · intro i h1 h2
    have hi : i < n := by simpa [tr] using h2
    rw [Array.getElem_setIfInBounds (by simpa [tr] using hi)]
    by_cases e : k = i
    · subst e; simp [tr, hk]
    · simp [tr, e, ho i hi (fun h => e h.symm)]
theorem made_tr (n : Nat) : madeCells #[Value.bool false] n = tr n fun _ => false := by
  apply Array.ext
  · simp [madeCells, tr]
  · intro i h1 h2
    simp [madeCells, tr, Nat.mod_one]
def Fromed (n : Nat) (f : Nat → Bool) (w : World) (e : Ending) (w' : World) : Prop := e = .returned (.slice (some ⟨w.heap.size, 0, none⟩) n n) ∧ Blk w' w.heap.size 4 (tr n f) ∧ Fr No w w'
theorem rn_zero (r : Nat → Nat → Bool) (n : Nat) (o : Nat → Bool) : rn r n o 0 = o := rfl
theorem rn_succ (r : Nat → Nat → Bool) (n : Nat) (o : Nat → Bool) (t : Nat) : rn r n o (t + 1) = sw r n (rn r n o t) n := rfl
theorem sw_zero (r : Nat → Nat → Bool) (n : Nat) (o : Nat → Bool) : sw r n o 0 = o := rfl
theorem sw_no {r : Nat → Nat → Bool} {n j : Nat} {o : Nat → Bool} (h : sw r n o j j = false) : sw r n o (j + 1) = sw r n o j := by
  show (if sw r n o j j then _ else _) = _; rw [h]; rfl
theorem sw_yes {r : Nat → Nat → Bool} {n j : Nat} {o : Nat → Bool} (h : sw r n o j j = true) : sw r n o (j + 1) = fun x => sw r n o j x || (decide (x < n) && r j x) := by
  show (if sw r n o j j then _ else _) = _; rw [h]; rfl
attribute [local irreducible] tr rn sw madeCells
set_option maxRecDepth 100000 in
set_option maxHeartbeats 600000 in
theorem from_any {w : World} {m n : Nat} {r : Nat → Nat → Bool} {lo hi : Nat} (h : Rx w m n r lo hi) {i : Nat} (hi' : i < n) : Calls Try.prog 32 #[.pointer (some ⟨m, 0, none⟩), .int .i64 i] w (Fromed n (rn r n (from0 n r i) n) w) := by
  obtain ⟨L, hL⟩ := h
  have hmost := hL.most
  have hmk := make_truths n hmost
  have C := Lib.hid (fun (w' : World) (hf : Fr No w w') => hL.fr hf (fun _ _ h => h))
  have hra := Lib.hid (hL.ra (by omega))
  have c1 : w.cell? ⟨m, 0, none⟩ = some (.slice L.ra n L.rc) := hL.head.cell 0
  have hg := hL.head.lt
  rw [hra.out] at c1
  have HT := Lib.hid (made_tr n)
  have HF := Lib.hid (fun (k x : Nat) (_ : x ≠ k) => show (decide (x < k + 1) && r i x) = (decide (x < k) && r i x) by rw [show decide (x < k + 1) = decide (x < k) by rw [decide_eq_decide]; omega])
  clear hL
  go_enter Try.func32, Try.ntmps32
  go_wp2
  go_loopw [21] (fun k' wr => ∃ k : Nat, k' = .int .i64 k ∧ k ≤ n ∧ Blk wr w.heap.size 4 (tr n fun x => decide (x < k) && r i x) ∧ Fr No w wr) (fun k' _ => n - (intOf k').toNat)
  case atStart => exact ⟨0, rfl, by omega, by rw [show (fun x => decide (x < 0) && r i x) = fun _ => false by funext x; simp, ← HT.out]; exact Blk.new w 4 _, (Fr.refl No w).alloc _⟩
  case round =>
    clear c1 hg
    obtain ⟨k, rfl, hk, hb, hf⟩ := hrel
    have hR := C.out wr hf
    have c1 : wr.cell? ⟨m, 0, none⟩ = some (.slice L.ra n L.rc) := hR.head.cell 0
    have hg := hR.head.lt
    rw [hra.out] at c1
    by_cases hlt : k < n
    · have c2 := hR.rows i hi'
      have c3 := hR.words i hi' k hlt
      have p0 := (hb.cell k).trans (tr_get hlt)
      have z0 := hb.frozen k
      have hgb := hb.lt
      have i1 : (0 : Int) ≤ (k : Int) ∧ (k : Int) < (n : Nat) := by omega
      have i2 : (0 : Int) ≤ (i : Int) ∧ (i : Int) < (n : Nat) := by omega
      have HB := Lib.hid hb
      have HS := Lib.hid (tr_set (n := n) (k := k) (f := fun x => decide (x < k) && r i x) (g := fun x => decide (x < k + 1) && r i x) (b := r i k) hlt (by simp) (fun x _ hx => HF.out k x hx))
      clear hb hR
      go_wp2
      go_roundw
      case rel => exact ⟨k + 1, by go_num, by omega, by rw [← HS.out]; exact HB.out.set_ k _, hf.setNew (Nat.le_refl _) k _⟩
      case measure => simp [intOf]; omega
    · obtain rfl : k = n := by omega
      have HB := Lib.hid (show Blk wr w.heap.size 4 (tr k (from0 k r i)) from hb)
      clear hb hR HF
      generalize from0 k r i = o0 at *
      go_wp2
      clear hlt hk c1 hg
      go_loopw [7] (fun t' wr => ∃ t : Nat, t' = .int .i64 t ∧ t ≤ k ∧ Hid (Blk wr w.heap.size 4 (tr k (rn r k o0 t))) ∧ Fr No w wr) (fun t' _ => k - (intOf t').toNat)
      case atStart => exact ⟨0, rfl, by omega, Lib.hid (by rw [rn_zero]; exact HB.out), hf⟩
      case round =>
        clear HB hf
        obtain ⟨t, rfl, ht, hB, hf⟩ := hrel
        have hR := C.out wr hf
        have c1 : wr.cell? ⟨m, 0, none⟩ = some (.slice L.ra k L.rc) := hR.head.cell 0
        have hg := hR.head.lt
        rw [hra.out] at c1
        clear hR
        by_cases hlt : t < k
        · have HRS := Lib.hid (rn_succ r k o0 t)
          generalize rn r k o0 t = o at *
          go_wp2
          clear c1 hg
          go_loopw [52] (fun j' wr => ∃ j : Nat, j' = .int .i64 j ∧ j ≤ k ∧ Hid (Blk wr w.heap.size 4 (tr k (sw r k o j))) ∧ Fr No w wr) (fun j' _ => k - (intOf j').toNat)
          case atStart => exact ⟨0, rfl, by omega, Lib.hid (by rw [sw_zero]; exact hB.out), hf⟩
          case round =>
            clear hB hf
            obtain ⟨j, rfl, hj, hB, hf⟩ := hrel
            by_cases hlj : j < k
            · have p0 := (hB.out.cell j).trans (tr_get hlj)
              have hgb := hB.out.lt
              have i1 : (0 : Int) ≤ (j : Int) ∧ (j : Int) < (k : Nat) := by omega
              cases hs : sw r k o j j
              · rw [hs] at p0
                have HS := Lib.hid (sw_no hs)
                clear hs
                go_wp2
                go_roundw
                case rel => exact ⟨j + 1, by go_num, by omega, Lib.hid (by rw [HS.out]; exact hB.out), hf⟩
                case measure => simp [intOf]; omega
              · rw [hs] at p0
                have HS := Lib.hid (sw_yes hs)
                clear hs
                generalize sw r k o j = s at *
                have hR := C.out wr hf
                have c1 : wr.cell? ⟨m, 0, none⟩ = some (.slice L.ra k L.rc) := hR.head.cell 0
                have hg := hR.head.lt
                rw [hra.out] at c1
                clear hR
                go_wp2
                clear c1 hg p0 hgb
                go_loopw [65] (fun x' wr => ∃ x : Nat, x' = .int .i64 x ∧ x ≤ k ∧ Hid (Blk wr w.heap.size 4 (tr k fun y => s y || (decide (y < x) && r j y))) ∧ Fr No w wr) (fun x' _ => k - (intOf x').toNat)
                case atStart => exact ⟨0, rfl, by omega, Lib.hid (by rw [show (fun y => s y || (decide (y < 0) && r j y)) = s by funext y; simp]; exact hB.out), hf⟩
                case round =>
                  clear hB hf
                  obtain ⟨x, rfl, hx, hB, hf⟩ := hrel
                  by_cases hlx : x < k
                  · have hR := C.out wr hf
                    have c1 : wr.cell? ⟨m, 0, none⟩ = some (.slice L.ra k L.rc) := hR.head.cell 0
                    have hg := hR.head.lt
                    rw [hra.out] at c1
                    have c2 := hR.rows j hlj
                    have c3 := hR.words j hlj x hlx
                    have p0 := (hB.out.cell x).trans (tr_get hlx)
                    rw [show (s x || (decide (x < x) && r j x)) = s x by simp] at p0
                    have z0 := hB.out.frozen x
                    have hgb := hB.out.lt
                    have i2 : (0 : Int) ≤ (x : Int) ∧ (x : Int) < (k : Nat) := by omega
                    have HS2 := Lib.hid (tr_set (n := k) (k := x) (f := fun y => s y || (decide (y < x) && r j y)) (g := fun y => s y || (decide (y < x + 1) && r j y)) (b := s x || r j x) hlx (by simp) (fun y _ hy => by rw [show decide (y < x + 1) = decide (y < x) by rw [decide_eq_decide]; omega]))
                    clear hR
                    cases hsx : s x
                    · rw [hsx] at p0 HS2
                      clear hsx
                      go_wp2
                      go_roundw
                      case rel => exact ⟨x + 1, by go_num, by omega, Lib.hid (by rw [← HS2.out]; exact hB.out.set_ x _), hf.setNew (Nat.le_refl _) x _⟩
                      case measure => simp [intOf]; omega
                    · rw [hsx] at p0 HS2
                      clear hsx
                      go_wp2
                      go_roundw
                      case rel => exact ⟨x + 1, by go_num, by omega, Lib.hid (by rw [← HS2.out]; exact hB.out.set_ x _), hf.setNew (Nat.le_refl _) x _⟩
                      case measure => simp [intOf]; omega
                  · obtain rfl : x = k := by omega
                    go_wp2
                    go_roundw
                    case rel => exact ⟨j + 1, by go_num, by omega, Lib.hid (by rw [HS.out]; exact hB.out), hf⟩
                    case measure => simp [intOf]; omega
            · obtain rfl : j = k := by omega
              go_wp2
              go_roundw
              case rel => exact ⟨t + 1, by go_num, by omega, Lib.hid (by rw [HRS.out]; exact hB.out), hf⟩
              case measure => simp [intOf]; omega
        · obtain rfl : t = k := by omega
          go_wp2
          go_ret
          exact ⟨rfl, hB.out, hf⟩
end Go.Proofs.Ythikjaoffikigaa
