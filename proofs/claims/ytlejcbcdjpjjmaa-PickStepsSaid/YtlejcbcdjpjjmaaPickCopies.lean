/- PickCopies: for every plan, draws and n: what a copy takes is not gone from the cursor; no condition. -/
import Derived.Test.YtlejcbcdjpjjmaaD
import Derived.Test.YtlejcbcdjpjjmaaO
namespace Go.Proofs.Ytlejcbcdjpjjmaa
open Go.RowKit Go.WideShapes Go.ChangeShapes Go.ChangeAt

def DrewAny (g : Nat) (P : List Int) (w : World) (e : Ending) (w' : World) : Prop := ∃ r s D', e = .returned (.tuple #[.int .i64 r, .int .i64 s]) ∧ CurIs w' g P D' ∧ Fr (Only g) w w'
theorem draw_any {g : Nat} {P D : List Int} {w : World} (h : CurIs w g P D) (n : Int) (hD : ∀ y ∈ D, 0 ≤ y) : Calls Try.prog 12 #[.pointer (some ⟨g, 0, none⟩), .int .i64 n] w (DrewAny g P w) := by
  by_cases hb : n < 1 ∨ 64 < n
  · exact (draw_bad _ n w hb).mono fun e w' ⟨he, hw⟩ => ⟨0, 1, D, he, hw ▸ h, hw ▸ Fr.refl _ _⟩
  · by_cases h1 : n = 1
    · subst h1
      exact (draw_one g w).mono fun e w' ⟨he, hw⟩ => ⟨0, 0, D, he, hw ▸ h, hw ▸ Fr.refl _ _⟩
    · cases D with
      | nil => exact (draw_none h n (by omega) (by omega)).mono fun e w' ⟨he, hw⟩ => ⟨0, 0, [], he, hw ▸ h, hw ▸ Fr.refl _ _⟩
      | cons y D => exact (draw_some h n (by omega) (by omega) (hD y (by simp))).mono fun e w' ⟨he, hc, hf⟩ => ⟨_, 0, D, he, hc, hf⟩

/-- New gives no cursor -/
def NoCur (w : World) (e : Ending) (w' : World) : Prop := ∃ r : Int, e = .returned (.tuple #[.pointer none, .int .i64 r]) ∧ r ≠ 0 ∧ Fr No w w'
theorem new_no (A B : Option Addr) (c d : Nat) (xs ys : List Int) (w : World) (ln : xs.length ≤ 9223372036854775807) (lm : ys.length ≤ 9223372036854775807) (hx : Ints w A xs) (hy : Ints w B ys)
    (h : ¬ (xs.length ≤ 200 ∧ ys.length ≤ 64 ∧ (∀ x ∈ xs, badB (-1) x = false) ∧ ∀ y ∈ ys, badB 0 y = false)) : Calls Try.prog 10 #[.slice A xs.length c, .slice B ys.length d] w (NoCur w) := by
  by_cases h0 : 200 < xs.length ∨ 64 < ys.length
  · exact (new_long A B _ c _ d w h0 ln lm).mono fun e w' ⟨he, hw⟩ => ⟨2, he, by decide, hw ▸ Fr.refl _ _⟩
  · by_cases h1 : ∃ x ∈ xs, badB (-1) x = true
    · exact (new_badplan A B c _ d xs w (by omega) (by omega) hx h1).mono fun e w' ⟨he, hf⟩ => ⟨4, he, by decide, hf⟩
    · have h1' : ∀ x ∈ xs, badB (-1) x = false := fun x hx => by
        cases hb : badB (-1) x
        · rfl
        · exact absurd ⟨x, hx, hb⟩ h1
      by_cases h2 : ∃ y ∈ ys, badB 0 y = true
      · exact (new_baddraws A B c d xs ys w (by omega) (by omega) hx hy h1' h2).mono fun e w' ⟨he, hf⟩ => ⟨4, he, by decide, hf⟩
      · exact absurd ⟨by omega, by omega, h1', fun y hy => by
          cases hb : badB 0 y
          · rfl
          · exact absurd ⟨y, hy, hb⟩ h2⟩ h

set_option maxHeartbeats 1000000 in
theorem pickCopies_no (A B : Option Addr) (c d : Nat) (xs ys : List Int) (n : Int) (w : World) (ln : xs.length ≤ 9223372036854775807) (lm : ys.length ≤ 9223372036854775807) (hx : Ints w A xs) (hy : Ints w B ys)
    (h : ¬ (xs.length ≤ 200 ∧ ys.length ≤ 64 ∧ (∀ x ∈ xs, badB (-1) x = false) ∧ ∀ y ∈ ys, badB 0 y = false)) : Calls Try.prog 5 #[.slice A xs.length c, .slice B ys.length d, .int .i64 n] w (Truly w) := by
  have H := Lib.hid h
  clear h
  go_enter Try.func5, Try.ntmps5
  go_wp2_with (first
    | (go_at_call 10; refine (new_no A B c d xs ys _ ln lm hx hy H.out).mono ?_; rintro e w1 ⟨r, rfl, hr, hf1⟩; have hr0 : (r != 0) = true := by simp [hr]
       have hr1 : (r == 0) = false := by simp [hr])
    | (go_at_call 8; refine (draws_any _).mono ?_; rintro e w' ⟨rfl, hf⟩))
  go_ret
  exact ⟨rfl, hf1.trans hf⟩

theorem drop_cons' {α : Type} {xs : List α} {k : Nat} (h : k < xs.length) : xs.drop k = xs[k] :: xs.drop (k + 1) := List.drop_eq_getElem_cons h

set_option maxRecDepth 100000 in
set_option maxHeartbeats 2000000 in
theorem pickCopies_good (A B : Option Addr) (c d : Nat) (xs ys : List Int) (n : Int) (w : World) (hx : Ints w A xs) (hy : Ints w B ys)
    (l1 : xs.length ≤ 200) (l2 : ys.length ≤ 64) (g1 : ∀ x ∈ xs, badB (-1) x = false) (g2 : ∀ y ∈ ys, badB 0 y = false) : Calls Try.prog 5 #[.slice A xs.length c, .slice B ys.length d, .int .i64 n] w (Truly w) := by
  have G1 := Lib.hid g1
  have G2 := Lib.hid g2
  have GY := Lib.hid (show ∀ y ∈ ys, 0 ≤ y from fun y hy => by have h := g2 y hy; unfold badB at h; simp at h; omega)
  clear g1 g2
  go_enter Try.func5, Try.ntmps5
  go_wp2_with (first
    | (go_at_call 10; refine (new_good A B _ _ c d xs ys _ rfl rfl l1 l2 hx hy G1.out G2.out).mono ?_; rintro e w1 ⟨g, rfl, hc1, hf1, hg1⟩)
    | (go_at_call 17; refine (copy_any hc1).mono ?_; rintro e w2 ⟨rfl, hx2, hf2⟩))
  have hc2 := hc1.no hf2
  have hne : g ≠ w1.heap.size := by have := hc1.lt; omega
  have hf12 := hf1.trans hf2
  have hs1 := hf1.size
  have HN := Lib.hid hne
  clear hne
  go_loopw [10] (fun i wr => ∃ k : Nat, i = .int .i64 k ∧ k ≤ xs.length ∧ CurIs wr g xs ys ∧ CurIs wr w1.heap.size (xs.drop k) ys ∧ Fr No w wr) (fun i _ => xs.length - (intOf i).toNat)
  case atStart => exact ⟨0, rfl, by omega, hc2, by simpa using hx2, hf12⟩
  case round =>
    obtain ⟨k, rfl, hk, hc, hxr, hf⟩ := hrel
    clear hc1 hx2 hc2 hf2 hf12 hf1
    by_cases hlt : k < xs.length
    · have hxr' : CurIs wr w1.heap.size (xs[k] :: xs.drop (k + 1)) ys := drop_cons' hlt ▸ hxr
      obtain ⟨ad, rfl, hbl, hcs⟩ := hx (by omega)
      have hcell := hcs k _ (List.getElem?_eq_getElem hlt)
      clear hcs
      clear hxr
      go_wp2_with (go_at_call 14; refine (next_some hxr').mono ?_; rintro e w3 ⟨rfl, hx3, hf3⟩
                   have hcell3 : w3.cell? (ad.add k) = some (.int .i64 xs[k]) := by
                     rw [(hf.only_new hs1 hf3).cell (by rw [block_of_add]; exact hbl) (fun h => h)]
                     exact hcell)
      go_roundw
      case rel => exact ⟨k + 1, by go_num, by omega, hc.other hxr' HN.out hf3, hx3, hf.only_new hs1 hf3⟩
      case measure => simp [intOf]; omega
    · have hxe : CurIs wr w1.heap.size [] ys := by
        rw [List.drop_eq_nil_of_le (by omega)] at hxr
        exact hxr
      clear hxr
      go_wp2_with (first
        | (go_at_call 12; refine (draw_any hxe n GY.out).mono ?_; rintro e w3 ⟨r, s, D', rfl, hx3, hf3⟩
           have hc3 := hc.other hxe HN.out hf3
           have hf03 := hf.only_new hs1 hf3)
        | (go_at_call 16; refine (left_any hc3).mono ?_; rintro e w4 ⟨rfl, m, rfl⟩)
        | (go_at_call 14; refine (next_none (hx3.drewN m)).mono ?_; rintro e w' ⟨rfl, rfl⟩)
        | (go_at_call 8; refine (draws_any _).mono ?_; rintro e w' ⟨rfl, hf⟩))
      go_ret
      exact ⟨rfl, (hf03.drewN m).trans hf⟩

set_option maxRecDepth 100000 in
theorem pickCopies_lifted (os : Os) (started : os.Started) (H : Type) (enc : TypeId × Value → H) :
    ReturnsInHanded {} Try.checked os 5 .any (Rows.pickCopiesSpec.pre6 enc Try.prog Try.f5 Rows.pickCopiesRow.domain false) (Rows.pickCopiesSpec.post enc Try.prog Try.f5 false true false false) := by
  refine law_of_walk Try.underlying4 started H enc Try.func5 (by kernel_rfl) rfl rfl
    (ChangeSpec.witness6 (enc := enc) (C := Try.checked) false ⟨#[], #[.slice none 0 0, .slice none 0 0, .int .i64 0], []⟩ 8 (by kernel_rfl) (by kernel_rfl) (by kernel_rfl) (by kernel_rfl)) ?_ ?_ ?_
  · intro ds hl
    match ds, hl with
    | [d0, d1, d2], _ => rfl
  · rw [Try.params5]
    simp only [List.mem_cons, List.not_mem_nil, or_false, forall_eq_or_imp, forall_eq]
    exact ⟨⟨by kernel_rfl, of_decide_eq_true (by kernel_rfl)⟩, ⟨by kernel_rfl, of_decide_eq_true (by kernel_rfl)⟩, ⟨by kernel_rfl, of_decide_eq_true (by kernel_rfl)⟩⟩
  · intro W base args ds p hval hA hlt _
    rw [Try.params5] at hA hval
    obtain ⟨v0, vs0, d0, ds0, p0, q0, hargs, rfl, rfl, h0, r0⟩ := trodAll_cons hA
    obtain ⟨v1, vs1, d1, ds1, p1, q1, rfl, rfl, rfl, h1, r1⟩ := trodAll_cons r0
    obtain ⟨v2, vs2, d2, ds2, p2, q2, rfl, rfl, rfl, h2, r2⟩ := trodAll_cons r1
    obtain ⟨rfl, rfl, rfl⟩ := trodAll_nil r2
    obtain rfl : args = #[v0, v1, v2] := by cases args; simp_all
    obtain ⟨A0, c0, xs0, rfl, hl0, hm0, hw0, hc0⟩ := open_list Try.underlying22 Try.underlying3 (by kernel_rfl) (hval 0 22 v0 rfl rfl) h0
    unfold maxLen at hm0
    obtain ⟨A1, c1, xs1, rfl, hl1, hm1, hw1, hc1⟩ := open_list Try.underlying22 Try.underlying3 (by kernel_rfl) (hval 1 22 v1 rfl rfl) h1
    unfold maxLen at hm1
    obtain ⟨a2, rfl, rfl, rfl, w2⟩ := open_int Try.underlying3 (hval 2 3 v2 rfl rfl) h2
    have bd2 := wf_bounds w2
    have hi0 : Ints W A0 xs0 := by
      intro h
      obtain ⟨b, off, e, hb, hc⟩ := hc0 h
      exact ⟨_, e, hb, fun j x hx => by rw [add_at]; exact hc j x hx⟩
    have hi1 : Ints W A1 xs1 := by
      intro h
      obtain ⟨b, off, e, hb, hc⟩ := hc1 h
      exact ⟨_, e, hb, fun j x hx => by rw [add_at]; exact hc j x hx⟩
    by_cases h : xs0.length ≤ 200 ∧ xs1.length ≤ 64 ∧ (∀ x ∈ xs0, badB (-1) x = false) ∧ ∀ y ∈ xs1, badB 0 y = false
    · exact pickCopies_good A0 A1 c0 c1 xs0 xs1 a2 W hi0 hi1 h.1 h.2.1 h.2.2.1 h.2.2.2
    · exact pickCopies_no A0 A1 c0 c1 xs0 xs1 a2 W (by omega) (by omega) hi0 hi1 h

theorem pickCopies_holds : Rows.PickCopiesSaid :=
  OpenClaim.holds_of_wide 5 Try.f5 rfl rfl rfl rfl rfl rfl rfl ⟨rfl, rfl, rfl, rfl, rfl⟩ rfl rfl rfl rfl rfl (by kernel_rfl) Try.func5 (by kernel_rfl)
    (of_decide_eq_true (by kernel_rfl)) (by unfold Func.isWrapper; first | (rw [if_pos (by decide +kernel)]; kernel_rfl) | (rw [if_neg (by decide +kernel)]; exact ⟨rfl, rfl⟩))
    (fun os started H enc _ => pickCopies_lifted os started H enc)
#print axioms pickCopies_holds
end Go.Proofs.Ytlejcbcdjpjjmaa
