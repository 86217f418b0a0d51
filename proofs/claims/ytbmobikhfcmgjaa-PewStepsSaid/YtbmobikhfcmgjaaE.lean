/- The small case that each statement asks. -/
import Derived.Test.YtbmobikhfcmgjaaD
namespace Go.Proofs.Ytbmobikhfcmgjaa
open Go.RowKit

theorem Fr.only_new {a w w' : World} {g : Nat} (h : Fr No a w) (hg : a.heap.size ≤ g) (k : Fr (Only g) w w') : Fr No a w' := h.then_ k fun i hi e => by unfold Only at e; omega

set_option maxHeartbeats 2000000 in
theorem three_any (w : World) : Calls Try.prog 9 #[] w (Found true w) := by
  go_enter Try.func9, Try.ntmps9
  go_wp2_with fail
  refine (new_any _).mono ?_
  rintro e w1 ⟨rfl, h1, hf1⟩
  have s1 := hf1.size
  go_wp2_with fail
  refine (add_room h1 (by simp) s1 1 0 0 (by decide) (by decide)).mono ?_
  rintro e w2 ⟨rfl, ⟨b1, hb1, h2⟩, hf2⟩
  have s2 := hf2.size
  go_wp2_with fail
  refine (add_room h2 (by simp) (Nat.le_trans s1 s2) 2 0 0 (by decide) (by decide)).mono ?_
  rintro e w3 ⟨rfl, ⟨b2, hb2, h3⟩, hf3⟩
  have s3 := hf3.size
  go_wp2_with fail
  refine (add_room h3 (by simp) (Nat.le_trans s1 (Nat.le_trans s2 s3)) 1 0 0 (by decide) (by decide)).mono ?_
  rintro e w4 ⟨rfl, ⟨b3, hb3, h4⟩, hf4⟩
  have s4 := hf4.size
  have f4 := h3.new_ (h2.new_ (h1.new_ hf1 (Nat.le_refl _) hf2) (Nat.le_refl _) hf3) (Nat.le_refl _) hf4
  go_wp2_with fail
  refine (drop_any h4 (Nat.le_trans s1 (Nat.le_trans s2 (Nat.le_trans s3 s4))) 1).mono ?_
  rintro e w5 ⟨rfl, ⟨ns, h5, hw5⟩, hf5⟩
  have e5 : who ns = [(2, 0, 0)] := hw5
  obtain ⟨s, rfl, hs⟩ : ∃ s, ns = [s] ∧ s.2 = (2, 0, 0) := by
    rcases ns with _ | ⟨s, _ | ⟨t, r⟩⟩
    · simp [who] at e5
    · exact ⟨s, rfl, by simpa [who] using e5⟩
    · simp [who] at e5
  have f5 := f4.only_new (Nat.le_refl _) hf5
  have hv : ((who ([] ++ [(b1, (1, 0, 0))] ++ [(b2, (2, 0, 0))] ++ [(b3, (1, 0, 0))])).length : Int) - (rest 1 (who ([] ++ [(b1, (1, 0, 0))] ++ [(b2, (2, 0, 0))] ++ [(b3, (1, 0, 0))]))).length = 2 := by simp [who, rest]
  rw [hv]
  clear hv e5 hw5
  go_wp2_with fail
  refine (take_some h5).mono ?_
  rintro e w6 ⟨rfl, h6, hf6⟩
  rw [hs]
  have f6 := f5.only_new (Nat.le_refl _) hf6
  clear h1 h2 h3 h4 h5
  go_wp2_with (go_at_call 13; refine (len_any (h6.no ((Fr.refl No w6).alloc _))).mono ?_; rintro e w' ⟨rfl, rfl⟩)
  go_ret
  exact ⟨rfl, f6.alloc _⟩
end Go.Proofs.Ytbmobikhfcmgjaa
