/- The small case that each statement asks. -/
import Derived.Test.YtiebkndefjbgjaaC
namespace Go.Proofs.Ytiebkndefjbgjaa
open Go.RowKit

theorem Fr.only_new {a w w' : World} {g : Nat} (h : Fr No a w) (hg : a.heap.size ≤ g) (k : Fr (Only g) w w') : Fr No a w' := h.then_ k fun i hi e => by unfold Only at e; omega

theorem blk_ints (w : World) (t : TypeId) (xs : List Int) : Ints (w.alloc (.cells (xs.map (Value.int .i64)).toArray t)) (some ⟨w.heap.size, 0, none⟩) xs := by
  intro _
  refine ⟨_, rfl, by simp, fun j x hx => ?_⟩
  have : (⟨w.heap.size, 0, none⟩ : Addr).add j = ⟨w.heap.size, j, none⟩ := by unfold Addr.add; split <;> simp_all
  rw [this, (Blk.new w t _).cell]
  simp [hx]

def Tells (b : Bool) (w : World) (e : Ending) (w' : World) : Prop := e = .returned (.bool b) ∧ Fr No w w'

set_option maxHeartbeats 1000000 in
theorem two_any (w : World) : Calls Try.prog 9 #[] w (Tells true w) := by
  go_enter Try.func9, Try.ntmps9
  go_wp2_with fail
  refine (new_good (s := 2) _ (by decide)).mono ?_
  rintro e w1 ⟨rfl, hr1, hf1⟩
  have hz1 := hr1.lt
  go_wp2_with fail
  refine (push_room hr1 (by decide) 1).mono ?_
  rintro e w2 ⟨rfl, hr2, hf2⟩
  go_wp2_with fail
  refine (push_room hr2 (by decide) 2).mono ?_
  rintro e w3 ⟨rfl, hr3, hf3⟩
  go_wp2_with fail
  refine (push_full hr3 rfl 3).mono ?_
  rintro e w4 ⟨rfl, rfl⟩
  go_wp2_with fail
  refine (turn_some hr3 3).mono ?_
  rintro e w5 ⟨rfl, hr5, hf5⟩
  go_wp2_with fail
  refine (list_any hr5).mono ?_
  rintro e w6 ⟨v, rfl, hown, hf6⟩
  obtain ⟨A, c, rfl, hi, hb⟩ := hown.form
  go_wp2_with fail
  have hi2 : Ints w6 A [2, 3] := hi
  refine (ints_any A (some ⟨w6.heap.size, 0, none⟩) c 2 [2, 3] [2, 3] _ (hi2.fr ((Fr.refl No _).alloc _) (fun _ _ h => h)) (blk_ints w6 3 [2, 3]) (by simp) (by simp)).mono ?_
  rintro e w7 ⟨rfl, n, rfl⟩
  go_wp2_with fail
  go_ret
  refine ⟨rfl, ?_⟩
  have f5 := (((hf1.only_new (Nat.le_refl _) hf2).only_new (Nat.le_refl _) hf3).only_new (Nat.le_refl _) hf5).trans hf6
  exact (f5.alloc _).drewN n
end Go.Proofs.Ytiebkndefjbgjaa
