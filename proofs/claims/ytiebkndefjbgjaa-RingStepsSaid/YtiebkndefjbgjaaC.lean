/- The list of a ring; equal lists. -/
import Derived.Test.YtiebkndefjbgjaaB
import Derived.Test.YtiebkndefjbgjaaW
namespace Go.Proofs.Ytiebkndefjbgjaa
open Go.RowKit

theorem take_eq_step {xs ys : List Int} {k : Nat} (ha : k < xs.length) (hb : k < ys.length) (h : xs.take k = ys.take k) (he : xs[k] = ys[k]) : xs.take (k + 1) = ys.take (k + 1) := by
  rw [List.take_succ_eq_append_getElem ha, List.take_succ_eq_append_getElem hb, h, he]

def Says (b : Bool) (w : World) (e : Ending) (w' : World) : Prop := e = .returned (.bool b) ∧ ∃ n, w' = w.drewN n

set_option maxHeartbeats 1000000 in
theorem ints_any (A B : Option Addr) (c d : Nat) (xs ys : List Int) (w : World) (ha : Ints w A xs) (hb : Ints w B ys) (la : xs.length ≤ 9223372036854775807) (lb : ys.length ≤ 9223372036854775807) :
    Calls Try.prog 20 #[.slice A xs.length c, .slice B ys.length d] w (Says (decide (xs = ys)) w) := by
  go_enter Try.func20, Try.ntmps20
  go_wp2
  go_loopw [8] (fun i wr => ∃ k n : Nat, i = .int .i64 k ∧ wr = w.drewN n ∧ k ≤ xs.length ∧ k ≤ ys.length ∧ xs.take k = ys.take k) (fun i _ => xs.length - (intOf i).toNat)
  case atStart => exact ⟨0, 0, rfl, rfl, by omega, by omega, by simp⟩
  case round =>
    obtain ⟨k, n, rfl, rfl, hk1, hk2, he⟩ := hrel
    have HE := Lib.hid he
    clear he
    by_cases hlt : k < xs.length
    · obtain ⟨ad, rfl, hca⟩ := ha.at_ hlt
      by_cases hlb : k < ys.length
      · obtain ⟨bd, rfl, hcb⟩ := hb.at_ hlb
        have hd : decide (ys.length ≤ k) = false := by simp; omega
        by_cases hx : xs[k] = ys[k]
        · have hx2 : (xs[k] != ys[k]) = false := by simp [hx]
          have HX := Lib.hid hx
          clear hx
          go_wp2
          go_quiet (fail)
          go_wp2
          go_roundw
          case rel => exact ⟨k + 1, _, by go_num, by first | rfl | exact World.drewN_drewN _ _ _, by omega, by omega, take_eq_step hlt hlb HE.out HX.out⟩
          case measure => simp [intOf]; omega
        · have hx2 : (xs[k] != ys[k]) = true := by simp [hx]
          have HX := Lib.hid hx
          clear hx
          go_wp2
          go_quiet (fail)
          go_wp2
          go_ret
          exact ⟨ret_bool (decide_eq_false (fun e => HX.out (by subst e; rfl))).symm, _, World.drewN_drewN _ _ _⟩
      · have hd : decide (ys.length ≤ k) = true := by simp; omega
        go_wp2
        go_quiet (fail)
        go_wp2
        go_ret
        exact ⟨ret_bool (decide_eq_false (fun e => by subst e; omega)).symm, _, World.drewN_drewN _ _ _⟩
    · go_wp2
      go_ret
      exact ⟨ret_bool (by
        have h1 := HE.out
        rw [List.take_of_length_le (by omega)] at h1
        by_cases hl : xs.length = ys.length
        · rw [List.take_of_length_le (by omega)] at h1
          subst h1
          simp
        · rw [decide_eq_false (fun e => hl (by rw [e]))]
          simp; omega), _, rfl⟩

theorem ints_len (A B : Option Addr) (n c m d : Nat) (xs ys : List Int) (w : World) (ha : Ints w A xs) (hb : Ints w B ys) (hn : xs.length = n) (hm : ys.length = m) (la : n ≤ 9223372036854775807) (lb : m ≤ 9223372036854775807) :
    Calls Try.prog 20 #[.slice A n c, .slice B m d] w (Says (decide (xs = ys)) w) := by
  subst hn
  subst hm
  exact ints_any A B c d xs ys w ha hb la lb

theorem ints42 : IntSl Try.prog 42 3 := ⟨Try.underlying42, by kernel_rfl⟩

def Listed (L : List Int) (w : World) (e : Ending) (w' : World) : Prop := ∃ v, e = .returned v ∧ Own 3 w.heap.size w' v L ∧ Fr No w w'

set_option maxHeartbeats 1000000 in
theorem list_any {g s : Nat} {L : List Int} {w : World} (h : RingIs w g s L) : Calls Try.prog 21 #[.pointer (some ⟨g, 0, none⟩)] w (Listed L w) := by
  have hs : L.length ≤ 4 := by obtain ⟨a, f, h1, h2, _⟩ := h; omega
  go_enter Try.func21, Try.ntmps21
  go_wp2_with (go_at_call 18; refine (len_any h).mono ?_; rintro e w' ⟨rfl, rfl⟩)
  go_loopw [3, 9] (fun v i wr => ∃ k : Nat, i = .int .i64 k ∧ k ≤ L.length ∧ Own 3 w.heap.size wr v (L.take k) ∧ Fr No w wr) (fun _ i _ => L.length - (intOf i).toNat)
  case atStart => exact ⟨0, rfl, by omega, Own.nil _ _ _, Fr.refl _ _⟩
  case round =>
    obtain ⟨k, rfl, hk, hown, hf⟩ := hrel
    have hlk : (L.take k).length ≤ 4 := by rw [List.length_take]; omega
    by_cases hlt : k < L.length
    · have hx : L[k]? = some L[k] := List.getElem?_eq_getElem hlt
      have hr := h.fr hf (fun h => h)
      have hsz := hf.size
      have HX := Lib.hid hx
      clear hx
      go_wp2_with (first
        | (go_at_call 16; refine (at_in hr k _ HX.out).mono ?_; rintro e w' ⟨rfl, rfl⟩)
        | (at_builtin; go_must (refine wpList_push1 ints42 rfl (.tmp 18) (.tmp 20) rfl w.heap.size u3 (L.take k) L[k] rfl (hown.alloc _) ⟨wr.heap.size, 0, none⟩ 1 rfl (cell_new1 _ _ _) (by omega) (by simp; omega) ?_); intro v' w1 hap))
      go_roundw
      case rel => exact ⟨k + 1, by go_num, by omega, hap.1.congr (take_snoc hlt), hap.fr (hf.alloc _).drew hown (Nat.le_refl _)⟩
      case measure => simp [intOf]; omega
    · go_wp2
      go_ret
      exact ⟨_, rfl, hown.congr (List.take_of_length_le (by omega)), hf⟩
end Go.Proofs.Ytiebkndefjbgjaa
