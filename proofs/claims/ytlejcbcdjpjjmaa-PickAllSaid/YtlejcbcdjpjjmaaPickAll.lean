/- PickAll: for every list and pick, each pick chooses one that is there; each place is chosen by its own number, and the same again as many further on; no condition. -/
import Derived.Test.YtlejcbcdjpjjmaaD
import Derived.Test.YtlejcbcdjpjjmaaO
namespace Go.Proofs.Ytlejcbcdjpjjmaa
open Go.RowKit Go.WideShapes Go.ChangeShapes Go.ChangeAt

set_option maxHeartbeats 1000000 in
theorem pickAll_out (A : Option Addr) (n c : Nat) (p : Int) (w : World) (h : 300 < n ∨ p < 0 ∨ 1099511627776 < p) (hn : n ≤ 9223372036854775807) : Calls Try.prog 3 #[.slice A n c, .int .i64 p] w (Truly w) := by
  by_cases h1 : 300 < n
  · clear h
    go_enter Try.func3, Try.ntmps3
    go_wp2_with (go_at_call 8; refine (draws_any _).mono ?_; rintro e w' ⟨rfl, hf⟩)
    go_ret
    exact ⟨rfl, hf⟩
  · have h1' : n ≤ 300 := by omega
    by_cases h2 : p < 0
    · clear h
      go_enter Try.func3, Try.ntmps3
      go_wp2_with (go_at_call 8; refine (draws_any _).mono ?_; rintro e w' ⟨rfl, hf⟩)
      go_ret
      exact ⟨rfl, hf⟩
    · have h3 : 1099511627776 < p := by omega
      clear h
      go_enter Try.func3, Try.ntmps3
      go_wp2_with (go_at_call 8; refine (draws_any _).mono ?_; rintro e w' ⟨rfl, hf⟩)
      go_ret
      exact ⟨rfl, hf⟩

theorem mod_self_add {i n : Nat} (h : i < n) : ((i : Int) + n) % (n : Int) = i := by
  have h1 := Nat.add_mod_right i n
  rw [Nat.mod_eq_of_lt h] at h1
  rw [← Int.natCast_add, ← Int.natCast_emod, h1]
theorem mod_self_lt {i n : Nat} (h : i < n) : (i : Int) % (n : Int) = i := by
  rw [← Int.natCast_emod, Nat.mod_eq_of_lt h]

set_option maxHeartbeats 1000000 in
theorem pickAll_none (A : Option Addr) (c : Nat) (p : Int) (w : World) (h1 : 0 ≤ p) (h2 : p ≤ 1099511627776) : Calls Try.prog 3 #[.slice A 0 c, .int .i64 p] w (Truly w) := by
  go_enter Try.func3, Try.ntmps3
  go_wp2
  refine wp_loop_rounds 1 ?_
  rw [rounds_succ]
  go_wp2_with (first
    | (go_at_call 9; refine (of_none p A c _ h1).mono ?_; rintro e w' ⟨rfl, rfl⟩))
  refine wp_loop_rounds 1 ?_
  rw [rounds_succ]
  go_wp2_with (go_at_call 8; refine (draws_any _).mono ?_; rintro e w' ⟨rfl, hf⟩)
  go_ret
  exact ⟨rfl, hf⟩

set_option maxHeartbeats 2000000 in
theorem pickAll_some (A : Option Addr) (c m : Nat) (xs : List Int) (p : Int) (w : World) (hx : Ints w A xs) (hl : xs.length ≤ 300) (h1 : 0 ≤ p) (h2 : p ≤ 1099511627776) (hm : p % (xs.length : Int) = m) (hml : m < xs.length) : Calls Try.prog 3 #[.slice A xs.length c, .int .i64 p] w (Truly w) := by
  have HM := Lib.hid hm
  clear hm
  go_enter Try.func3, Try.ntmps3
  go_wp2
  go_loop [29] (fun i => ∃ k : Nat, i = .int .i64 k ∧ k ≤ xs.length) (fun i => xs.length - (intOf i).toNat)
  case atStart => exact ⟨0, rfl, by omega⟩
  case round =>
    obtain ⟨k, rfl, hk⟩ := hrel
    by_cases hlt : k < xs.length
    · obtain ⟨ad, rfl, hc⟩ := hx.at_ hlt
      have e1 := Lib.hid (mod_self_lt hlt)
      have e2 := Lib.hid (mod_self_add hlt)
      have tok := True.intro
      go_wp2_with (first
        | (go_at_call 9; have _t := tok; refine (of_some (k : Int) _ c k xs _ hx (by omega) (by omega) e1.out hlt (by omega)).mono ?_; rintro e w' ⟨rfl, rfl⟩; clear tok)
        | (go_at_call 9; refine (of_some ((k : Int) + xs.length) _ c k xs _ hx (by omega) (by omega) e2.out hlt (by omega)).mono ?_; rintro e w' ⟨rfl, rfl⟩))
      go_round
      case rel => exact ⟨k + 1, by go_num, by omega⟩
      case measure => simp [intOf]; omega
    · have hpos : (0 : Int) < xs.length := by omega
      go_wp2_with (go_at_call 9; refine (of_some p _ c m xs _ hx (by omega) (by omega) HM.out hml (by omega)).mono ?_; rintro e w' ⟨rfl, rfl⟩)
      go_loop [12, 75] (fun b i => ∃ (k : Nat) (t : Bool), b = .bool t ∧ i = .int .i64 k ∧ k ≤ xs.length ∧ (m < k → t = true)) (fun _ i => xs.length - (intOf i).toNat)
      case atStart => exact ⟨0, false, rfl, rfl, by omega, fun h => by omega⟩
      case round =>
        obtain ⟨j, t, rfl, rfl, hj, ht⟩ := hrel
        have HT := Lib.hid ht
        clear ht
        by_cases hlt2 : j < xs.length
        · obtain ⟨ad, rfl, hc⟩ := hx.at_ hlt2
          cases t with
          | true =>
            go_wp2
            go_round
            case rel => exact ⟨j + 1, true, rfl, by go_num, by omega, fun _ => rfl⟩
            case measure => simp [intOf]; omega
          | false =>
            by_cases he : xs[j] = xs[m]
            · have hb : (xs[j] == xs[m]) = true := by simp [he]
              clear he
              go_wp2
              go_round
              case rel => exact ⟨j + 1, true, rfl, by go_num, by omega, fun _ => rfl⟩
              case measure => simp [intOf]; omega
            · have hb : (xs[j] == xs[m]) = false := by simp [he]
              have HE := Lib.hid he
              clear he
              go_wp2
              go_round
              case rel => exact ⟨j + 1, false, rfl, by go_num, by omega, fun h => by
                have hne : m ≠ j := fun e => HE.out (by subst e; rfl)
                have := HT.out (by omega)
                cases this⟩
              case measure => simp [intOf]; omega
        · have hin : t = true := HT.out (by omega)
          subst hin
          go_wp2_with (go_at_call 8; refine (draws_any _).mono ?_; rintro e w' ⟨rfl, hf⟩)
          go_ret
          exact ⟨rfl, hf⟩

set_option maxRecDepth 100000 in
theorem pickAll_lifted (os : Os) (started : os.Started) (H : Type) (enc : TypeId × Value → H) :
    ReturnsInHanded {} Try.checked os 3 .any (Rows.pickAllSpec.pre6 enc Try.prog Try.f3 Rows.pickAllRow.domain false) (Rows.pickAllSpec.post enc Try.prog Try.f3 false true false false) := by
  refine law_of_walk Try.underlying4 started H enc Try.func3 (by kernel_rfl) rfl rfl
    (ChangeSpec.witness6 (enc := enc) (C := Try.checked) false ⟨#[], #[.slice none 0 0, .int .i64 0], []⟩ 8 (by kernel_rfl) (by kernel_rfl) (by kernel_rfl) (by kernel_rfl)) ?_ ?_ ?_
  · intro ds hl
    match ds, hl with
    | [d0, d1], _ => rfl
  · rw [Try.params3]
    simp only [List.mem_cons, List.not_mem_nil, or_false, forall_eq_or_imp, forall_eq]
    exact ⟨⟨by kernel_rfl, of_decide_eq_true (by kernel_rfl)⟩, ⟨by kernel_rfl, of_decide_eq_true (by kernel_rfl)⟩⟩
  · intro W base args ds p hval hA hlt _
    rw [Try.params3] at hA hval
    obtain ⟨v0, vs0, d0, ds0, p0, q0, hargs, rfl, rfl, h0, r0⟩ := trodAll_cons hA
    obtain ⟨v1, vs1, d1, ds1, p1, q1, rfl, rfl, rfl, h1, r1⟩ := trodAll_cons r0
    obtain ⟨rfl, rfl, rfl⟩ := trodAll_nil r1
    obtain rfl : args = #[v0, v1] := by cases args; simp_all
    obtain ⟨A0, c0, xs0, rfl, hl0, hm0, hw0, hc0⟩ := open_list Try.underlying22 Try.underlying3 (by kernel_rfl) (hval 0 22 v0 rfl rfl) h0
    unfold maxLen at hm0
    obtain ⟨a1, rfl, rfl, rfl, w1⟩ := open_int Try.underlying3 (hval 1 3 v1 rfl rfl) h1
    have bd1 := wf_bounds w1
    have hi : Ints W A0 xs0 := by
      intro h
      obtain ⟨b, off, e, hb, hc⟩ := hc0 h
      exact ⟨_, e, hb, fun j x hx => by rw [add_at]; exact hc j x hx⟩
    by_cases h : 300 < xs0.length ∨ a1 < 0 ∨ 1099511627776 < a1
    · exact pickAll_out A0 xs0.length c0 a1 W h (by omega)
    · by_cases h0 : xs0.length = 0
      · rw [h0]
        exact pickAll_none A0 c0 a1 W (by omega) (by omega)
      · have hp : 0 < (xs0.length : Int) := by omega
        have e1 := Int.emod_nonneg a1 (show (xs0.length : Int) ≠ 0 by omega)
        have e2 := Int.emod_lt_of_pos a1 hp
        exact pickAll_some A0 c0 (a1 % (xs0.length : Int)).toNat xs0 a1 W hi (by omega) (by omega) (by omega) (by omega) (by omega)

theorem pickAll_holds : Rows.PickAllSaid :=
  OpenClaim.holds_of_wide 3 Try.f3 rfl rfl rfl rfl rfl rfl rfl ⟨rfl, rfl, rfl, rfl, rfl⟩ rfl rfl rfl rfl rfl (by kernel_rfl) Try.func3 (by kernel_rfl)
    (of_decide_eq_true (by kernel_rfl)) (by unfold Func.isWrapper; first | (rw [if_pos (by decide +kernel)]; kernel_rfl) | (rw [if_neg (by decide +kernel)]; exact ⟨rfl, rfl⟩))
    (fun os started H enc _ => pickAll_lifted os started H enc)
#print axioms pickAll_holds
end Go.Proofs.Ytlejcbcdjpjjmaa
