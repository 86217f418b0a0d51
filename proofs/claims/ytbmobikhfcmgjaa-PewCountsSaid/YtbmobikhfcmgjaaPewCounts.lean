/- PewCounts: for every list of waiters and every goroutine, who is dropped and who is left are all that were there; no condition. -/
import Derived.Test.YtbmobikhfcmgjaaF
namespace Go.Proofs.Ytbmobikhfcmgjaa
open Go.RowKit Go.WideShapes Go.ChangeShapes Go.ChangeAt

set_option maxHeartbeats 1000000 in
theorem pewCounts_long (A : Option Addr) (n c : Nat) (q : Int) (w : World) (h : 300 < n) (hn : n ≤ 9223372036854775807) : Calls Try.prog 7 #[.slice A n c, .int .i64 q] w (Truly w) := by
  go_enter Try.func7, Try.ntmps7
  go_wp2_with (first
    | (go_at_call 8; refine (new_any _).mono ?_; rintro e w1 ⟨rfl, h1, hf1⟩)
    | (go_at_call 9; refine (three_any _).mono ?_; rintro e w' ⟨rfl, hf⟩))
  go_ret
  exact ⟨rfl, hf1.trans hf⟩

def DropD (g B : Nat) (q : Int) (d : Nat) (L : List Tr) (w : World) (e : Ending) (w' : World) : Prop := e = .returned (.int .i64 d) ∧ (∃ ns', PewIs w' g B ns' ∧ who ns' = L) ∧ Fr (Only g) w w'
theorem drop_d {w : World} {g B : Nat} {ns : List Seat} (h : PewIs w g B ns) (hB : B ≤ w.heap.size) (q : Int) (d : Nat) (hd : (who ns).length = d + (rest q (who ns)).length) : Calls Try.prog 11 #[.pointer (some ⟨g, 0, none⟩), .int .i64 q] w (DropD g B q d (rest q (who ns)) w) := by
  refine (drop_any h hB q).mono ?_
  rintro e w' ⟨rfl, hp, hf⟩
  refine ⟨?_, hp, hf⟩
  rw [show ((who ns).length : Int) - (rest q (who ns)).length = d by omega]

set_option maxHeartbeats 2000000 in
theorem pewCounts_good (A : Option Addr) (c : Nat) (l : List Tr) (q : Int) (w : World) (hl : l.length ≤ 300) (hA : Trip w A l) : Calls Try.prog 7 #[.slice A l.length c, .int .i64 q] w (Truly w) := by
  go_enter Try.func7, Try.ntmps7
  go_wp2_with (go_at_call 8; refine (new_any _).mono ?_; rintro e w1 ⟨rfl, h1, hf1⟩)
  go_loopw [26] (fun i wr => ∃ (k : Nat) (ns : List Seat), i = .int .i64 k ∧ k ≤ l.length ∧ PewIs wr w.heap.size w.heap.size ns ∧ who ns = (l.take k).filter (keep []) ∧ Fr No w wr) (fun i _ => l.length - (intOf i).toNat)
  case atStart => exact ⟨0, [], rfl, by omega, h1, by simp [who], hf1⟩
  case round =>
    obtain ⟨k, ns, rfl, hk, hp, hw, hf⟩ := hrel
    have HW := Lib.hid hw
    have hln : ns.length ≤ k := by
      have e := congrArg List.length hw
      rw [who_len] at e
      have := List.length_filter_le (keep []) (l.take k)
      rw [List.length_take] at this
      omega
    have hsz := hf.size
    clear hw h1 hf1
    by_cases hlt : k < l.length
    · obtain ⟨b, off, rfl, hbl, d0, d1, d2⟩ := (hA.fr hf (fun _ _ h => h)).at_ hlt
      have htk := Lib.hid (take_snoc hlt)
      have hp' := fun o => hp.no ((Fr.refl No wr).alloc o)
      have hsz' := (hf.alloc (.cells #[.int .i64 l[k].1, .int .i64 l[k].2.1, .int .i64 l[k].2.2] 28)).size
      go_wp2_with (go_at_call 10; refine (add_any (hp' _) (by omega) hsz' l[k]).mono ?_; rintro e w3 ⟨r, ns3, rfl, hp3, hw3, hf3⟩
                   have HW3 := Lib.hid hw3
                   clear hw3)
      go_roundw
      case rel => exact ⟨k + 1, ns3, by go_num, by omega, hp3, by rw [HW3.out, HW.out, ← htk.out, filter_snoc], (hp' _).new_ (hf.alloc _) (Nat.le_refl _) hf3⟩
      case measure => simp [intOf]; omega
    · clear hA
      obtain ⟨d, hd⟩ : ∃ d, (who ns).length = d + (rest q (who ns)).length := ⟨(who ns).length - (rest q (who ns)).length, by have := rest_le q (who ns); omega⟩
      have hrr : rest q (rest q (who ns)) = rest q (who ns) := rest_same rest_mem
      have HD := Lib.hid hd
      have HRR := Lib.hid hrr
      have hlw := who_len ns
      have hrl := rest_le q (who ns)
      by_cases hex : ∃ x ∈ who ns, x.1 = q
      · have hdp : 0 < d := by have := rest_lt hex; omega
        have HX := Lib.hid hex
        have tok := True.intro
        have tok2 := True.intro
        have tok3 := True.intro
        have hln2 : ns.length = d + (rest q (who ns)).length := by omega
        have hdb : d ≤ 300 := by omega
        have HL2 := Lib.hid hln2
        clear hex hd hrr hlw hln2
        go_wp2_with (first
          | (go_at_call 13; have _t := tok; refine (len_any hp).mono ?_; rintro e w' ⟨rfl, rfl⟩; clear tok)
          | (go_at_call 20; have _t := tok2; refine (has_yes hp q HX.out).mono ?_; rintro e w2 ⟨rfl, hf2⟩; clear tok2
             have hp2 := hp.no hf2
             have hsz2 := hf2.size)
          | (go_at_call 11; have _t := tok3; refine (drop_d hp2 (Nat.le_trans hsz hsz2) q d HD.out).mono ?_; rintro e w3 ⟨rfl, ⟨ns3, hp3, hw3⟩, hf3⟩; clear tok3
             have hl3 : (ns3.length : Int) = ns.length - d := by have e := congrArg List.length hw3; rw [who_len] at e; have := HL2.out; omega
             have hsz3 := hf3.size
             have HW3 := Lib.hid hw3
             have e1 : ((d : Int) + ns3.length == ns.length) = true := by simp; omega
             have hb3 : ns3.length ≤ 1024 := hp3.2.2.2.2.1
             have hd3 := Lib.hid (show (who ns3).length = 0 + (rest q (who ns3)).length by rw [hw3, HRR.out]; omega)
             clear hw3 hl3)
          | (go_at_call 13; refine (len_any hp3).mono ?_; rintro e w' ⟨rfl, rfl⟩)
          | (go_at_call 20; refine (has_no hp3 q (by rw [HW3.out]; exact rest_mem)).mono ?_; rintro e w4 ⟨rfl, hf4⟩
             have hp4 := hp3.no hf4
             have hsz4 := hf4.size)
          | (go_at_call 11; refine (drop_d hp4 (Nat.le_trans hsz (Nat.le_trans hsz2 (Nat.le_trans hsz3 hsz4))) q 0 hd3.out).mono ?_; rintro e w5 ⟨rfl, _, hf5⟩)
          | (go_at_call 9; refine (three_any _).mono ?_; rintro e w' ⟨rfl, hf9⟩))
        go_ret
        exact ⟨rfl, ((((hf.trans hf2).only_new (Nat.le_refl _) hf3).trans hf4).only_new (Nat.le_refl _) hf5).trans hf9⟩
      · have hall : ∀ x ∈ who ns, x.1 ≠ q := fun x hx e => hex ⟨x, hx, e⟩
        have hd0 : d = 0 := by rw [rest_same hall] at hd; omega
        subst hd0
        have HX := Lib.hid hall
        have tok := True.intro
        have tok2 := True.intro
        have tok3 := True.intro
        have hln2 : ns.length = (rest q (who ns)).length := by omega
        have HL2 := Lib.hid hln2
        clear hex hd hrr hlw hln2 hall
        go_wp2_with (first
          | (go_at_call 13; have _t := tok; refine (len_any hp).mono ?_; rintro e w' ⟨rfl, rfl⟩; clear tok)
          | (go_at_call 20; have _t := tok2; refine (has_no hp q HX.out).mono ?_; rintro e w2 ⟨rfl, hf2⟩; clear tok2
             have hp2 := hp.no hf2
             have hsz2 := hf2.size)
          | (go_at_call 11; have _t := tok3; refine (drop_d hp2 (Nat.le_trans hsz hsz2) q 0 HD.out).mono ?_; rintro e w3 ⟨rfl, ⟨ns3, hp3, hw3⟩, hf3⟩; clear tok3
             have hl3 : ns3.length = ns.length := by have e := congrArg List.length hw3; rw [who_len] at e; have := HL2.out; omega
             have hsz3 := hf3.size
             have HW3 := Lib.hid hw3
             have e1 : ((ns3.length : Int) == ns.length) = true := by simp; omega
             have hb3 : ns3.length ≤ 1024 := hp3.2.2.2.2.1
             have hd3 := Lib.hid (show (who ns3).length = 0 + (rest q (who ns3)).length by rw [hw3, HRR.out]; omega)
             clear hw3 hl3)
          | (go_at_call 13; refine (len_any hp3).mono ?_; rintro e w' ⟨rfl, rfl⟩)
          | (go_at_call 20; refine (has_no hp3 q (by rw [HW3.out]; exact rest_mem)).mono ?_; rintro e w4 ⟨rfl, hf4⟩
             have hp4 := hp3.no hf4
             have hsz4 := hf4.size)
          | (go_at_call 11; refine (drop_d hp4 (Nat.le_trans hsz (Nat.le_trans hsz2 (Nat.le_trans hsz3 hsz4))) q 0 hd3.out).mono ?_; rintro e w5 ⟨rfl, _, hf5⟩)
          | (go_at_call 9; refine (three_any _).mono ?_; rintro e w' ⟨rfl, hf9⟩))
        go_ret
        exact ⟨rfl, ((((hf.trans hf2).only_new (Nat.le_refl _) hf3).trans hf4).only_new (Nat.le_refl _) hf5).trans hf9⟩

set_option maxRecDepth 100000 in
theorem pewCounts_lifted (os : Os) (started : os.Started) (H : Type) (enc : TypeId × Value → H) :
    ReturnsInHanded {} Try.checked os 7 .any (Rows.pewCountsSpec.pre6 enc Try.prog Try.f7 Rows.pewCountsRow.domain false) (Rows.pewCountsSpec.post enc Try.prog Try.f7 false true false false) := by
  refine law_of_walk Try.underlying4 started H enc Try.func7 (by kernel_rfl) rfl rfl
    (ChangeSpec.witness6 (enc := enc) (C := Try.checked) false ⟨#[], #[.slice none 0 0, .int .i64 0], []⟩ 8 (by kernel_rfl) (by kernel_rfl) (by kernel_rfl) (by kernel_rfl)) ?_ ?_ ?_
  · intro ds hl
    match ds, hl with
    | [d0, d1], _ => rfl
  · rw [Try.params7]
    simp only [List.mem_cons, List.not_mem_nil, or_false, forall_eq_or_imp, forall_eq]
    exact ⟨⟨by kernel_rfl, of_decide_eq_true (by kernel_rfl)⟩, ⟨by kernel_rfl, of_decide_eq_true (by kernel_rfl)⟩⟩
  · intro W base args ds p hval hA hlt _
    rw [Try.params7] at hA hval
    obtain ⟨v0, vs0, d0, ds0, p0, q0, hargs, rfl, rfl, h0, r0⟩ := trodAll_cons hA
    obtain ⟨v1, vs1, d1, ds1, p1, q1, rfl, rfl, rfl, h1, r1⟩ := trodAll_cons r0
    obtain ⟨rfl, rfl, rfl⟩ := trodAll_nil r1
    obtain rfl : args = #[v0, v1] := by cases args; simp_all
    obtain ⟨A0, n0, c0, F0, rfl, hl0, hm0, hw0, hc0⟩ := open_structs Try.underlying22 Try.underlying28 (by kernel_rfl) (by kernel_rfl) (by decide) (by
      intro j f hj
      match j, hj with
      | 0, hj => cases hj; exact Try.underlying3
      | 1, hj => cases hj; exact Try.underlying3
      | 2, hj => cases hj; exact Try.underlying3) (hval 0 22 v0 rfl rfl) h0
    unfold maxLen at hm0
    obtain ⟨a1, rfl, rfl, rfl, w1⟩ := open_int Try.underlying3 (hval 1 3 v1 rfl rfl) h1
    have bd1 := wf_bounds w1
    by_cases h : 300 < n0
    · exact pewCounts_long A0 n0 c0 a1 W h (by omega)
    · have := pewCounts_good A0 c0 (trips n0 F0) a1 W (by rw [trips_len]; omega) (trip_arg hc0)
      rw [trips_len] at this
      exact this

theorem pewCounts_holds : Rows.PewCountsSaid :=
  OpenClaim.holds_of_wide 7 Try.f7 rfl rfl rfl rfl rfl rfl rfl ⟨rfl, rfl, rfl, rfl, rfl⟩ rfl rfl rfl rfl rfl (by kernel_rfl) Try.func7 (by kernel_rfl)
    (of_decide_eq_true (by kernel_rfl)) (by unfold Func.isWrapper; first | (rw [if_pos (by decide +kernel)]; kernel_rfl) | (rw [if_neg (by decide +kernel)]; exact ⟨rfl, rfl⟩))
    (fun os started H enc _ => pewCounts_lifted os started H enc)
#print axioms pewCounts_holds
end Go.Proofs.Ytbmobikhfcmgjaa
