/- PewOrder: for every list of waiters and every list of goroutines that are dropped, all that are left are taken in their order, and then nobody waits; no condition. -/
import Derived.Test.YtbmobikhfcmgjaaF
import Derived.Test.YtbmobikhfcmgjaaW
namespace Go.Proofs.Ytbmobikhfcmgjaa
open Go.RowKit Go.WideShapes Go.ChangeShapes Go.ChangeAt

set_option maxHeartbeats 1000000 in
theorem pewOrder_long (A B : Option Addr) (n c m d : Nat) (w : World) (h : 300 < n ∨ 300 < m) (hn : n ≤ 9223372036854775807) (hm : m ≤ 9223372036854775807) : Calls Try.prog 3 #[.slice A n c, .slice B m d] w (Truly w) := by
  by_cases h0 : 300 < n
  · clear h
    go_enter Try.func3, Try.ntmps3
    go_wp2_with (first
      | (go_at_call 8; refine (new_any _).mono ?_; rintro e w1 ⟨rfl, h1, hf1⟩)
      | (go_at_call 9; refine (three_any _).mono ?_; rintro e w' ⟨rfl, hf⟩))
    go_ret
    exact ⟨rfl, hf1.trans hf⟩
  · have h1 : n ≤ 300 := by omega
    have h2 : 300 < m := by omega
    clear h h0
    go_enter Try.func3, Try.ntmps3
    go_wp2_with (first
      | (go_at_call 8; refine (new_any _).mono ?_; rintro e w1 ⟨rfl, h1, hf1⟩)
      | (go_at_call 9; refine (three_any _).mono ?_; rintro e w' ⟨rfl, hf⟩))
    go_ret
    exact ⟨rfl, hf1.trans hf⟩

/-- the state: who waits at the pew -/
def At (w0 : World) (L : List Tr) (wr : World) : Prop := ∃ ns, PewIs wr w0.heap.size w0.heap.size ns ∧ who ns = L ∧ Fr No w0 wr
theorem At.len {w0 wr : World} {L : List Tr} {ns : List Seat} (h : who ns = L) : ns.length = L.length := by rw [← h, who_len]

theorem filter_drop {p : Tr → Bool} {l : List Tr} {k : Nat} (hk : k < l.length) : (l.drop k).filter p = (if p l[k] then [l[k]] else []) ++ (l.drop (k + 1)).filter p := by
  rw [List.drop_eq_getElem_cons hk, List.filter_cons]
  cases p l[k] <;> simp
theorem not_keep {ds : List Int} {x : Tr} (h : keep ds x = false) : x.1 < 0 ∨ x.2.1 < -1 ∨ ∃ d ∈ ds, d = x.1 := by
  have h' : ¬ (0 ≤ x.1 ∧ -1 ≤ x.2.1 ∧ ∀ d ∈ ds, d ≠ x.1) := fun e => by rw [keep_iff.2 e] at h; cases h
  by_cases h1 : x.1 < 0
  · exact .inl h1
  · by_cases h2 : x.2.1 < -1
    · exact .inr (.inl h2)
    · exact .inr (.inr (Classical.byContradiction fun hn => h' ⟨by omega, by omega, fun d hd e => hn ⟨d, hd, e⟩⟩))

theorem still_hit {b : Prop} {l m : List Int} {y z : Int} (e : l ++ [y] = m) (h : (true = true) ↔ b ∨ ∃ d ∈ l, d = z) : (true = true) ↔ b ∨ ∃ d ∈ m, d = z := by
  subst e
  refine ⟨fun _ => ?_, fun _ => rfl⟩
  rcases h.1 rfl with h | ⟨d, hd, e⟩
  · exact .inl h
  · exact .inr ⟨d, by simp [hd], e⟩
theorem now_hit {b : Prop} {l m : List Int} {y z : Int} (e : l ++ [y] = m) (hy : y = z) : (true = true) ↔ b ∨ ∃ d ∈ m, d = z := by
  subst e
  exact ⟨fun _ => .inr ⟨y, by simp, hy⟩, fun _ => rfl⟩
theorem not_hit {b : Prop} {l m : List Int} {y z : Int} (e : l ++ [y] = m) (h : (false = true) ↔ b ∨ ∃ d ∈ l, d = z) (hy : ¬ y = z) : (false = true) ↔ b ∨ ∃ d ∈ m, d = z := by
  subst e
  refine ⟨(fun h => by cases h), fun k => h.2 ?_⟩
  rcases k with k | ⟨d, hd, e⟩
  · exact .inl k
  · rcases List.mem_append.1 hd with hd | hd
    · exact .inr ⟨d, hd, e⟩
    · rw [List.mem_singleton.1 hd] at e
      exact absurd e hy

set_option maxRecDepth 100000 in
set_option maxHeartbeats 4000000 in
theorem pewOrder_good (A D : Option Addr) (c d : Nat) (l : List Tr) (ds : List Int) (w : World) (hl : l.length ≤ 300) (hdl : ds.length ≤ 300) (hA : Trip w A l) (hD : Ints w D ds) : Calls Try.prog 3 #[.slice A l.length c, .slice D ds.length d] w (Truly w) := by
  go_enter Try.func3, Try.ntmps3
  go_wp2_with (go_at_call 8; refine (new_any _).mono ?_; rintro e w1 ⟨rfl, h1, hf1⟩)
  go_loopw [39] (fun i wr => ∃ k : Nat, i = .int .i64 k ∧ k ≤ l.length ∧ At w ((l.take k).filter (keep [])) wr) (fun i _ => l.length - (intOf i).toNat)
  case atStart => exact ⟨0, rfl, by omega, [], h1, by simp [who], hf1⟩
  case round =>
    obtain ⟨k, rfl, hk, ns, hp, hw, hf⟩ := hrel
    clear h1 hf1
    by_cases hlt : k < l.length
    · obtain ⟨b, off, rfl, hbl, d0, d1, d2⟩ := (hA.fr hf (fun _ _ h => h)).at_ hlt
      have hln : ns.length ≤ k := by
        have e := At.len (w0 := w) (wr := wr) hw
        have := List.length_filter_le (keep []) (l.take k)
        rw [List.length_take] at this
        omega
      have HW := Lib.hid hw
      have hsz := hf.size
      have htk := Lib.hid (take_snoc hlt)
      have hp' := fun o => hp.no ((Fr.refl No wr).alloc o)
      have hsz' := (hf.alloc (.cells #[.int .i64 l[k].1, .int .i64 l[k].2.1, .int .i64 l[k].2.2] 28)).size
      clear hw
      go_wp2_with (go_at_call 10; refine (add_any (hp' _) (by omega) hsz' l[k]).mono ?_; rintro e w3 ⟨r, ns3, rfl, hp3, hw3, hf3⟩
                   have HW3 := Lib.hid hw3
                   clear hw3)
      go_roundw
      case rel => exact ⟨k + 1, by go_num, by omega, ns3, hp3, by rw [HW3.out, HW.out, ← htk.out, filter_snoc], (hp' _).new_ (hf.alloc _) (Nat.le_refl _) hf3⟩
      case measure => simp [intOf]; omega
    · rw [List.take_of_length_le (by omega)] at hw
      have HA := Lib.hid hA
      have HW0 := Lib.hid hw
      clear hA hw
      go_wp2
      go_loopw [49] (fun i w2 => ∃ k2 : Nat, i = .int .i64 k2 ∧ k2 ≤ ds.length ∧ At w (l.filter (keep (ds.take k2))) w2) (fun i _ => ds.length - (intOf i).toNat)
      case atStart => exact ⟨0, rfl, by omega, ns, hp, by rw [HW0.out]; simp, hf⟩
      case round =>
        clear hp hf
        obtain ⟨k2, rfl, hk2, ns2, hp2, hw2, hf2⟩ := hrel
        by_cases hlt2 : k2 < ds.length
        · obtain ⟨ad, rfl, hcd⟩ := (hD.fr hf2 (fun _ _ h => h)).at_ hlt2
          have HW2 := Lib.hid hw2
          have hsz2 := hf2.size
          have htk2 := Lib.hid (take_snoc hlt2)
          clear hw2 hD
          go_wp2_with (go_at_call 11; refine (drop_any hp2 hsz2 ds[k2]).mono ?_; rintro e w3 ⟨rfl, ⟨ns3, hp3, hw3⟩, hf3⟩
                       have HW3 := Lib.hid hw3
                       clear hw3)
          go_roundw
          case rel => exact ⟨k2 + 1, by go_num, by omega, ns3, hp3, by rw [HW3.out, HW2.out, keep_drop, htk2.out], hf2.only_new (Nat.le_refl _) hf3⟩
          case measure => simp [intOf]; omega
        · rw [List.take_of_length_le (by omega)] at hw2
          have HD := Lib.hid hD
          have HW2 := Lib.hid hw2
          clear hD hw2
          go_wp2
          go_loopw [59] (fun i w4 => ∃ k3 : Nat, i = .int .i64 k3 ∧ k3 ≤ l.length ∧ At w ((l.drop k3).filter (keep ds)) w4) (fun i _ => l.length - (intOf i).toNat)
          case atStart => exact ⟨0, rfl, by omega, ns2, hp2, by rw [HW2.out]; simp, hf2⟩
          case round =>
            clear hp2 hf2
            obtain ⟨k3, rfl, hk3, ns3, hp3, hw3, hf3⟩ := hrel
            by_cases hlt3 : k3 < l.length
            · obtain ⟨b, off, rfl, hbl, d0, d1, d2⟩ := (HA.out.fr hf3 (fun _ _ h => h)).at_ hlt3
              have hfd := Lib.hid (filter_drop (p := keep ds) hlt3)
              generalize hv : l[k3] = x at d0 d1 d2 hfd
              clear hv
              have hbW := Blk.new wr 28 #[.int .i64 x.1, .int .i64 x.2.1, .int .i64 x.2.2]
              have e0 : (wr.alloc (.cells #[.int .i64 x.1, .int .i64 x.2.1, .int .i64 x.2.2] 28)).cell? ⟨wr.heap.size, 0, none⟩ = some (.int .i64 x.1) := hbW.cell 0
              have HW3 := Lib.hid hw3
              have hf3' := hf3.alloc (.cells #[.int .i64 x.1, .int .i64 x.2.1, .int .i64 x.2.2] 28)
              have hp3' := hp3.no ((Fr.refl No wr).alloc (.cells #[.int .i64 x.1, .int .i64 x.2.1, .int .i64 x.2.2] 28))
              clear hw3
              go_upto_region 17 with fail
              go_cut [12] (fun g wx => ∃ t : Bool, g = .bool t ∧ (t = true ↔ x.1 < 0 ∨ x.2.1 < -1) ∧ wx = wr.alloc (.cells #[.int .i64 x.1, .int .i64 x.2.1, .int .i64 x.2.2] 28))
              case first =>
                by_cases h0 : x.1 < 0
                · go_wp2_with fail
                  go_meet
                  case rel => exact ⟨true, rfl, ⟨fun _ => .inl h0, fun _ => rfl⟩, rfl⟩
                · by_cases h1 : x.2.1 < -1
                  · go_wp2_with fail
                    go_meet
                    case rel => exact ⟨true, rfl, ⟨fun _ => .inr h1, fun _ => rfl⟩, rfl⟩
                  · go_wp2_with fail
                    go_meet
                    case rel => exact ⟨false, rfl, ⟨(fun h => by cases h), (fun h => by omega)⟩, rfl⟩
              case rest =>
                obtain ⟨t0, rfl, ht0, rfl⟩ := hcut
                have HT0 := Lib.hid ht0
                clear ht0 d0 d1 d2
                go_wp2
                go_loop [12, 73] (fun g i => ∃ (j : Nat) (t : Bool), g = .bool t ∧ i = .int .i64 j ∧ j ≤ ds.length ∧ (t = true ↔ (x.1 < 0 ∨ x.2.1 < -1) ∨ ∃ d ∈ ds.take j, d = x.1)) (fun _ i => ds.length - (intOf i).toNat)
                case atStart => exact ⟨0, t0, rfl, rfl, by omega, by rw [HT0.out]; simp⟩
                case round =>
                  obtain ⟨j, t, rfl, rfl, hj, ht⟩ := hrel
                  have HT := Lib.hid ht
                  clear ht
                  by_cases hltj : j < ds.length
                  · obtain ⟨ad, rfl, hcd⟩ := (HD.out.fr hf3' (fun _ _ h => h)).at_ hltj
                    have htj := Lib.hid (take_snoc hltj)
                    cases t with
                    | true =>
                      go_wp2
                      go_round
                      case rel => exact ⟨j + 1, true, rfl, by go_num, by omega, still_hit htj.out HT.out⟩
                      case measure => simp [intOf]; omega
                    | false =>
                      by_cases he : ds[j] = x.1
                      · have hb : (ds[j] == x.1) = true := by simp [he]
                        have HE := Lib.hid he
                        clear he
                        go_wp2
                        go_round
                        case rel => exact ⟨j + 1, true, rfl, by go_num, by omega, now_hit htj.out HE.out⟩
                        case measure => simp [intOf]; omega
                      · have hb : (ds[j] == x.1) = false := by simp [he]
                        have HE := Lib.hid he
                        clear he
                        go_wp2
                        go_round
                        case rel => exact ⟨j + 1, false, rfl, by go_num, by omega, not_hit htj.out HT.out HE.out⟩
                        case measure => simp [intOf]; omega
                  · have ht2 := HT.out
                    rw [List.take_of_length_le (by omega)] at ht2
                    have HT2 := Lib.hid ht2
                    clear ht2
                    cases t with
                    | true =>
                      have hk : keep ds x = false := by
                        cases hkk : keep ds x
                        · rfl
                        · have h3 := keep_iff.1 hkk
                          rcases HT2.out.1 rfl with h | ⟨d, hd, e⟩
                          · omega
                          · exact absurd e (h3.2.2 d hd)
                      have HK := Lib.hid hk
                      clear hk
                      go_wp2
                      go_roundw
                      case rel => exact ⟨k3 + 1, by go_num, by omega, ns3, hp3', by rw [HW3.out, hfd.out, HK.out]; simp, hf3'⟩
                      case measure => simp [intOf]; omega
                    | false =>
                      have hk : keep ds x = true := by
                        cases hkk : keep ds x
                        · have := HT2.out.2 (by exact (not_keep hkk).elim (fun h => .inl (.inl h)) (fun h => h.elim (fun h => .inl (.inr h)) .inr))
                          cases this
                        · rfl
                      obtain ⟨s, r, rfl, hsx, hr⟩ : ∃ s r, ns3 = s :: r ∧ s.2 = x ∧ who r = (l.drop (k3 + 1)).filter (keep ds) := by
                        have e := HW3.out
                        rw [hfd.out, hk] at e
                        cases ns3 with
                        | nil => simp [who] at e
                        | cons s r => exact ⟨s, r, rfl, by simp [who] at e; exact e.1, by simp [who] at e; simpa [who] using e.2⟩
                      have HR := Lib.hid hr
                      clear hr hk
                      subst hsx
                      have hne : wr.heap.size ≠ w.heap.size := by have := hp3.lt; omega
                      go_wp2_with (go_at_call 12; refine (take_some hp3').mono ?_; rintro e w5 ⟨rfl, hp5, hf5⟩
                                   have hb5 := hbW.fr hf5 hne
                                   have k0 : w5.cell? ⟨wr.heap.size, 0, none⟩ = some (.int .i64 s.2.1) := hb5.cell 0
                                   have k1 : w5.cell? ⟨wr.heap.size, 1, none⟩ = some (.int .i64 s.2.2.1) := hb5.cell 1
                                   have k2 : w5.cell? ⟨wr.heap.size, 2, none⟩ = some (.int .i64 s.2.2.2) := hb5.cell 2
                                   have hlt5 := hb5.lt)
                      go_roundw
                      case rel => exact ⟨k3 + 1, by go_num, by omega, r, hp5.no ((Fr.refl No w5).alloc _), HR.out, (hf3'.only_new (Nat.le_refl _) hf5).alloc _⟩
                      case measure => simp [intOf]; omega
            · rw [List.drop_eq_nil_of_le (by omega)] at hw3
              have hnil : ns3 = [] := by simpa [who] using hw3
              subst hnil
              clear hw3
              go_wp2_with (first
                | (go_at_call 12; refine (take_none hp3).mono ?_; rintro e w5 ⟨rfl, hf5⟩)
                | (go_at_call 9; refine (three_any _).mono ?_; rintro e w6 ⟨rfl, hf6⟩))
              go_ret
              exact ⟨rfl, ((hf3.trans hf5).alloc _).trans hf6⟩

set_option maxRecDepth 100000 in
theorem pewOrder_lifted (os : Os) (started : os.Started) (H : Type) (enc : TypeId × Value → H) :
    ReturnsInHanded {} Try.checked os 3 .any (Rows.pewOrderSpec.pre6 enc Try.prog Try.f3 Rows.pewOrderRow.domain false) (Rows.pewOrderSpec.post enc Try.prog Try.f3 false true false false) := by
  refine law_of_walk Try.underlying4 started H enc Try.func3 (by kernel_rfl) rfl rfl
    (ChangeSpec.witness6 (enc := enc) (C := Try.checked) false ⟨#[], #[.slice none 0 0, .slice none 0 0], []⟩ 8 (by kernel_rfl) (by kernel_rfl) (by kernel_rfl) (by kernel_rfl)) ?_ ?_ ?_
  · intro ds hl
    match ds, hl with
    | [d0, d1], _ => rfl
  · rw [Try.params3]
    simp only [List.mem_cons, List.not_mem_nil, or_false, forall_eq_or_imp, forall_eq]
    exact ⟨⟨by kernel_rfl, of_decide_eq_true (by kernel_rfl)⟩, ⟨by kernel_rfl, of_decide_eq_true (by kernel_rfl)⟩⟩
  · intro W base args ds p hval hA hlt _
    rw [Try.params3] at hA hval
    obtain ⟨v0, vs0, d0, ds0, p0, q0, hargs, rfl, rfl, h0, r0⟩ := trodAll_cons hA
    obtain ⟨v1, vs1, d1, ds1, p1, q1, rfl, rfl, rfl, h1, r1⟩ := trodAll_cons r0
    obtain ⟨rfl, rfl, rfl⟩ := trodAll_nil r1
    obtain rfl : args = #[v0, v1] := by cases args; simp_all
    obtain ⟨A0, n0, c0, F0, rfl, hl0, hm0, hw0, hc0⟩ := open_structs Try.underlying22 Try.underlying28 (by kernel_rfl) (by kernel_rfl) (by decide) (by
      intro j f hj
      match j, hj with
      | 0, hj => cases hj; exact Try.underlying3
      | 1, hj => cases hj; exact Try.underlying3
      | 2, hj => cases hj; exact Try.underlying3) (hval 0 22 v0 rfl rfl) h0
    unfold maxLen at hm0
    obtain ⟨A1, c1, xs1, rfl, hl1, hm1, hw1, hc1⟩ := open_list Try.underlying23 Try.underlying3 (by kernel_rfl) (hval 1 23 v1 rfl rfl) h1
    unfold maxLen at hm1
    have hi1 : Ints W A1 xs1 := by
      intro h
      obtain ⟨b, off, e, hb, hc⟩ := hc1 h
      exact ⟨_, e, hb, fun j x hx => by rw [add_at]; exact hc j x hx⟩
    by_cases h : 300 < n0 ∨ 300 < xs1.length
    · exact pewOrder_long A0 A1 n0 c0 _ c1 W h (by omega) (by omega)
    · have := pewOrder_good A0 A1 c0 c1 (trips n0 F0) xs1 W (by rw [trips_len]; omega) (by omega) (trip_arg hc0) hi1
      rw [trips_len] at this
      exact this

theorem pewOrder_holds : Rows.PewOrderSaid :=
  OpenClaim.holds_of_wide 3 Try.f3 rfl rfl rfl rfl rfl rfl rfl ⟨rfl, rfl, rfl, rfl, rfl⟩ rfl rfl rfl rfl rfl (by kernel_rfl) Try.func3 (by kernel_rfl)
    (of_decide_eq_true (by kernel_rfl)) (by unfold Func.isWrapper; first | (rw [if_pos (by decide +kernel)]; kernel_rfl) | (rw [if_neg (by decide +kernel)]; exact ⟨rfl, rfl⟩))
    (fun os started H enc _ => pewOrder_lifted os started H enc)
#print axioms pewOrder_holds
end Go.Proofs.Ytbmobikhfcmgjaa
