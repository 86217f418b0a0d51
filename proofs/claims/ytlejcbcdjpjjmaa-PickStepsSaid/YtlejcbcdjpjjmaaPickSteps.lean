/- PickSteps: for every plan, draws and list of steps, the program's cursor gives the next entry, the draw and what is left as the document's does; no condition. -/
import Derived.Test.YtlejcbcdjpjjmaaE
import Derived.Test.YtlejcbcdjpjjmaaO
namespace Go.Proofs.Ytlejcbcdjpjjmaa
open Go.RowKit Go.WideShapes Go.ChangeShapes Go.ChangeAt

theorem left_len {g : Nat} {P D : List Int} {w : World} (h : CurIs w g P D) (a b : Nat) (ha : P.length = a) (hb : D.length = b) : Calls Try.prog 16 #[.pointer (some ⟨g, 0, none⟩)] w fun e w' => e = .returned (.tuple #[.int .i64 a, .int .i64 b]) ∧ ∃ n, w' = w.drewN n := by
  subst ha
  subst hb
  exact left_any h

/-- New and the document's give none, and the same error -/
theorem both_no (A B : Option Addr) (c d : Nat) (xs ys : List Int) (w : World) (ln : xs.length ≤ 9223372036854775807) (lm : ys.length ≤ 9223372036854775807) (hx : Ints w A xs) (hy : Ints w B ys)
    (h : ¬ (xs.length ≤ 200 ∧ ys.length ≤ 64 ∧ (∀ x ∈ xs, badB (-1) x = false) ∧ ∀ y ∈ ys, badB 0 y = false)) :
    ∃ r : Int, Calls Try.prog 10 #[.slice A xs.length c, .slice B ys.length d] w (fun e w' => e = .returned (.tuple #[.pointer none, .int .i64 r]) ∧ Fr No w w') ∧
      ∀ w1, Fr No w w1 → Calls Try.prog 11 #[.slice A xs.length c, .slice B ys.length d] w1 (RNew r w1) := by
  by_cases h0 : 200 < xs.length ∨ 64 < ys.length
  · exact ⟨2, (new_long A B _ c _ d w h0 ln lm).mono fun e w' ⟨he, hw⟩ => ⟨he, hw ▸ Fr.refl _ _⟩, fun w1 _ => rnew_long A B _ c _ d w1 h0 ln lm⟩
  · by_cases h1 : ∃ x ∈ xs, badB (-1) x = true
    · exact ⟨4, (new_badplan A B c _ d xs w (by omega) (by omega) hx h1).mono fun e w' ⟨he, hf⟩ => ⟨he, hf⟩, fun w1 hf => rnew_badplan A B c _ d xs w1 (by omega) (by omega) (hx.fr hf (fun _ _ h => h)) h1⟩
    · have h1' : ∀ x ∈ xs, badB (-1) x = false := fun x hx => by
        cases hb : badB (-1) x
        · rfl
        · exact absurd ⟨x, hx, hb⟩ h1
      by_cases h2 : ∃ y ∈ ys, badB 0 y = true
      · exact ⟨4, (new_baddraws A B c d xs ys w (by omega) (by omega) hx hy h1' h2).mono fun e w' ⟨he, hf⟩ => ⟨he, hf⟩, fun w1 hf => rnew_baddraws A B c d xs ys w1 (by omega) (by omega) (hx.fr hf (fun _ _ h => h)) (hy.fr hf (fun _ _ h => h)) h1' h2⟩
      · exact absurd ⟨by omega, by omega, h1', fun y hy => by
          cases hb : badB 0 y
          · rfl
          · exact absurd ⟨y, hy, hb⟩ h2⟩ h

set_option maxHeartbeats 1000000 in
theorem pickSteps_no (A B C : Option Addr) (c d n o : Nat) (xs ys : List Int) (w : World) (ln : xs.length ≤ 9223372036854775807) (lm : ys.length ≤ 9223372036854775807) (hx : Ints w A xs) (hy : Ints w B ys)
    (h : ¬ (xs.length ≤ 200 ∧ ys.length ≤ 64 ∧ (∀ x ∈ xs, badB (-1) x = false) ∧ ∀ y ∈ ys, badB 0 y = false)) : Calls Try.prog 4 #[.slice A xs.length c, .slice B ys.length d, .slice C n o] w (Truly w) := by
  obtain ⟨r, h1, h2⟩ := both_no A B c d xs ys w ln lm hx hy h
  have H1 := Lib.hid h1
  have H2 := Lib.hid h2
  clear h h1 h2
  go_enter Try.func4, Try.ntmps4
  go_wp2_with (first
    | (go_at_call 10; refine (Hid.out H1).mono ?_; rintro e w1 ⟨rfl, hf1⟩)
    | (go_at_call 11; refine (Hid.out H2 _ hf1).mono ?_; rintro e w' ⟨rfl, rfl⟩)
    | (go_at_call 8; refine (draws_any _).mono ?_; rintro e w' ⟨rfl, hf⟩))
  go_ret
  exact ⟨rfl, hf1.trans hf⟩

/-- the state of a round's head -/
def PS (w0 : World) (g h : Nat) (A : Option Addr) (c : Nat) (xs : List Int) (B : Option Addr) (d : Nat) (ys : List Int) (wr : World) : Prop :=
  ∃ p q, CurIs wr g (xs.drop p) (ys.drop q) ∧ RefIs wr h A c xs B d ys p q ∧ p ≤ xs.length ∧ q ≤ ys.length ∧ Fr No w0 wr

theorem RefIs.cur {w w' : World} {g h c d p q : Nat} {A B : Option Addr} {xs ys P D : List Int} (hr : RefIs w h A c xs B d ys p q) (hc : CurIs w g P D) (hf : Fr (Only g) w w') : RefIs w' h A c xs B d ys p q := by
  obtain ⟨_, _, _, _, hb, _⟩ := hc
  exact hr.fr hf fun e => Blk.ne_ hr hb (by decide) e
theorem CurIs.ref {w w' : World} {g h c d p q : Nat} {A B : Option Addr} {xs ys P D : List Int} (hc : CurIs w g P D) (hr : RefIs w h A c xs B d ys p q) (hf : Fr (Only h) w w') : CurIs w' g P D := by
  obtain ⟨Ap, cp, Ad, cd, h1, h2, h3, h4, h5, h6, h7⟩ := hc
  exact ⟨Ap, cp, Ad, cd, h1.fr hf (fun e => h1.ne_ hr (by decide) e), h2, h3, h4, h5, h6.only hr (by decide) hf, h7.only hr (by decide) hf⟩
theorem RefIs.no {w w' : World} {h c d p q : Nat} {A B : Option Addr} {xs ys : List Int} (hr : RefIs w h A c xs B d ys p q) (hf : Fr No w w') : RefIs w' h A c xs B d ys p q := hr.fr hf (fun h => h)

set_option maxRecDepth 100000 in
set_option maxHeartbeats 4000000 in
theorem pickSteps_good (A B C : Option Addr) (c d o : Nat) (xs ys zs : List Int) (w : World) (hx : Ints w A xs) (hy : Ints w B ys) (hz : Ints w C zs)
    (l1 : xs.length ≤ 200) (l2 : ys.length ≤ 64) (l3 : zs.length ≤ 500) (g1 : ∀ x ∈ xs, badB (-1) x = false) (g2 : ∀ y ∈ ys, badB 0 y = false) : Calls Try.prog 4 #[.slice A xs.length c, .slice B ys.length d, .slice C zs.length o] w (Truly w) := by
  have G1 := Lib.hid g1
  have G2 := Lib.hid g2
  have GY := Lib.hid (show ∀ y ∈ ys, 0 ≤ y from fun y hy => (good_cases (g2 y hy)).1)
  have nx := Lib.hid hx
  have ny := Lib.hid hy
  clear g1 g2
  go_enter Try.func4, Try.ntmps4
  go_wp2_with (first
    | (go_at_call 10; refine (new_good A B _ _ c d xs ys _ rfl rfl l1 l2 hx hy G1.out G2.out).mono ?_; rintro e w1 ⟨g, rfl, hc1, hf1, hg1⟩)
    | (go_at_call 11; refine (rnew_good A B c d xs ys _ l1 l2 (hx.fr hf1 (fun _ _ h => h)) (hy.fr hf1 (fun _ _ h => h)) G1.out G2.out).mono ?_; rintro e w2 ⟨rfl, hr2, hf2⟩))
  have hc2 := hc1.no hf2
  have hf12 := hf1.trans hf2
  have hs1 := hf1.size
  go_loopw [55] (fun i wr => ∃ k : Nat, i = .int .i64 k ∧ k ≤ zs.length ∧ PS w g w1.heap.size A c xs B d ys wr) (fun i _ => zs.length - (intOf i).toNat)
  case atStart => exact ⟨0, rfl, by omega, 0, 0, hc2, hr2, by omega, by omega, hf12⟩
  case round =>
    obtain ⟨k, rfl, hk, p, q, hc, hr, hp, hq, hf⟩ := hrel
    clear hc1 hr2 hc2 hf1 hf2 hf12 hx hy
    by_cases hlt : k < zs.length
    · obtain ⟨ad, rfl, hcell⟩ := (hz.fr hf (fun _ _ h => h)).at_ hlt
      clear hz
      generalize hv : zs[k] = z at hcell
      clear hv
      by_cases hz0 : 0 ≤ z
      · go_upto_if 60 with fail
        go_cut [13] (fun _ wx => PS w g w1.heap.size A c xs B d ys wx)
        case first =>
          by_cases hb : z < 1 ∨ 64 < z
          · have HB := Lib.hid hb
            clear hb
            go_wp2_with (first
              | (go_at_call 12; refine (draw_bad _ z _ HB.out).mono ?_; rintro e w' ⟨rfl, rfl⟩)
              | (go_at_call 13; refine (rdraw_bad _ z _ HB.out).mono ?_; rintro e w' ⟨rfl, rfl⟩))
            go_meet
            case rel => exact ⟨p, q, hc, hr, hp, hq, hf⟩
          · have h64 : z ≤ 64 := by omega
            by_cases h1 : z = 1
            · clear hb
              subst h1
              go_wp2_with (first
                | (go_at_call 12; refine (draw_one g _).mono ?_; rintro e w' ⟨rfl, rfl⟩)
                | (go_at_call 13; refine (rdraw_one _ _).mono ?_; rintro e w' ⟨rfl, n, rfl⟩))
              go_meet
              case rel => exact ⟨p, q, hc.drewN n, hr.no ((Fr.refl No _).drewN n), hp, hq, hf.drewN n⟩
            · have h2 : 2 ≤ z := by omega
              clear hb h1
              by_cases hql : q < ys.length
              · have hc' : CurIs wr g (xs.drop p) (ys[q] :: ys.drop (q + 1)) := drop_cons' hql ▸ hc
                have hyq : 0 ≤ ys[q] := GY.out _ (List.getElem_mem hql)
                have hB : ∀ ad, B = some ad → ad.block ≠ w1.heap.size := by
                  intro ad e
                  obtain ⟨ad', e', hl, _⟩ := ny.out (by omega)
                  rw [e] at e'
                  cases e'
                  omega
                have HBB := Lib.hid hB
                clear hc hB
                go_wp2_with (first
                  | (go_at_call 12; refine (draw_some hc' z h2 h64 hyq).mono ?_; rintro e w3 ⟨rfl, hc3, hf3⟩
                     have hr3 := hr.cur hc' hf3
                     have hf03 := hf.only_new (Nat.le_trans (Nat.le_refl _) hg1) hf3
                     have hy3 := ny.out.fr hf03 (fun _ _ h => h))
                  | (go_at_call 13; refine (rdraw_some hr3 z h2 h64 hy3 hql hyq (by omega) HBB.out).mono ?_; rintro e w4 ⟨rfl, hr4, hf4⟩))
                go_meet
                case rel => exact ⟨p, q + 1, hc3.ref hr3 hf4, hr4, hp, by omega, hf03.only_new hs1 hf4⟩
              · have hqe : q = ys.length := by omega
                have hnil : ys.drop q = [] := List.drop_eq_nil_of_le (by omega)
                have hc' : CurIs wr g (xs.drop p) [] := hnil ▸ hc
                clear hnil
                have hql' : ys.length ≤ q := by omega
                clear hqe hql
                go_wp2_with (first
                  | (go_at_call 12; refine (draw_none hc' z h2 h64).mono ?_; rintro e w' ⟨rfl, rfl⟩)
                  | (go_at_call 13; refine (rdraw_none hr z h2 h64 hql' (by omega)).mono ?_; rintro e w' ⟨rfl, n, rfl⟩))
                go_meet
                case rel => exact ⟨p, q, hc.drewN n, hr.no ((Fr.refl No _).drewN n), hp, hq, hf.drewN n⟩
        case rest =>
          obtain ⟨p2, q2, hc2, hr2, hp2, hq2, hf2⟩ := hcut
          clear hc hr hf hcell
          obtain ⟨a, ha⟩ : ∃ a, (xs.drop p2).length = a := ⟨_, rfl⟩
          obtain ⟨b, hb⟩ : ∃ b, (ys.drop q2).length = b := ⟨_, rfl⟩
          have ea : IntKind.i64.wrap ((xs.length : Int) - p2) = a := by
            rw [List.length_drop] at ha
            have := IntWalk.i64_in ((xs.length : Int) - p2) (by omega)
            rw [this]
            omega
          have eb : IntKind.i64.wrap ((ys.length : Int) - q2) = b := by
            rw [List.length_drop] at hb
            have := IntWalk.i64_in ((ys.length : Int) - q2) (by omega)
            rw [this]
            omega
          have HA := Lib.hid ha
          have HB := Lib.hid hb
          have EA := Lib.hid ea
          have EB := Lib.hid eb
          have f0 : wc.cell? ⟨w1.heap.size, 0, none⟩ = some (.slice A xs.length c) := hr2.cell 0
          have f1 : wc.cell? ⟨w1.heap.size, 1, none⟩ = some (.slice B ys.length d) := hr2.cell 1
          have f2 : wc.cell? ⟨w1.heap.size, 2, none⟩ = some (.int .i64 p2) := hr2.cell 2
          have f3 : wc.cell? ⟨w1.heap.size, 3, none⟩ = some (.int .i64 q2) := hr2.cell 3
          clear ha hb ea eb
          go_wp2_with (go_at_call 16; refine (left_len hc2 a b HA.out HB.out).mono ?_; rintro e w' ⟨rfl, m, rfl⟩)
          have ea := EA.out
          have eb := EB.out
          go_quiet (fail)
          rename_i nq
          clear ea eb
          go_wp2
          go_roundw
          case rel => exact ⟨k + 1, by go_num, by omega, p2, q2, hc2.drewN _, hr2.no ((Fr.refl No _).drewN _), hp2, hq2, hf2.drewN _⟩
          case measure => simp [intOf]; omega
      · have hzn : z < 0 := by omega
        clear hz0
        go_upto_if 60 with fail
        go_cut [13] (fun _ wx => PS w g w1.heap.size A c xs B d ys wx)
        case first =>
          by_cases hpl : p < xs.length
          · have hc' : CurIs wr g (xs[p] :: xs.drop (p + 1)) (ys.drop q) := drop_cons' hpl ▸ hc
            have hA : ∀ ad, A = some ad → ad.block ≠ w1.heap.size := by
              intro ad e
              obtain ⟨ad', e', hl, _⟩ := nx.out (by omega)
              rw [e] at e'
              cases e'
              omega
            have HAA := Lib.hid hA
            clear hc hA
            go_wp2_with (first
              | (go_at_call 14; refine (next_some hc').mono ?_; rintro e w3 ⟨rfl, hc3, hf3⟩
                 have hr3 := hr.cur hc' hf3
                 have hf03 := hf.only_new (Nat.le_trans (Nat.le_refl _) hg1) hf3
                 have hx3 := nx.out.fr hf03 (fun _ _ h => h))
              | (go_at_call 15; refine (rnext_some hr3 hx3 hpl (by omega) HAA.out).mono ?_; rintro e w4 ⟨rfl, hr4, hf4⟩))
            go_meet
            case rel => exact ⟨p + 1, q, hc3.ref hr3 hf4, hr4, by omega, hq, hf03.only_new hs1 hf4⟩
          · have hnil : xs.drop p = [] := List.drop_eq_nil_of_le (by omega)
            have hc' : CurIs wr g [] (ys.drop q) := hnil ▸ hc
            have hpl' : xs.length ≤ p := by omega
            clear hnil hpl
            go_wp2_with (first
              | (go_at_call 14; refine (next_none hc').mono ?_; rintro e w' ⟨rfl, rfl⟩)
              | (go_at_call 15; refine (rnext_none hr hpl' (by omega)).mono ?_; rintro e w' ⟨rfl, n, rfl⟩))
            go_meet
            case rel => exact ⟨p, q, hc.drewN n, hr.no ((Fr.refl No _).drewN n), hp, hq, hf.drewN n⟩
        case rest =>
          obtain ⟨p2, q2, hc2, hr2, hp2, hq2, hf2⟩ := hcut
          clear hc hr hf hcell
          obtain ⟨a, ha⟩ : ∃ a, (xs.drop p2).length = a := ⟨_, rfl⟩
          obtain ⟨b, hb⟩ : ∃ b, (ys.drop q2).length = b := ⟨_, rfl⟩
          have ea : IntKind.i64.wrap ((xs.length : Int) - p2) = a := by
            rw [List.length_drop] at ha
            have := IntWalk.i64_in ((xs.length : Int) - p2) (by omega)
            rw [this]
            omega
          have eb : IntKind.i64.wrap ((ys.length : Int) - q2) = b := by
            rw [List.length_drop] at hb
            have := IntWalk.i64_in ((ys.length : Int) - q2) (by omega)
            rw [this]
            omega
          have HA := Lib.hid ha
          have HB := Lib.hid hb
          have EA := Lib.hid ea
          have EB := Lib.hid eb
          have f0 : wc.cell? ⟨w1.heap.size, 0, none⟩ = some (.slice A xs.length c) := hr2.cell 0
          have f1 : wc.cell? ⟨w1.heap.size, 1, none⟩ = some (.slice B ys.length d) := hr2.cell 1
          have f2 : wc.cell? ⟨w1.heap.size, 2, none⟩ = some (.int .i64 p2) := hr2.cell 2
          have f3 : wc.cell? ⟨w1.heap.size, 3, none⟩ = some (.int .i64 q2) := hr2.cell 3
          clear ha hb ea eb
          go_wp2_with (go_at_call 16; refine (left_len hc2 a b HA.out HB.out).mono ?_; rintro e w' ⟨rfl, m, rfl⟩)
          have ea := EA.out
          have eb := EB.out
          go_quiet (fail)
          rename_i nq
          clear ea eb
          go_wp2
          go_roundw
          case rel => exact ⟨k + 1, by go_num, by omega, p2, q2, hc2.drewN _, hr2.no ((Fr.refl No _).drewN _), hp2, hq2, hf2.drewN _⟩
          case measure => simp [intOf]; omega
    · clear hz
      go_wp2_with (go_at_call 8; refine (draws_any _).mono ?_; rintro e w5 ⟨rfl, hf5⟩)
      go_ret
      exact ⟨rfl, hf.trans hf5⟩

set_option maxHeartbeats 1000000 in
theorem pickSteps_long (A B C : Option Addr) (c d n o : Nat) (xs ys : List Int) (w : World) (hx : Ints w A xs) (hy : Ints w B ys)
    (l1 : xs.length ≤ 200) (l2 : ys.length ≤ 64) (l3 : 500 < n) (hn : n ≤ 9223372036854775807) (g1 : ∀ x ∈ xs, badB (-1) x = false) (g2 : ∀ y ∈ ys, badB 0 y = false) : Calls Try.prog 4 #[.slice A xs.length c, .slice B ys.length d, .slice C n o] w (Truly w) := by
  have G1 := Lib.hid g1
  have G2 := Lib.hid g2
  clear g1 g2
  go_enter Try.func4, Try.ntmps4
  go_wp2_with (first
    | (go_at_call 10; refine (new_good A B _ _ c d xs ys _ rfl rfl l1 l2 hx hy G1.out G2.out).mono ?_; rintro e w1 ⟨g, rfl, hc1, hf1, hg1⟩)
    | (go_at_call 11; refine (rnew_good A B c d xs ys _ l1 l2 (hx.fr hf1 (fun _ _ h => h)) (hy.fr hf1 (fun _ _ h => h)) G1.out G2.out).mono ?_; rintro e w2 ⟨rfl, hr2, hf2⟩)
    | (go_at_call 8; refine (draws_any _).mono ?_; rintro e w5 ⟨rfl, hf5⟩))
  go_ret
  exact ⟨rfl, (hf1.trans hf2).trans hf5⟩

set_option maxRecDepth 100000 in
theorem pickSteps_lifted (os : Os) (started : os.Started) (H : Type) (enc : TypeId × Value → H) :
    ReturnsInHanded {} Try.checked os 4 .any (Rows.pickStepsSpec.pre6 enc Try.prog Try.f4 Rows.pickStepsRow.domain false) (Rows.pickStepsSpec.post enc Try.prog Try.f4 false true false false) := by
  refine law_of_walk Try.underlying4 started H enc Try.func4 (by kernel_rfl) rfl rfl
    (ChangeSpec.witness6 (enc := enc) (C := Try.checked) false ⟨#[], #[.slice none 0 0, .slice none 0 0, .slice none 0 0], []⟩ 8 (by kernel_rfl) (by kernel_rfl) (by kernel_rfl) (by kernel_rfl)) ?_ ?_ ?_
  · intro ds hl
    match ds, hl with
    | [d0, d1, d2], _ => rfl
  · rw [Try.params4]
    simp only [List.mem_cons, List.not_mem_nil, or_false, forall_eq_or_imp, forall_eq]
    exact ⟨⟨by kernel_rfl, of_decide_eq_true (by kernel_rfl)⟩, ⟨by kernel_rfl, of_decide_eq_true (by kernel_rfl)⟩, ⟨by kernel_rfl, of_decide_eq_true (by kernel_rfl)⟩⟩
  · intro W base args ds p hval hA hlt _
    rw [Try.params4] at hA hval
    obtain ⟨v0, vs0, d0, ds0, p0, q0, hargs, rfl, rfl, h0, r0⟩ := trodAll_cons hA
    obtain ⟨v1, vs1, d1, ds1, p1, q1, rfl, rfl, rfl, h1, r1⟩ := trodAll_cons r0
    obtain ⟨v2, vs2, d2, ds2, p2, q2, rfl, rfl, rfl, h2, r2⟩ := trodAll_cons r1
    obtain ⟨rfl, rfl, rfl⟩ := trodAll_nil r2
    obtain rfl : args = #[v0, v1, v2] := by cases args; simp_all
    obtain ⟨A0, c0, xs0, rfl, hl0, hm0, hw0, hc0⟩ := open_list Try.underlying22 Try.underlying3 (by kernel_rfl) (hval 0 22 v0 rfl rfl) h0
    unfold maxLen at hm0
    obtain ⟨A1, c1, xs1, rfl, hl1, hm1, hw1, hc1⟩ := open_list Try.underlying22 Try.underlying3 (by kernel_rfl) (hval 1 22 v1 rfl rfl) h1
    unfold maxLen at hm1
    obtain ⟨A2, c2, xs2, rfl, hl2, hm2, hw2, hc2⟩ := open_list Try.underlying22 Try.underlying3 (by kernel_rfl) (hval 2 22 v2 rfl rfl) h2
    unfold maxLen at hm2
    have hi0 : Ints W A0 xs0 := by
      intro h
      obtain ⟨b, off, e, hb, hc⟩ := hc0 h
      exact ⟨_, e, hb, fun j x hx => by rw [add_at]; exact hc j x hx⟩
    have hi1 : Ints W A1 xs1 := by
      intro h
      obtain ⟨b, off, e, hb, hc⟩ := hc1 h
      exact ⟨_, e, hb, fun j x hx => by rw [add_at]; exact hc j x hx⟩
    have hi2 : Ints W A2 xs2 := by
      intro h
      obtain ⟨b, off, e, hb, hc⟩ := hc2 h
      exact ⟨_, e, hb, fun j x hx => by rw [add_at]; exact hc j x hx⟩
    by_cases h : xs0.length ≤ 200 ∧ xs1.length ≤ 64 ∧ (∀ x ∈ xs0, badB (-1) x = false) ∧ ∀ y ∈ xs1, badB 0 y = false
    · by_cases hn : xs2.length ≤ 500
      · exact pickSteps_good A0 A1 A2 c0 c1 c2 xs0 xs1 xs2 W hi0 hi1 hi2 h.1 h.2.1 hn h.2.2.1 h.2.2.2
      · exact pickSteps_long A0 A1 A2 c0 c1 _ c2 xs0 xs1 W hi0 hi1 h.1 h.2.1 (by omega) (by omega) h.2.2.1 h.2.2.2
    · exact pickSteps_no A0 A1 A2 c0 c1 _ c2 xs0 xs1 W (by omega) (by omega) hi0 hi1 h

theorem pickSteps_holds : Rows.PickStepsSaid :=
  OpenClaim.holds_of_wide 4 Try.f4 rfl rfl rfl rfl rfl rfl rfl ⟨rfl, rfl, rfl, rfl, rfl⟩ rfl rfl rfl rfl rfl (by kernel_rfl) Try.func4 (by kernel_rfl)
    (of_decide_eq_true (by kernel_rfl)) (by unfold Func.isWrapper; first | (rw [if_pos (by decide +kernel)]; kernel_rfl) | (rw [if_neg (by decide +kernel)]; exact ⟨rfl, rfl⟩))
    (fun os started H enc _ => pickSteps_lifted os started H enc)
#print axioms pickSteps_holds
end Go.Proofs.Ytlejcbcdjpjjmaa
