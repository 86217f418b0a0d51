/- RingOrder: for every size and every list of steps, what is popped or turned out of a ring was pushed, in that order: with what is still there it is all that was pushed; no condition. -/
import Derived.Test.YtiebkndefjbgjaaD
import Derived.Test.YtiebkndefjbgjaaO
namespace Go.Proofs.Ytiebkndefjbgjaa
open Go.RowKit Go.WideShapes Go.ChangeShapes Go.ChangeAt

/-- the argument: steps, two whole numbers each -/
def Steps (w : World) (A : Option Addr) (l : List (Int × Int)) : Prop :=
  0 < l.length → ∃ b off, A = some ⟨b, off, none⟩ ∧ b < w.heap.size ∧ ∀ j p, l[j]? = some p → w.cell? ⟨b, off + j * 2, none⟩ = some (.int .i64 p.1) ∧ w.cell? ⟨b, off + j * 2 + 1, none⟩ = some (.int .i64 p.2)
theorem Steps.at_ {w w' : World} {A : Option Addr} {l : List (Int × Int)} (h : Steps w A l) (hf : Fr No w w') {k : Nat} (hk : k < l.length) : ∃ b off, A = some ⟨b, off, none⟩ ∧ b < w'.heap.size ∧ w'.cell? ⟨b, off + k * 2, none⟩ = some (.int .i64 l[k].1) ∧ w'.cell? ⟨b, off + k * 2 + 1, none⟩ = some (.int .i64 l[k].2) := by
  obtain ⟨b, off, h1, h2, h3⟩ := h (by omega)
  have := h3 k _ (List.getElem?_eq_getElem hk)
  exact ⟨b, off, h1, Nat.lt_of_lt_of_le h2 hf.size, (hf.cell h2 (fun h => h)).trans this.1, (hf.cell h2 (fun h => h)).trans this.2⟩

def Apart (u v : Value) : Prop := ∀ b, u.ownBlock = some b → v.ownBlock ≠ some b

def St (w0 : World) (s k : Nat) (vp va : Value) (wr : World) : Prop :=
  ∃ P A R, RingIs wr w0.heap.size s R ∧ Own 3 w0.heap.size wr vp P ∧ Own 3 w0.heap.size wr va A ∧ P = A ++ R ∧ P.length ≤ k ∧ Apart vp va ∧ Fr No w0 wr

theorem RingIs.blk {w : World} {g s : Nat} {L : List Int} (h : RingIs w g s L) : ∃ cs, Blk w g 53 cs := by
  obtain ⟨a, f, h1, h2, h3, h4, h5⟩ := h
  exact ⟨_, h4⟩
theorem Own.ring {B : Nat} {w w' : World} {v : Value} {xs : List Int} {g s : Nat} {L : List Int} (h : Own 3 B w v xs) (hr : RingIs w g s L) (hf : Fr (Only g) w w') : Own 3 B w' v xs := by
  obtain ⟨cs, hb⟩ := hr.blk
  exact h.fr hf fun k hk e => h.blk_ne hb (by decide) (by rw [hk]; unfold Only at e; rw [e])
theorem RingIs.apd {B : Nat} {w w' : World} {v v' : Value} {xs ys : List Int} {g s : Nat} {L : List Int} (hr : RingIs w g s L) (h : Own 3 B w v xs) (ha : Apd 3 B w v ys v' w') : RingIs w' g s L := by
  obtain ⟨cs, hb⟩ := hr.blk
  have hne := h.blk_ne hb (by decide)
  obtain ⟨a, f, h1, h2, h3, h4, h5⟩ := hr
  exact ⟨a, f, h1, h2, h3, h4.grown ha.2.1 (fun e => hne e.symm), h5⟩
theorem Own.apd {B B' : Nat} {w w' : World} {u v v' : Value} {xs xs' ys : List Int} (hu : Own 3 B' w u xs) (_h : Own 3 B w v xs') (ha : Apd 3 B w v ys v' w') (hap : Apart u v) : Own 3 B' w' u xs ∧ Apart u v' := by
  refine ⟨World.ownsRow.kept hu ha.2.1 ?_, ?_⟩
  · cases hb : u.ownBlock with
    | none => exact .inl rfl
    | some b => exact .inr (fun e => hap b hb e.symm)
  · intro b hb
    rcases ha.2.2 with e | e
    · rw [e]; exact hap b hb
    · rw [e]
      intro hh
      injection hh with hh
      have := (hu.lt b hb).2
      omega
theorem Apart.symm {u v : Value} (h : Apart u v) : Apart v u := fun b hb he => h b he hb
theorem RingIs.le {w : World} {g s : Nat} {L : List Int} (h : RingIs w g s L) : L.length ≤ s ∧ s ≤ 4 := by
  obtain ⟨a, f, h1, h2, _⟩ := h
  exact ⟨h2, h1⟩

set_option maxHeartbeats 2000000 in
theorem ringOrder_good (s : Nat) (A : Option Addr) (c : Nat) (l : List (Int × Int)) (w : World) (h : s ≤ 4) (hl : l.length ≤ 300) (hA : Steps w A l) : Calls Try.prog 4 #[.int .i64 s, .slice A l.length c] w (Truly w) := by
  go_enter Try.func4, Try.ntmps4
  go_wp2_with (go_at_call 7; refine (new_good _ h).mono ?_; rintro e w1 ⟨rfl, hr1, hf1⟩)
  go_loopw [7, 8, 41] (fun vp va i wr => ∃ k : Nat, i = .int .i64 k ∧ k ≤ l.length ∧ St w s k vp va wr) (fun _ _ i _ => l.length - (intOf i).toNat)
  case atStart => exact ⟨0, rfl, by omega, [], [], [], hr1, Own.nil _ _ _, Own.nil _ _ _, rfl, by simp, (fun _ h => by cases h), hf1⟩
  case round =>
    obtain ⟨k, rfl, hk, P, Al, R, hr, hp, ha, he, hlen, hap, hf⟩ := hrel
    clear hr1 hf1
    have hle := hr.le
    have hglt : ¬ Only w.heap.size wr.heap.size := by have := hr.lt; unfold Only; omega
    have hlP : P.length = Al.length + R.length := by rw [he, List.length_append]
    have HE := Lib.hid he
    have HL := Lib.hid hlP
    have hlA : Al.length ≤ 300 := by omega
    have hszf := hf.size
    clear he hlP
    by_cases hlt : k < l.length
    · obtain ⟨b, off, rfl, hbb, hc1, hc2⟩ := hA.at_ hf hlt
      clear hA
      have hr' := fun o => hr.fr ((Fr.refl No wr).alloc o) (fun h => h)
      have ha' := fun o => ha.alloc o
      have hp' := fun o => hp.alloc o
      have hf' := fun o => hf.alloc o
      by_cases h2 : l[k].1 = 2
      · have H2 : (l[k].1 == 2) = true := by simp [h2]
        clear h2
        cases R with
        | nil =>
          go_wp2_with (go_at_call 12; refine (pop_none (hr' _)).mono ?_; rintro e w' ⟨rfl, rfl⟩)
          go_roundw
          case rel => exact ⟨k + 1, by go_num, by omega, P, Al, [], hr' _, hp' _, ha' _, HE.out, by omega, hap, hf' _⟩
          case measure => simp [intOf]; omega
        | cons x R =>
          go_wp2_with (first
            | (go_at_call 12; refine (pop_some (hr' _)).mono ?_; rintro e w2 ⟨rfl, hr2, hf2⟩)
            | (at_builtin; refine wpList_push1 ints42 rfl (.tmp 55) (.tmp 57) rfl w.heap.size u8 Al x rfl (((ha' _).ring (hr' _) hf2).alloc _) ⟨w2.heap.size, 0, none⟩ 1 rfl (cell_new1 _ _ _) (by omega) (by have := hf2.size; simp at this ⊢; omega) ?_; intro v' w3 hap3))
          have ha2 := ((ha' _).ring (hr' _) hf2).alloc (Obj.cells #[Value.int IntKind.i64 x] 3)
          have hp2 := ((hp' _).ring (hr' _) hf2).alloc (Obj.cells #[Value.int IntKind.i64 x] 3)
          have hp3 := hp2.apd ha2 hap3 hap
          go_roundw
          case rel => exact ⟨k + 1, by go_num, by omega, P, Al ++ [x], R, (hr2.fr ((Fr.refl No w2).alloc _) (fun h => h)).apd ha2 hap3, hp3.1, hap3.1, by rw [HE.out]; simp, by omega, hp3.2, hap3.fr (((hf' _).only_new (Nat.le_refl _) hf2).alloc _) ha2 (Nat.le_refl _)⟩
          case measure => simp [intOf]; omega
      · have H2 : (l[k].1 == 2) = false := by simp [h2]
        clear h2
        by_cases h3 : l[k].1 = 3
        · have H3 : (l[k].1 == 3) = true := by simp [h3]
          clear h3
          cases R with
          | nil =>
            go_wp2_with (go_at_call 14; refine (turn_none (hr' _) _).mono ?_; rintro e w' ⟨rfl, rfl⟩)
            go_roundw
            case rel => exact ⟨k + 1, by go_num, by omega, P, Al, [], hr' _, hp' _, ha' _, HE.out, by omega, hap, hf' _⟩
            case measure => simp [intOf]; omega
          | cons x R =>
            have tok := True.intro
            go_wp2_with (first
              | (go_at_call 14; refine (turn_some (hr' _) _).mono ?_; rintro e w2 ⟨rfl, hr2, hf2⟩)
              | (at_builtin; have _t := tok; refine wpList_push1 ints42 rfl (.tmp 71) (.tmp 73) rfl w.heap.size u8 Al x rfl (((ha' _).ring (hr' _) hf2).alloc _) ⟨w2.heap.size, 0, none⟩ 1 rfl (cell_new1 _ _ _) (by omega) (by have := hf2.size; simp at this ⊢; omega) ?_; intro v' w3 hap3; clear tok
                 have ha2 := ((ha' _).ring (hr' _) hf2).alloc (Obj.cells #[Value.int IntKind.i64 x] 3)
                 have hp2 := ((hp' _).ring (hr' _) hf2).alloc (Obj.cells #[Value.int IntKind.i64 x] 3)
                 have hp3 := hp2.apd ha2 hap3 hap
                 have hr3 := (hr2.fr ((Fr.refl No w2).alloc (Obj.cells #[Value.int IntKind.i64 x] 3)) (fun h => h)).apd ha2 hap3
                 have hf3 := hap3.fr (((hf' _).only_new (Nat.le_refl _) hf2).alloc _) ha2 (Nat.le_refl _)
                 have hB3 := (((Blk.new wr 32 #[.int .i64 l[k].1, .int .i64 l[k].2]).fr hf2 hglt).alloc (Obj.cells #[Value.int IntKind.i64 x] 3)).grown hap3.2.1 (fun e => ha2.blk_ne (((Blk.new wr 32 #[.int .i64 l[k].1, .int .i64 l[k].2]).fr hf2 hglt).alloc _) (by decide) e.symm)
                 have hcv : w3.cell? ⟨wr.heap.size, 1, none⟩ = some (.int .i64 l[k].2) := hB3.cell 1)
              | (at_builtin; refine wpList_push1 ints42 rfl (.tmp 75) (.tmp 78) rfl w.heap.size u7 P l[k].2 rfl (hp3.1.alloc _) ⟨w3.heap.size, 0, none⟩ 1 rfl (cell_new1 _ _ _) (by omega) (by have := hf3.size; simp at this ⊢; omega) ?_; intro v4 w4 hap4))
            have hp4 := hp3.1.alloc (Obj.cells #[Value.int IntKind.i64 l[k].2] 3)
            have ha4 := (hap3.1.alloc (Obj.cells #[Value.int IntKind.i64 l[k].2] 3)).apd hp4 hap4 hp3.2.symm
            go_roundw
            case rel => exact ⟨k + 1, by go_num, by omega, P ++ [l[k].2], Al ++ [x], R ++ [l[k].2], (hr3.fr ((Fr.refl No w3).alloc _) (fun h => h)).apd hp4 hap4, hap4.1, ha4.1, by rw [HE.out]; simp, by simp; omega, ha4.2.symm, hap4.fr (hf3.alloc _) hp4 (Nat.le_refl _)⟩
            case measure => simp [intOf]; omega
        · have H3 : (l[k].1 == 3) = false := by simp [h3]
          clear h3
          by_cases hfull : R.length = s
          · go_wp2_with (go_at_call 10; refine (push_full (hr' _) hfull _).mono ?_; rintro e w' ⟨rfl, rfl⟩)
            go_roundw
            case rel => exact ⟨k + 1, by go_num, by omega, P, Al, R, hr' _, hp' _, ha' _, HE.out, by omega, hap, hf' _⟩
            case measure => simp [intOf]; omega
          · have hroom : R.length < s := by omega
            clear hfull
            go_wp2_with (first
              | (go_at_call 10; refine (push_room (hr' _) hroom _).mono ?_; rintro e w2 ⟨rfl, hr2, hf2⟩
                 have hcv : w2.cell? ⟨wr.heap.size, 1, none⟩ = some (.int .i64 l[k].2) := ((Blk.new wr 32 #[.int .i64 l[k].1, .int .i64 l[k].2]).fr hf2 hglt).cell 1)
              | (at_builtin; refine wpList_push1 ints42 rfl (.tmp 85) (.tmp 88) rfl w.heap.size u7 P l[k].2 rfl (((hp' _).ring (hr' _) hf2).alloc _) ⟨w2.heap.size, 0, none⟩ 1 rfl (cell_new1 _ _ _) (by omega) (by have := hf2.size; simp at this ⊢; omega) ?_; intro v4 w4 hap4))
            have hp4 := ((hp' _).ring (hr' _) hf2).alloc (Obj.cells #[Value.int IntKind.i64 l[k].2] 3)
            have ha4 := (((ha' _).ring (hr' _) hf2).alloc (Obj.cells #[Value.int IntKind.i64 l[k].2] 3)).apd hp4 hap4 hap.symm
            go_roundw
            case rel => exact ⟨k + 1, by go_num, by omega, P ++ [l[k].2], Al, R ++ [l[k].2], (hr2.fr ((Fr.refl No w2).alloc _) (fun h => h)).apd hp4 hap4, hap4.1, ha4.1, by rw [HE.out]; simp, by simp; omega, ha4.2.symm, hap4.fr (((hf' _).only_new (Nat.le_refl _) hf2).alloc _) hp4 (Nat.le_refl _)⟩
            case measure => simp [intOf]; omega
    · clear hA
      go_wp2_with (first
        | (go_at_call 21; refine (list_any hr).mono ?_; rintro e w2 ⟨v, rfl, hown, hf2⟩; obtain ⟨A2, c2, rfl, hi2, hb2⟩ := hown.form
           have ha2 := ha.fr hf2 (fun _ _ h => h)
           have hp2 := hp.fr hf2 (fun _ _ h => h))
        | (at_builtin; refine wpList_pushAll ints42 rfl (.tmp 91) (.tmp 93) rfl w.heap.size u8 Al R rfl ha2 A2 R.length c2 rfl rfl hi2 (by omega) (by have := hf2.size; omega) ?_; intro v3 w3 hap3
           have hp3 := hp2.apd ha2 hap3 hap
           obtain ⟨A3, c3, rfl, hi3, hb3⟩ := hap3.1.form
           obtain ⟨Ap, cp, rfl, hip, hbp⟩ := hp3.1.form)
        | (go_at_call 20; go_must (refine (ints_len A3 Ap _ c3 _ cp (Al ++ R) P _ hi3 hip (by simp) rfl (by omega) (by omega)).mono ?_); rintro e w4 ⟨rfl, n, rfl⟩; rw [decide_eq_true HE.out.symm])
        | (go_at_call 9; refine (two_any _).mono ?_; rintro e w5 ⟨rfl, hf5⟩))
      go_ret
      exact ⟨rfl, ((hap3.fr (hf.trans hf2) ha2 (Nat.le_refl _)).drewN n).trans hf5⟩

set_option maxHeartbeats 1000000 in
theorem ringOrder_bad (s : Int) (A : Option Addr) (n c : Nat) (w : World) (h : s < 0 ∨ 4 < s) : Calls Try.prog 4 #[.int .i64 s, .slice A n c] w (Truly w) := by
  have H := Lib.hid h
  clear h
  go_enter Try.func4, Try.ntmps4
  go_wp2_with (first
    | (go_at_call 7; refine (new_bad _ H.out).mono ?_; rintro e w' ⟨rfl, rfl⟩)
    | (go_at_call 9; refine (two_any _).mono ?_; rintro e w' ⟨rfl, hf⟩))
  go_ret
  exact ⟨rfl, hf⟩

set_option maxHeartbeats 1000000 in
theorem ringOrder_long (s : Nat) (A : Option Addr) (n c : Nat) (w : World) (h : s ≤ 4) (hn : 300 < n) (hm : n ≤ 9223372036854775807) : Calls Try.prog 4 #[.int .i64 s, .slice A n c] w (Truly w) := by
  go_enter Try.func4, Try.ntmps4
  go_wp2_with (first
    | (go_at_call 7; refine (new_good _ h).mono ?_; rintro e w1 ⟨rfl, hr1, hf1⟩)
    | (go_at_call 9; refine (two_any _).mono ?_; rintro e w' ⟨rfl, hf⟩))
  go_ret
  exact ⟨rfl, hf1.trans hf⟩

set_option maxRecDepth 100000 in
theorem ringOrder_lifted (os : Os) (started : os.Started) (H : Type) (enc : TypeId × Value → H) :
    ReturnsInHanded {} Try.checked os 4 .any (Rows.ringOrderSpec.pre6 enc Try.prog Try.f4 Rows.ringOrderRow.domain false) (Rows.ringOrderSpec.post enc Try.prog Try.f4 false true false false) := by
  refine law_of_walk Try.underlying4 started H enc Try.func4 (by kernel_rfl) rfl rfl
    (ChangeSpec.witness6 (enc := enc) (C := Try.checked) false ⟨#[], #[.int .i64 0, .slice none 0 0], []⟩ 8 (by kernel_rfl) (by kernel_rfl) (by kernel_rfl) (by kernel_rfl)) ?_ ?_ ?_
  · intro ds hl
    match ds, hl with
    | [d, d'], _ => rfl
  · rw [Try.params4]
    simp only [List.mem_cons, List.not_mem_nil, or_false, forall_eq_or_imp, forall_eq]
    exact ⟨⟨by kernel_rfl, of_decide_eq_true (by kernel_rfl)⟩, ⟨by kernel_rfl, of_decide_eq_true (by kernel_rfl)⟩⟩
  · intro W base args ds p hval hA hlt _
    rw [Try.params4] at hA hval
    obtain ⟨v0, vs0, d0, ds0, p0, q0, hargs, rfl, rfl, h0, r0⟩ := trodAll_cons hA
    obtain ⟨v1, vs1, d1, ds1, p1, q1, rfl, rfl, rfl, h1, r1⟩ := trodAll_cons r0
    obtain ⟨rfl, rfl, rfl⟩ := trodAll_nil r1
    obtain rfl : args = #[v0, v1] := by cases args; simp_all
    obtain ⟨a0, rfl, rfl, rfl, w0⟩ := open_int Try.underlying3 (hval 0 3 v0 rfl rfl) h0
    obtain ⟨A, n, c, F, rfl, hnc, hcm, hw, hcell⟩ := open_structs Try.underlying22 Try.underlying32 (by kernel_rfl) (by kernel_rfl) (by decide) (by
      intro j f hj
      match j, hj with
      | 0, hj => cases hj; exact Try.underlying3
      | 1, hj => cases hj; exact Try.underlying3) (hval 1 22 v1 rfl rfl) h1
    unfold maxLen at hcm
    by_cases h : a0 < 0 ∨ 4 < a0
    · exact ringOrder_bad a0 A n c W h
    · obtain ⟨s, rfl⟩ : ∃ s : Nat, a0 = s := ⟨a0.toNat, by omega⟩
      by_cases hn : 300 < n
      · exact ringOrder_long s A n c W (by omega) hn (by omega)
      · have hl : (pairs n F).length = n := by simp [pairs]
        have hs : Steps W A (pairs n F) := by
          intro h0
          rw [hl] at h0
          obtain ⟨b, off, e, hb, hc⟩ := hcell h0
          refine ⟨b, off, e, hb, fun j p hp => ?_⟩
          obtain ⟨hj, rfl⟩ := pairs_at hp
          exact ⟨hc j 0 hj (by decide), hc j 1 hj (by decide)⟩
        have := ringOrder_good s A c (pairs n F) W (by omega) (by omega) hs
        rw [hl] at this
        exact this

theorem ringOrder_holds : Rows.RingOrderSaid :=
  OpenClaim.holds_of_wide 4 Try.f4 rfl rfl rfl rfl rfl rfl rfl ⟨rfl, rfl, rfl, rfl, rfl⟩ rfl rfl rfl rfl rfl (by kernel_rfl) Try.func4 (by kernel_rfl)
    (of_decide_eq_true (by kernel_rfl)) (by unfold Func.isWrapper; first | (rw [if_pos (by decide +kernel)]; kernel_rfl) | (rw [if_neg (by decide +kernel)]; exact ⟨rfl, rfl⟩))
    (fun os started H enc _ => ringOrder_lifted os started H enc)
#print axioms ringOrder_holds
end Go.Proofs.Ytiebkndefjbgjaa
