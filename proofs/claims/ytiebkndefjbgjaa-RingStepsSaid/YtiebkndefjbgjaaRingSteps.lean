/- RingSteps: for every size, every list of steps and every place i, each push, pop, turn and look at the program's ring answers as at the list of the document's; no condition. -/
import Derived.Test.YtiebkndefjbgjaaE
import Derived.Test.YtiebkndefjbgjaaRingOrder
namespace Go.Proofs.Ytiebkndefjbgjaa
open Go.RowKit Go.WideShapes Go.ChangeShapes Go.ChangeAt

theorem RingIs.drewN {w : World} {g s : Nat} {L : List Int} (h : RingIs w g s L) (n : Nat) : RingIs (w.drewN n) g s L := h.fr ((Fr.refl No w).drewN n) (fun h => h)
theorem RefIs.drewN {w : World} {h B s : Nat} {v : Value} {L : List Int} (hr : RefIs w h B s v L) (n : Nat) : RefIs (w.drewN n) h B s v L := hr.no ((Fr.refl No w).drewN n)
theorem RingIs.ref {w w' : World} {g h B s : Nat} {v : Value} {L L' : List Int} (hr : RingIs w g s L) (hx : RefIs w h B s v L') (hf : Fr (May h v) w w') : RingIs w' g s L := by
  obtain ⟨cs, hb⟩ := hr.blk
  refine hr.fr hf fun e => ?_
  rcases e with e | e
  · exact hb.ne_ hx.1 (by decide) e
  · exact hx.2.1.blk_ne hb (by decide) e
theorem RefIs.ring {w w' : World} {g h B s : Nat} {v : Value} {L L' : List Int} (hx : RefIs w h B s v L') (hr : RingIs w g s L) (hf : Fr (Only g) w w') : RefIs w' h B s v L' := by
  obtain ⟨cs, hb⟩ := hr.blk
  exact hx.fr hf (fun e => hx.1.ne_ hb (by decide) e) fun k hk e => hx.2.1.blk_ne hb (by decide) (by rw [hk]; unfold Only at e; rw [e])

theorem RingIs.only {w w' : World} {g h B s : Nat} {v : Value} {L L' : List Int} (hr : RingIs w g s L) (hx : RefIs w h B s v L') (hf : Fr (Only h) w w') : RingIs w' g s L := hr.ref hx (hf.mono fun _ _ e => .inl e)
/-- a block of the walk's own, of another type, is not written -/
theorem RefIs.blk {w w' : World} {h B s : Nat} {v : Value} {L : List Int} {g : Nat} {t : TypeId} {cs : Array Value} (hx : RefIs w h B s v L) (hb : Blk w g t cs) (h1 : t ≠ 44) (h2 : 3 ≠ t) (hf : Fr (May h v) w w') : Blk w' g t cs := by
  refine hb.fr hf fun e => ?_
  rcases e with e | e
  · exact hb.ne_ hx.1 h1 e
  · exact hx.2.1.blk_ne hb h2 e
theorem RingIs.blk_fr {w w' : World} {g s : Nat} {L : List Int} {b : Nat} {t : TypeId} {cs : Array Value} (hr : RingIs w g s L) (hb : Blk w b t cs) (h1 : t ≠ 53) (hf : Fr (Only g) w w') : Blk w' b t cs := by
  obtain ⟨cs', hb'⟩ := hr.blk
  exact hb.fr hf fun e => hb.ne_ hb' h1 e

/-- the state of a round's head -/
def RS (w0 : World) (s h : Nat) (wr : World) : Prop := ∃ L v, RingIs wr w0.heap.size s L ∧ RefIs wr h w0.heap.size s v L ∧ Fr No w0 wr

set_option maxRecDepth 100000 in
set_option maxHeartbeats 4000000 in
theorem ringSteps_good (s : Nat) (A : Option Addr) (c : Nat) (l : List (Int × Int)) (i : Int) (w : World) (h : s ≤ 4) (hl : l.length ≤ 300) (hA : Steps w A l) : Calls Try.prog 3 #[.int .i64 s, .slice A l.length c, .int .i64 i] w (Truly w) := by
  go_enter Try.func3, Try.ntmps3
  go_wp2_with (first
    | (go_at_call 7; refine (new_good _ h).mono ?_; rintro e w1 ⟨rfl, hr1, hf1⟩)
    | (go_at_call 8; refine (rnew_good _ w.heap.size hf1.size h).mono ?_; rintro e w2 ⟨rfl, hx2, hf2⟩))
  have hr2 := hr1.fr hf2 (fun h => h)
  have hf3 := hf1.trans hf2
  go_loopw [55] (fun i wr => ∃ k : Nat, i = .int .i64 k ∧ k ≤ l.length ∧ RS w s w1.heap.size wr) (fun i _ => l.length - (intOf i).toNat)
  case atStart => exact ⟨0, rfl, by omega, [], _, hr2, hx2, hf3⟩
  case round =>
    obtain ⟨k, rfl, hk, L, v, hr, hx, hf⟩ := hrel
    clear hr1 hr2 hf1 hf2 hf3 hx2
    have hle := hr.le
    have hszf := hf.size
    by_cases hlt : k < l.length
    · obtain ⟨b, off, rfl, hbb, hc1, hc2⟩ := hA.at_ hf hlt
      clear hA
      go_upto_block 2 with fail
      go_cut [12] (fun _ wx => RS w s w1.heap.size wx)
      case first =>
        have hr' := fun o => hr.fr ((Fr.refl No wr).alloc o) (fun h => h)
        have hx' := fun o => hx.no ((Fr.refl No wr).alloc o)
        have hf' := fun o => hf.alloc o
        have hcv : (wr.alloc (Obj.cells #[Value.int IntKind.i64 l[k].1, Value.int IntKind.i64 l[k].2] 32)).cell? ⟨wr.heap.size, 1, none⟩ = some (.int .i64 l[k].2) := (Blk.new _ _ _).cell 1
        have hbv := Blk.new wr 32 #[Value.int IntKind.i64 l[k].1, Value.int IntKind.i64 l[k].2]
        by_cases h0 : l[k].1 = 0 ∨ l[k].1 = 1
        · by_cases hfull : L.length = s
          · have key : Calls Try.prog 10 #[.pointer (some ⟨w.heap.size, 0, none⟩), .int .i64 l[k].2] (wr.alloc (Obj.cells #[Value.int IntKind.i64 l[k].1, Value.int IntKind.i64 l[k].2] 32)).drew fun e w' => e = .returned (.int .i64 5) ∧ (wr.alloc (Obj.cells #[Value.int IntKind.i64 l[k].1, Value.int IntKind.i64 l[k].2] 32)).drew = w' := push_full ((hr' _).drewN 1) hfull _
            have key2 := Lib.hid key
            clear key
            rcases h0 with h0 | h0
            · have h00 : (l[k].1 == 0) = true := by simp [h0]
              clear h0
              go_wp2_with fail
              go_region_held3 (fun w' => w'.cell? ⟨wr.heap.size, 1, none⟩ = some (.int .i64 l[k].2)) (first | assumption | go_keep)
                (first
                  | (go_at_call 10; refine (Hid.out key2).mono ?_; rintro e w' ⟨rfl, rfl⟩)
                  | (go_at_call 11; refine (rpush_full ((hx' _).drewN 1) (by omega) (by omega) (by omega) _).mono ?_; rintro e w' ⟨rfl, n, rfl⟩))
              go_wp2_with fail
              go_meet
              case rel => exact ⟨L, v, (hr' _).drewN _, (hx' _).drewN _, (hf' _).drewN _⟩
            · have h00 : (l[k].1 == 0) = false := by simp [h0]
              have h01 : (l[k].1 == 1) = true := by simp [h0]
              clear h0
              go_wp2_with fail
              go_region_held3 (fun w' => w'.cell? ⟨wr.heap.size, 1, none⟩ = some (.int .i64 l[k].2)) (first | assumption | go_keep)
                (first
                  | (go_at_call 10; refine (Hid.out key2).mono ?_; rintro e w' ⟨rfl, rfl⟩)
                  | (go_at_call 11; refine (rpush_full ((hx' _).drewN 1) (by omega) (by omega) (by omega) _).mono ?_; rintro e w' ⟨rfl, n, rfl⟩))
              go_wp2_with fail
              go_meet
              case rel => exact ⟨L, v, (hr' _).drewN _, (hx' _).drewN _, (hf' _).drewN _⟩
          · have hroom : L.length < s := by omega
            clear hfull
            have key : Calls Try.prog 10 #[.pointer (some ⟨w.heap.size, 0, none⟩), .int .i64 l[k].2] (wr.alloc (Obj.cells #[Value.int IntKind.i64 l[k].1, Value.int IntKind.i64 l[k].2] 32)).drew (Pushed w.heap.size s L l[k].2 (wr.alloc (Obj.cells #[Value.int IntKind.i64 l[k].1, Value.int IntKind.i64 l[k].2] 32)).drew) := push_room ((hr' _).drewN 1) hroom _
            have key2 := Lib.hid key
            clear key
            rcases h0 with h0 | h0
            · have h00 : (l[k].1 == 0) = true := by simp [h0]
              clear h0
              go_wp2_with fail
              go_region_held3 (fun w' => w'.cell? ⟨wr.heap.size, 1, none⟩ = some (.int .i64 l[k].2)) (first | assumption | go_keep)
                (first
                  | (go_at_call 10; refine (Hid.out key2).mono ?_; rintro e w2 ⟨rfl, hr2, hf2⟩
                     have hcw : w2.cell? ⟨wr.heap.size, 1, none⟩ = some (.int .i64 l[k].2) := (((hr' _).drewN 1).blk_fr (hbv.drewN 1) (by decide) hf2).cell 1)
                  | (go_at_call 11; refine (rpush_room (((hx' _).drewN 1).ring ((hr' _).drewN 1) hf2) hroom h (by have := hf2.size; simp at this ⊢; omega) _).mono ?_; rintro e w3 ⟨rfl, ⟨v3, hx3⟩, hf3⟩
                     have hcw3 : w3.cell? ⟨wr.heap.size, 1, none⟩ = some (.int .i64 l[k].2) := ((((hx' _).drewN 1).ring ((hr' _).drewN 1) hf2).blk (((hr' _).drewN 1).blk_fr (hbv.drewN 1) (by decide) hf2) (by decide) (by decide) hf3).cell 1))
              go_wp2_with fail
              go_meet
              case rel => exact ⟨L ++ [l[k].2], v3, hr2.ref (((hx' _).drewN 1).ring ((hr' _).drewN 1) hf2) hf3, hx3, (((hx' _).drewN 1).ring ((hr' _).drewN 1) hf2).new_ (((hf' _).drewN 1).only_new (Nat.le_refl _) hf2) (Nat.le_refl _) hf3⟩
            · have h00 : (l[k].1 == 0) = false := by simp [h0]
              have h01 : (l[k].1 == 1) = true := by simp [h0]
              clear h0
              go_wp2_with fail
              go_region_held3 (fun w' => w'.cell? ⟨wr.heap.size, 1, none⟩ = some (.int .i64 l[k].2)) (first | assumption | go_keep)
                (first
                  | (go_at_call 10; refine (Hid.out key2).mono ?_; rintro e w2 ⟨rfl, hr2, hf2⟩
                     have hcw : w2.cell? ⟨wr.heap.size, 1, none⟩ = some (.int .i64 l[k].2) := (((hr' _).drewN 1).blk_fr (hbv.drewN 1) (by decide) hf2).cell 1)
                  | (go_at_call 11; refine (rpush_room (((hx' _).drewN 1).ring ((hr' _).drewN 1) hf2) hroom h (by have := hf2.size; simp at this ⊢; omega) _).mono ?_; rintro e w3 ⟨rfl, ⟨v3, hx3⟩, hf3⟩
                     have hcw3 : w3.cell? ⟨wr.heap.size, 1, none⟩ = some (.int .i64 l[k].2) := ((((hx' _).drewN 1).ring ((hr' _).drewN 1) hf2).blk (((hr' _).drewN 1).blk_fr (hbv.drewN 1) (by decide) hf2) (by decide) (by decide) hf3).cell 1))
              go_wp2_with fail
              go_meet
              case rel => exact ⟨L ++ [l[k].2], v3, hr2.ref (((hx' _).drewN 1).ring ((hr' _).drewN 1) hf2) hf3, hx3, (((hx' _).drewN 1).ring ((hr' _).drewN 1) hf2).new_ (((hf' _).drewN 1).only_new (Nat.le_refl _) hf2) (Nat.le_refl _) hf3⟩
        · have h00 : (l[k].1 == 0) = false := by simp; omega
          have h01 : (l[k].1 == 1) = false := by simp; omega
          clear h0
          by_cases h2 : l[k].1 = 2
          · have H2 : (l[k].1 == 2) = true := by simp [h2]
            clear h2
            cases L with
            | nil =>
              go_wp2_with (first
                | (go_at_call 12; refine (pop_none (hr' _)).mono ?_; rintro e w' ⟨rfl, rfl⟩)
                | (go_at_call 13; refine (rpop_none (hx' _)).mono ?_; rintro e w' ⟨rfl, rfl⟩))
              go_meet
              case rel => exact ⟨[], v, hr' _, hx' _, hf' _⟩
            | cons x L =>
              go_wp2_with (first
                | (go_at_call 12; refine (pop_some (hr' _)).mono ?_; rintro e w2 ⟨rfl, hr2, hf2⟩)
                | (go_at_call 13; refine (rpop_some ((hx' _).ring (hr' _) hf2) (by simp at hle; omega) (by have := hf2.size; simp at this ⊢; omega)).mono ?_; rintro e w3 ⟨rfl, ⟨v3, hx3, _⟩, hf3⟩))
              go_meet
              case rel => exact ⟨L, v3, hr2.only ((hx' _).ring (hr' _) hf2) hf3, hx3, ((hf' _).only_new (Nat.le_refl _) hf2).only_new hx.2.2 hf3⟩
          · have H2 : (l[k].1 == 2) = false := by simp [h2]
            clear h2
            by_cases h3 : l[k].1 = 3
            · have H3 : (l[k].1 == 3) = true := by simp [h3]
              clear h3
              cases L with
              | nil =>
                go_wp2_with (first
                  | (go_at_call 14; refine (turn_none (hr' _) _).mono ?_; rintro e w' ⟨rfl, rfl⟩)
                  | (go_at_call 15; refine (rturn_none (hx' _) _).mono ?_; rintro e w' ⟨rfl, rfl⟩))
                go_meet
                case rel => exact ⟨[], v, hr' _, hx' _, hf' _⟩
              | cons x L =>
                go_wp2_with (first
                  | (go_at_call 14; refine (turn_some (hr' _) _).mono ?_; rintro e w2 ⟨rfl, hr2, hf2⟩
                     have hcw : w2.cell? ⟨wr.heap.size, 1, none⟩ = some (.int .i64 l[k].2) := ((hr' _).blk_fr hbv (by decide) hf2).cell 1)
                  | (go_at_call 15; refine (rturn_some ((hx' _).ring (hr' _) hf2) (by simp at hle; omega) h (by have := hf2.size; simp at this ⊢; omega) _).mono ?_; rintro e w3 ⟨rfl, ⟨v3, hx3⟩, hf3⟩))
                go_meet
                case rel => exact ⟨L ++ [l[k].2], v3, hr2.ref ((hx' _).ring (hr' _) hf2) hf3, hx3, ((hx' _).ring (hr' _) hf2).new_ ((hf' _).only_new (Nat.le_refl _) hf2) (Nat.le_refl _) hf3⟩
            · have H3 : (l[k].1 == 3) = false := by simp [h3]
              clear h3
              go_wp2_with fail
              go_meet
              case rel => exact ⟨L, v, hr' _, hx' _, hf' _⟩
      case rest =>
        obtain ⟨L2, v2, hr2, hx2, hf2⟩ := hcut
        clear hr hx hf
        have hle2 := hr2.le
        obtain ⟨A2, c2, hv2, hi2⟩ := hx2.form
        have hcs : wc.cell? ⟨w1.heap.size, 1, none⟩ = some (.slice A2 L2.length c2) := (hx2.1.cell 1).trans (by rw [← hv2]; rfl)
        have HV := Lib.hid hv2
        have HI := Lib.hid hi2
        clear hv2 hi2
        by_cases hin : 0 ≤ i ∧ i < L2.length
        · obtain ⟨m, rfl⟩ : ∃ m : Nat, i = m := ⟨i.toNat, by omega⟩
          have hml : m < L2.length := by omega
          have HX := Lib.hid (List.getElem?_eq_getElem hml)
          clear hin
          go_wp2_with (first
            | (go_at_call 16; refine (at_in hr2 m _ HX.out).mono ?_; rintro e w' ⟨rfl, rfl⟩)
            | (go_at_call 17; refine (rat_in (hx2.drewN 1) (by omega) m _ HX.out).mono ?_; rintro e w' ⟨rfl, rfl⟩))
          have hfn := (Fr.refl No wc).drewN 2
          have hr3 := hr2.fr hfn (fun h => h)
          have hx3 := hx2.no hfn
          clear hc1 hc2
          go_region_held3 (fun w' => w'.cell? ⟨w1.heap.size, 1, none⟩ = some (.slice A2 L2.length c2)) (first | assumption | go_keep)
            (first
              | (go_at_call 18; refine (len_any hr3).mono ?_; rintro e w' ⟨rfl, rfl⟩)
              | (go_at_call 19; refine (cap_any hr3).mono ?_; rintro e w' ⟨rfl, rfl⟩)
              | (go_at_call 21; refine (list_any hr3).mono ?_; rintro e w5 ⟨v5, rfl, hown5, hf5⟩; obtain ⟨A5, c5, rfl, hi5, hb5⟩ := hown5.form
                 have hcs5 : w5.cell? ⟨w1.heap.size, 1, none⟩ = some (.slice A2 L2.length c2) := (hf5.cell hx3.1.lt (fun h => h)).trans hcs
                 have hI5 : Ints w5 A2 L2 := HI.out.fr (hfn.trans hf5) (fun _ _ h => h))
              | (go_at_call 20; refine (ints_len A5 A2 _ c5 _ c2 L2 L2 _ hi5 hI5 rfl rfl (by omega) (by omega)).mono ?_; rintro e w6 ⟨rfl, n6, rfl⟩
                 have hcs6 : (w5.drewN n6).cell? ⟨w1.heap.size, 1, none⟩ = some (.slice A2 L2.length c2) := hcs5))
          go_wp2_with fail
          go_roundw
          case rel => exact ⟨k + 1, by go_num, by omega, L2, v2, (hr3.fr hf5 (fun h => h)).drewN _, (hx3.no hf5).drewN _, ((hf2.trans hfn).trans hf5).drewN _⟩
          case measure => simp [intOf]; omega
        · have hout : i < 0 ∨ (L2.length : Int) ≤ i := by omega
          have HO := Lib.hid hout
          clear hin hout
          go_wp2_with (first
            | (go_at_call 16; refine (at_out hr2 i HO.out).mono ?_; rintro e w' ⟨rfl, rfl⟩)
            | (go_at_call 17; refine (rat_out hx2 (by omega) i HO.out).mono ?_; rintro e w' ⟨rfl, rfl⟩))
          have hfn := (Fr.refl No wc).drewN 1
          have hr3 := hr2.fr hfn (fun h => h)
          have hx3 := hx2.no hfn
          clear hc1 hc2
          go_region_held3 (fun w' => w'.cell? ⟨w1.heap.size, 1, none⟩ = some (.slice A2 L2.length c2)) (first | assumption | go_keep)
            (first
              | (go_at_call 18; refine (len_any hr3).mono ?_; rintro e w' ⟨rfl, rfl⟩)
              | (go_at_call 19; refine (cap_any hr3).mono ?_; rintro e w' ⟨rfl, rfl⟩)
              | (go_at_call 21; refine (list_any hr3).mono ?_; rintro e w5 ⟨v5, rfl, hown5, hf5⟩; obtain ⟨A5, c5, rfl, hi5, hb5⟩ := hown5.form
                 have hcs5 : w5.cell? ⟨w1.heap.size, 1, none⟩ = some (.slice A2 L2.length c2) := (hf5.cell hx3.1.lt (fun h => h)).trans hcs
                 have hI5 : Ints w5 A2 L2 := HI.out.fr (hfn.trans hf5) (fun _ _ h => h))
              | (go_at_call 20; refine (ints_len A5 A2 _ c5 _ c2 L2 L2 _ hi5 hI5 rfl rfl (by omega) (by omega)).mono ?_; rintro e w6 ⟨rfl, n6, rfl⟩
                 have hcs6 : (w5.drewN n6).cell? ⟨w1.heap.size, 1, none⟩ = some (.slice A2 L2.length c2) := hcs5))
          go_wp2_with fail
          go_roundw
          case rel => exact ⟨k + 1, by go_num, by omega, L2, v2, (hr3.fr hf5 (fun h => h)).drewN _, (hx3.no hf5).drewN _, ((hf2.trans hfn).trans hf5).drewN _⟩
          case measure => simp [intOf]; omega
    · clear hA
      go_wp2_with (go_at_call 9; refine (two_any _).mono ?_; rintro e w5 ⟨rfl, hf5⟩)
      go_ret
      exact ⟨rfl, hf.trans hf5⟩

set_option maxHeartbeats 1000000 in
theorem ringSteps_bad (s i : Int) (A : Option Addr) (n c : Nat) (w : World) (h : s < 0 ∨ 4 < s) : Calls Try.prog 3 #[.int .i64 s, .slice A n c, .int .i64 i] w (Truly w) := by
  have H := Lib.hid h
  clear h
  go_enter Try.func3, Try.ntmps3
  go_wp2_with (first
    | (go_at_call 7; refine (new_bad _ H.out).mono ?_; rintro e w' ⟨rfl, rfl⟩)
    | (go_at_call 8; refine (rnew_bad _ H.out).mono ?_; rintro e w' ⟨rfl, rfl⟩)
    | (go_at_call 9; refine (two_any _).mono ?_; rintro e w' ⟨rfl, hf⟩))
  go_ret
  exact ⟨rfl, hf⟩

set_option maxRecDepth 100000 in
set_option maxHeartbeats 1000000 in
theorem ringSteps_long (s : Nat) (i : Int) (A : Option Addr) (n c : Nat) (w : World) (h : s ≤ 4) (hn : 300 < n) (hm : n ≤ 9223372036854775807) : Calls Try.prog 3 #[.int .i64 s, .slice A n c, .int .i64 i] w (Truly w) := by
  go_enter Try.func3, Try.ntmps3
  go_wp2_with (first
    | (go_at_call 7; refine (new_good _ h).mono ?_; rintro e w1 ⟨rfl, hr1, hf1⟩)
    | (go_at_call 8; refine (rnew_good _ w.heap.size hf1.size h).mono ?_; rintro e w2 ⟨rfl, hx2, hf2⟩)
    | (go_at_call 9; refine (two_any _).mono ?_; rintro e w' ⟨rfl, hf⟩))
  go_ret
  exact ⟨rfl, (hf1.trans hf2).trans hf⟩

set_option maxRecDepth 100000 in
theorem ringSteps_lifted (os : Os) (started : os.Started) (H : Type) (enc : TypeId × Value → H) :
    ReturnsInHanded {} Try.checked os 3 .any (Rows.ringStepsSpec.pre6 enc Try.prog Try.f3 Rows.ringStepsRow.domain false) (Rows.ringStepsSpec.post enc Try.prog Try.f3 false true false false) := by
  refine law_of_walk Try.underlying4 started H enc Try.func3 (by kernel_rfl) rfl rfl
    (ChangeSpec.witness6 (enc := enc) (C := Try.checked) false ⟨#[], #[.int .i64 0, .slice none 0 0, .int .i64 0], []⟩ 8 (by kernel_rfl) (by kernel_rfl) (by kernel_rfl) (by kernel_rfl)) ?_ ?_ ?_
  · intro ds hl
    match ds, hl with
    | [d0, d1, d2], _ => rfl
  · rw [Try.params3]
    simp only [List.mem_cons, List.not_mem_nil, or_false, forall_eq_or_imp, forall_eq]
    exact ⟨⟨by kernel_rfl, of_decide_eq_true (by kernel_rfl)⟩, ⟨by kernel_rfl, of_decide_eq_true (by kernel_rfl)⟩, ⟨by kernel_rfl, of_decide_eq_true (by kernel_rfl)⟩⟩
  · intro W base args ds p hval hA hlt _
    rw [Try.params3] at hA hval
    obtain ⟨v0, vs0, d0, ds0, p0, q0, hargs, rfl, rfl, h0, r0⟩ := trodAll_cons hA
    obtain ⟨v1, vs1, d1, ds1, p1, q1, rfl, rfl, rfl, h1, r1⟩ := trodAll_cons r0
    obtain ⟨v2, vs2, d2, ds2, p2, q2, rfl, rfl, rfl, h2, r2⟩ := trodAll_cons r1
    obtain ⟨rfl, rfl, rfl⟩ := trodAll_nil r2
    obtain rfl : args = #[v0, v1, v2] := by cases args; simp_all
    obtain ⟨a0, rfl, rfl, rfl, w0⟩ := open_int Try.underlying3 (hval 0 3 v0 rfl rfl) h0
    have bd0 := wf_bounds w0
    obtain ⟨A1, n1, c1, F1, rfl, hl1, hm1, hw1, hc1⟩ := open_structs Try.underlying22 Try.underlying32 (by kernel_rfl) (by kernel_rfl) (by decide) (by
      intro j f hj
      match j, hj with
      | 0, hj => cases hj; exact Try.underlying3
      | 1, hj => cases hj; exact Try.underlying3) (hval 1 22 v1 rfl rfl) h1
    unfold maxLen at hm1
    obtain ⟨a2, rfl, rfl, rfl, w2⟩ := open_int Try.underlying3 (hval 2 3 v2 rfl rfl) h2
    have bd2 := wf_bounds w2
    by_cases h : a0 < 0 ∨ 4 < a0
    · exact ringSteps_bad a0 a2 A1 n1 c1 W h
    · obtain ⟨s, rfl⟩ : ∃ s : Nat, a0 = s := ⟨a0.toNat, by omega⟩
      by_cases hn : 300 < n1
      · exact ringSteps_long s a2 A1 n1 c1 W (by omega) hn (by omega)
      · have hl : (pairs n1 F1).length = n1 := by simp [pairs]
        have hs : Steps W A1 (pairs n1 F1) := by
          intro h0
          rw [hl] at h0
          obtain ⟨b, off, e, hb, hc⟩ := hc1 h0
          refine ⟨b, off, e, hb, fun j p hp => ?_⟩
          obtain ⟨hj, rfl⟩ := pairs_at hp
          exact ⟨hc j 0 hj (by decide), hc j 1 hj (by decide)⟩
        have := ringSteps_good s A1 c1 (pairs n1 F1) a2 W (by omega) (by omega) hs
        rw [hl] at this
        exact this

theorem ringSteps_holds : Rows.RingStepsSaid :=
  OpenClaim.holds_of_wide 3 Try.f3 rfl rfl rfl rfl rfl rfl rfl ⟨rfl, rfl, rfl, rfl, rfl⟩ rfl rfl rfl rfl rfl (by kernel_rfl) Try.func3 (by kernel_rfl)
    (of_decide_eq_true (by kernel_rfl)) (by unfold Func.isWrapper; first | (rw [if_pos (by decide +kernel)]; kernel_rfl) | (rw [if_neg (by decide +kernel)]; exact ⟨rfl, rfl⟩))
    (fun os started H enc _ => ringSteps_lifted os started H enc)
#print axioms ringSteps_holds
end Go.Proofs.Ytiebkndefjbgjaa
