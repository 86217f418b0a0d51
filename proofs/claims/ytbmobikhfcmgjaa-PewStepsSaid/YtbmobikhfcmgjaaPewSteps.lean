/- PewSteps: for every list of steps, who comes, who is taken and who is dropped is the same at the program's pew and at the list of the document's; no condition. -/
import Derived.Test.YtbmobikhfcmgjaaG
import Derived.Test.YtbmobikhfcmgjaaN
namespace Go.Proofs.Ytbmobikhfcmgjaa
open Go.RowKit Go.WideShapes Go.ChangeShapes Go.ChangeAt

theorem keep_cell {w w' : World} (hf : Fr No w w') {b o : Nat} {v : Value} (h : w.cell? ⟨b, o, none⟩ = some v) : w'.cell? ⟨b, o, none⟩ = some v := (hf.cell (p := ⟨b, o, none⟩) (cell_lt h) (fun h => h)).trans h
theorem RefIs.blk {w w' : World} {h B : Nat} {v : Value} {L : List Tr} {g : Nat} {t : TypeId} {cs : Array Value} (hx : RefIs w h B v L) (hb : Blk w g t cs) (h1 : t ≠ 41) (h2 : 45 ≠ t) (hf : Fr (MayR h v) w w') : Blk w' g t cs := by
  refine hb.fr hf fun e => ?_
  rcases e with e | e
  · exact hb.ne_ hx.1 h1 e
  · exact hx.2.1.blk_ne hb h2 e
theorem RefIs.pew {w w' : World} {g h B : Nat} {v : Value} {L : List Tr} {ns : List Seat} (hx : RefIs w h B v L) (hp : PewIs w g B ns) (hf : Fr (MayR h v) w w') : PewIs w' g B ns := by
  refine hp.fr hf (fun e => ?_) fun s hs e => ?_
  · rcases e with e | e
    · exact hp.1.ne_ hx.1 (by decide) e
    · exact hx.2.1.blk_ne hp.1 (by decide) e
  · obtain ⟨_, _, cs, hb⟩ := hp.2.2.1.lt s hs
    rcases e with e | e
    · exact hb.ne_ hx.1 (by decide) e
    · exact hx.2.1.blk_ne hb (by decide) e
theorem PewIs.ref {w w' : World} {g h B : Nat} {v : Value} {L : List Tr} {ns : List Seat} (hp : PewIs w g B ns) (hx : RefIs w h B v L) (hf : Fr (May g ns) w w') : RefIs w' h B v L :=
  ⟨hp.blk hx.1 (by decide) (by decide) hf, hp.own hx.2.1 (by decide) (by decide) hf, hx.2.2⟩
theorem Fr.may {w w' : World} {g : Nat} (ns : List Seat) (h : Fr (Only g) w w') : Fr (May g ns) w w' := h.mono fun _ _ e => .inl e
theorem Fr.mayR {w w' : World} {h : Nat} (v : Value) (hf : Fr (Only h) w w') : Fr (MayR h v) w w' := hf.mono fun _ _ e => .inl e

/- each look, one way alone -/
def hd : List Tr → Tr | [] => (0, 0, 0) | x :: _ => x
def ne : List Tr → Bool | [] => false | _ :: _ => true
def hasB (q : Int) (L : List Tr) : Bool := L.any fun x => x.1 == q
theorem has_any {w : World} {g B : Nat} {ns : List Seat} (h : PewIs w g B ns) (q : Int) : Calls Try.prog 20 #[.pointer (some ⟨g, 0, none⟩), .int .i64 q] w (Found (hasB q (who ns)) w) := by
  by_cases hq : ∃ x ∈ who ns, x.1 = q
  · have e : hasB q (who ns) = true := by unfold hasB; simpa using hq
    rw [e]
    exact has_yes h q hq
  · have e : hasB q (who ns) = false := by
      unfold hasB
      rw [List.any_eq_false]
      intro x hx h
      exact hq ⟨x, hx, by simpa using h⟩
    rw [e]
    exact has_no h q fun x hx e => hq ⟨x, hx, e⟩
theorem rhas_any {h B : Nat} {v : Value} {L : List Tr} {w : World} (hr : RefIs w h B v L) (hl : L.length < 1024) (q : Int) : Calls Try.prog 21 #[.pointer (some ⟨h, 0, none⟩), .int .i64 q] w (Found (hasB q L) w) := by
  by_cases hq : ∃ x ∈ L, x.1 = q
  · have e : hasB q L = true := by unfold hasB; simpa using hq
    rw [e]
    exact rhas_yes hr hl q hq
  · have e : hasB q L = false := by
      unfold hasB
      rw [List.any_eq_false]
      intro x hx h
      exact hq ⟨x, hx, by simpa using h⟩
    rw [e]
    exact rhas_no hr hl q fun x hx e => hq ⟨x, hx, e⟩
theorem first_any {w : World} {g B : Nat} {ns : List Seat} (h : PewIs w g B ns) : Calls Try.prog 18 #[.pointer (some ⟨g, 0, none⟩)] w (Gave (hd (who ns)) (ne (who ns)) w) := by
  cases ns with
  | nil => exact first_none h
  | cons s r => exact first_some h
theorem rfirst_any {h B : Nat} {v : Value} {L : List Tr} {w : World} (hr : RefIs w h B v L) (hl : L.length < 1024) : Calls Try.prog 19 #[.pointer (some ⟨h, 0, none⟩)] w (Gave (hd L) (ne L) w) := by
  cases L with
  | nil => exact rfirst_none hr
  | cons x L => exact rfirst_some hr (by simp at hl; omega)
def TookAny (g B : Nat) (L : List Tr) (w : World) (e : Ending) (w' : World) : Prop := e = .returned (.tuple #[.agg #[.int .i64 (hd L).1, .int .i64 (hd L).2.1, .int .i64 (hd L).2.2], .bool (ne L)]) ∧ (∃ ns', PewIs w' g B ns' ∧ who ns' = L.tail) ∧ Fr (Only g) w w'
theorem take_any {w : World} {g B : Nat} {ns : List Seat} (h : PewIs w g B ns) : Calls Try.prog 12 #[.pointer (some ⟨g, 0, none⟩)] w (TookAny g B (who ns) w) := by
  cases ns with
  | nil =>
    refine (take_none h).mono ?_
    rintro e w' ⟨rfl, hf⟩
    exact ⟨rfl, ⟨[], h.no hf, rfl⟩, hf.mono fun _ _ h => h.elim⟩
  | cons s r =>
    refine (take_some h).mono ?_
    rintro e w' ⟨rfl, hp, hf⟩
    exact ⟨rfl, ⟨r, hp, rfl⟩, hf⟩
def RTookAny (h B : Nat) (L : List Tr) (w : World) (e : Ending) (w' : World) : Prop := e = .returned (.tuple #[.agg #[.int .i64 (hd L).1, .int .i64 (hd L).2.1, .int .i64 (hd L).2.2], .bool (ne L)]) ∧ (∃ v', RefIs w' h B v' L.tail) ∧ Fr (Only h) w w'
theorem rtake_any {h B : Nat} {v : Value} {L : List Tr} {w : World} (hr : RefIs w h B v L) (hl : L.length < 1024) (hB : B ≤ w.heap.size) : Calls Try.prog 16 #[.pointer (some ⟨h, 0, none⟩)] w (RTookAny h B L w) := by
  cases L with
  | nil =>
    refine (rtake_none hr).mono ?_
    rintro e w' ⟨rfl, hf⟩
    exact ⟨rfl, ⟨v, hr.no hf⟩, hf.mono fun _ _ h => h.elim⟩
  | cons x L =>
    refine (rtake_some hr (by simp at hl; omega) hB).mono ?_
    rintro e w' ⟨rfl, hp, hf⟩
    exact ⟨rfl, hp, hf⟩
theorem len_who {w : World} {g B : Nat} {ns : List Seat} (h : PewIs w g B ns) : Calls Try.prog 13 #[.pointer (some ⟨g, 0, none⟩)] w fun e w' => e = .returned (.int .i64 (who ns).length) ∧ w = w' := by
  refine (len_any h).mono ?_
  rintro e w' ⟨rfl, rfl⟩
  exact ⟨by rw [who_len], rfl⟩
def DropW (g B : Nat) (d : Nat) (L : List Tr) (w : World) (e : Ending) (w' : World) : Prop := e = .returned (.int .i64 d) ∧ (∃ ns', PewIs w' g B ns' ∧ who ns' = L) ∧ Fr (Only g) w w'
theorem drop_w {w : World} {g B : Nat} {ns : List Seat} (h : PewIs w g B ns) (hB : B ≤ w.heap.size) (q : Int) (d : Nat) (hd : (who ns).length = d + (rest q (who ns)).length) : Calls Try.prog 11 #[.pointer (some ⟨g, 0, none⟩), .int .i64 q] w (DropW g B d (rest q (who ns)) w) := by
  refine (drop_any h hB q).mono ?_
  rintro e w' ⟨rfl, hp, hf⟩
  refine ⟨?_, hp, hf⟩
  rw [show ((who ns).length : Int) - (rest q (who ns)).length = d by omega]

/-- the state of a round's head -/
def PS (w0 : World) (h k : Nat) (wr : World) : Prop := ∃ ns v, PewIs wr w0.heap.size w0.heap.size ns ∧ RefIs wr h w0.heap.size v (who ns) ∧ (who ns).length ≤ k ∧ Fr No w0 wr
theorem PS.no {w0 w w' : World} {h k : Nat} (hp : PS w0 h k w) (hf : Fr No w w') : PS w0 h k w' := by
  obtain ⟨ns, v, h1, h2, h3, h4⟩ := hp
  exact ⟨ns, v, h1.no hf, h2.no hf, h3, h4.trans hf⟩
theorem PS.up {w0 w : World} {h k : Nat} (hp : PS w0 h k w) : PS w0 h (k + 1) w := by
  obtain ⟨ns, v, h1, h2, h3, h4⟩ := hp
  exact ⟨ns, v, h1, h2, by omega, h4⟩

set_option maxHeartbeats 1000000 in
theorem pewSteps_long (A : Option Addr) (n c : Nat) (w : World) (h : 300 < n) (hn : n ≤ 9223372036854775807) : Calls Try.prog 5 #[.slice A n c] w (Truly w) := by
  go_enter Try.func5, Try.ntmps5
  go_wp2_with (first
    | (go_at_call 8; refine (new_any _).mono ?_; rintro e w1 ⟨rfl, h1, hf1⟩)
    | (go_at_call 9; refine (three_any _).mono ?_; rintro e w' ⟨rfl, hf⟩))
  go_ret
  exact ⟨rfl, hf1.trans hf⟩

set_option maxRecDepth 100000 in
set_option maxHeartbeats 8000000 in
theorem pewSteps_good (A : Option Addr) (c : Nat) (l : List Step) (w : World) (hl : l.length ≤ 300) (hA : Steps w A l) : Calls Try.prog 5 #[.slice A l.length c] w (Truly w) := by
  go_enter Try.func5, Try.ntmps5
  go_wp2_with (go_at_call 8; refine (new_any _).mono ?_; rintro e w1 ⟨rfl, h1, hf1⟩)
  have hr1 : RefIs (w1.alloc (.cells #[.slice none 0 0] 41)) w1.heap.size w.heap.size (.slice none 0 0) [] := ⟨Blk.new _ _ _, Own3.nil _ _ _, hf1.size⟩
  have hp1 := h1.no ((Fr.refl No w1).alloc (.cells #[.slice none 0 0] 41))
  have hfa := hf1.alloc (.cells #[.slice none 0 0] 41)
  go_loopw [32] (fun i wr => ∃ k : Nat, i = .int .i64 k ∧ k ≤ l.length ∧ PS w w1.heap.size k wr) (fun i _ => l.length - (intOf i).toNat)
  case atStart => exact ⟨0, rfl, by omega, [], _, hp1, hr1, by simp [who], hfa⟩
  case round =>
    obtain ⟨k, rfl, hk, hps⟩ := hrel
    clear h1 hp1 hr1 hf1 hfa
    by_cases hlt : k < l.length
    · have hfx : Fr No w wr := by obtain ⟨_, _, _, _, _, hf⟩ := hps; exact hf
      obtain ⟨b, off, rfl, hbb, t0, t1, t2, t3⟩ := hA.at_ hfx hlt
      clear hA hfx
      go_upto_block 2 with fail
      go_cut [6] (fun s wx => s = .pointer (some ⟨wr.heap.size, 0, none⟩) ∧ PS w w1.heap.size (k + 1) wx ∧ Blk wx wr.heap.size 43 #[.int .i64 l[k].1, .int .i64 l[k].2.1, .int .i64 l[k].2.2.1, .int .i64 l[k].2.2.2])
      case first =>
        have hb6 := Blk.new wr 43 #[.int .i64 l[k].1, .int .i64 l[k].2.1, .int .i64 l[k].2.2.1, .int .i64 l[k].2.2.2]
        have hps' := hps.no ((Fr.refl No wr).alloc (.cells #[.int .i64 l[k].1, .int .i64 l[k].2.1, .int .i64 l[k].2.2.1, .int .i64 l[k].2.2.2] 43))
        obtain ⟨ns, v, hp, hx, hn, hf⟩ := hps'
        have hsz := hf.size
        have hln : ns.length ≤ k := by rw [who_len] at hn; exact hn
        clear hps
        by_cases h0 : l[k].1 = 0
        · have h00 : (l[k].1 == 0) = true := by simp [h0]
          clear h0
          go_wp2_with fail
          go_region_held3 (fun w' => w'.cell? ⟨wr.heap.size, 1, none⟩ = some (.int .i64 l[k].2.1) ∧ w'.cell? ⟨wr.heap.size, 2, none⟩ = some (.int .i64 l[k].2.2.1) ∧ w'.cell? ⟨wr.heap.size, 3, none⟩ = some (.int .i64 l[k].2.2.2)) (first | assumption | go_keep)
            (first
              | (go_at_call 10; refine (add_any2 (hp.no ((Fr.refl No _).drewN 1)) (by omega) hsz l[k].2).mono ?_; rintro e w2 ⟨rfl, ⟨ns2, hp2, hw2⟩, hf2⟩
                 have hb2 := (hp.no ((Fr.refl No _).drewN 1)).blk (hb6.drewN 1) (by decide) (by decide) hf2
                 have hx2 := (hp.no ((Fr.refl No _).drewN 1)).ref (hx.no ((Fr.refl No _).drewN 1)) hf2
                 have hs2 : w2.cell? ⟨wr.heap.size, 1, none⟩ = some (.int .i64 l[k].2.1) ∧ w2.cell? ⟨wr.heap.size, 2, none⟩ = some (.int .i64 l[k].2.2.1) ∧ w2.cell? ⟨wr.heap.size, 3, none⟩ = some (.int .i64 l[k].2.2.2) := ⟨hb2.cell 1, hb2.cell 2, hb2.cell 3⟩
                 have HW2 := Lib.hid hw2
                 have hsz2 := hf2.size
                 clear hw2)
              | (go_at_call 15; refine (ref_any l[k].2.1 l[k].2.2.1 l[k].2.2.2 _).mono ?_; rintro e w3 ⟨rfl, hf3⟩
                 have hb3 := hb2.fr hf3 (fun h => h)
                 have hs3 : w3.cell? ⟨wr.heap.size, 1, none⟩ = some (.int .i64 l[k].2.1) ∧ w3.cell? ⟨wr.heap.size, 2, none⟩ = some (.int .i64 l[k].2.2.1) ∧ w3.cell? ⟨wr.heap.size, 3, none⟩ = some (.int .i64 l[k].2.2.2) := ⟨hb3.cell 1, hb3.cell 2, hb3.cell 3⟩
                 have hsz3 := hf3.size)
              | (go_at_call 14; refine (radd_any (hx2.no hf3) (by omega) (Nat.le_trans hsz (Nat.le_trans hsz2 hsz3)) l[k].2).mono ?_; rintro e w4 ⟨rfl, ⟨v4, hx4⟩, hf4⟩
                 have hb4 := (hx2.no hf3).blk hb3 (by decide) (by decide) hf4
                 have hs4 : w4.cell? ⟨wr.heap.size, 1, none⟩ = some (.int .i64 l[k].2.1) ∧ w4.cell? ⟨wr.heap.size, 2, none⟩ = some (.int .i64 l[k].2.2.1) ∧ w4.cell? ⟨wr.heap.size, 3, none⟩ = some (.int .i64 l[k].2.2.2) := ⟨hb4.cell 1, hb4.cell 2, hb4.cell 3⟩))
          go_wp2_with fail
          go_meet
          case rel =>
            refine ⟨rfl, ⟨ns2, v4, (hx2.no hf3).pew (hp2.no hf3) hf4, by rw [HW2.out]; exact hx4, ?_, ?_⟩, hb4⟩
            · rw [HW2.out]; split <;> simp <;> omega
            · exact (hx2.no hf3).new_ (((hp.no ((Fr.refl No _).drewN 1)).new_ (hf.drewN 1) (Nat.le_refl _) hf2).trans hf3) (Nat.le_refl _) hf4
        · have h00 : (l[k].1 == 0) = false := by simp [h0]
          clear h0
          by_cases h1 : l[k].1 = 1
          · have h11 : (l[k].1 == 1) = true := by simp [h1]
            clear h1
            go_wp2_with fail
            go_region_held3 (fun w' => w'.cell? ⟨wr.heap.size, 1, none⟩ = some (.int .i64 l[k].2.1) ∧ w'.cell? ⟨wr.heap.size, 2, none⟩ = some (.int .i64 l[k].2.2.1) ∧ w'.cell? ⟨wr.heap.size, 3, none⟩ = some (.int .i64 l[k].2.2.2)) (first | assumption | go_keep)
              (first
                | (go_at_call 10; refine (add_any2 (hp.no ((Fr.refl No _).drewN 1)) (by omega) hsz l[k].2).mono ?_; rintro e w2 ⟨rfl, ⟨ns2, hp2, hw2⟩, hf2⟩
                   have hb2 := (hp.no ((Fr.refl No _).drewN 1)).blk (hb6.drewN 1) (by decide) (by decide) hf2
                   have hx2 := (hp.no ((Fr.refl No _).drewN 1)).ref (hx.no ((Fr.refl No _).drewN 1)) hf2
                   have hs2 : w2.cell? ⟨wr.heap.size, 1, none⟩ = some (.int .i64 l[k].2.1) ∧ w2.cell? ⟨wr.heap.size, 2, none⟩ = some (.int .i64 l[k].2.2.1) ∧ w2.cell? ⟨wr.heap.size, 3, none⟩ = some (.int .i64 l[k].2.2.2) := ⟨hb2.cell 1, hb2.cell 2, hb2.cell 3⟩
                   have HW2 := Lib.hid hw2
                   have hsz2 := hf2.size
                   clear hw2)
                | (go_at_call 15; refine (ref_any l[k].2.1 l[k].2.2.1 l[k].2.2.2 _).mono ?_; rintro e w3 ⟨rfl, hf3⟩
                   have hb3 := hb2.fr hf3 (fun h => h)
                   have hs3 : w3.cell? ⟨wr.heap.size, 1, none⟩ = some (.int .i64 l[k].2.1) ∧ w3.cell? ⟨wr.heap.size, 2, none⟩ = some (.int .i64 l[k].2.2.1) ∧ w3.cell? ⟨wr.heap.size, 3, none⟩ = some (.int .i64 l[k].2.2.2) := ⟨hb3.cell 1, hb3.cell 2, hb3.cell 3⟩
                   have hsz3 := hf3.size)
                | (go_at_call 14; refine (radd_any (hx2.no hf3) (by omega) (Nat.le_trans hsz (Nat.le_trans hsz2 hsz3)) l[k].2).mono ?_; rintro e w4 ⟨rfl, ⟨v4, hx4⟩, hf4⟩
                   have hb4 := (hx2.no hf3).blk hb3 (by decide) (by decide) hf4
                   have hs4 : w4.cell? ⟨wr.heap.size, 1, none⟩ = some (.int .i64 l[k].2.1) ∧ w4.cell? ⟨wr.heap.size, 2, none⟩ = some (.int .i64 l[k].2.2.1) ∧ w4.cell? ⟨wr.heap.size, 3, none⟩ = some (.int .i64 l[k].2.2.2) := ⟨hb4.cell 1, hb4.cell 2, hb4.cell 3⟩))
            go_wp2_with fail
            go_meet
            case rel =>
              refine ⟨rfl, ⟨ns2, v4, (hx2.no hf3).pew (hp2.no hf3) hf4, by rw [HW2.out]; exact hx4, ?_, ?_⟩, hb4⟩
              · rw [HW2.out]; split <;> simp <;> omega
              · exact (hx2.no hf3).new_ (((hp.no ((Fr.refl No _).drewN 1)).new_ (hf.drewN 1) (Nat.le_refl _) hf2).trans hf3) (Nat.le_refl _) hf4
          · have h11 : (l[k].1 == 1) = false := by simp [h1]
            clear h1
            by_cases h2 : l[k].1 = 2
            · have h22 : (l[k].1 == 2) = true := by simp [h2]
              clear h2
              go_wp2_with (first
                | (go_at_call 12; refine (take_any hp).mono ?_; rintro e w2 ⟨rfl, ⟨ns2, hp2, hw2⟩, hf2⟩
                   have hb2 := hp.blk hb6 (by decide) (by decide) (hf2.may ns)
                   have hx2 := (hp.ref hx (hf2.may ns)).no ((Fr.refl No w2).alloc (.cells #[.int .i64 (hd (who ns)).1, .int .i64 (hd (who ns)).2.1, .int .i64 (hd (who ns)).2.2] 28))
                   have hb7 := Blk.new w2 28 #[.int .i64 (hd (who ns)).1, .int .i64 (hd (who ns)).2.1, .int .i64 (hd (who ns)).2.2]
                   have HW2 := Lib.hid hw2
                   have hsz2 := (hf2.alloc (.cells #[.int .i64 (hd (who ns)).1, .int .i64 (hd (who ns)).2.1, .int .i64 (hd (who ns)).2.2] 28)).size
                   clear hw2)
                | (go_at_call 16; refine (rtake_any hx2 (by omega) (Nat.le_trans hsz hsz2)).mono ?_; rintro e w3 ⟨rfl, ⟨v3, hx3⟩, hf3⟩
                   have hb73 := hx2.blk hb7 (by decide) (by decide) (hf3.mayR v)
                   have hb63 := hx2.blk (hb2.alloc (.cells #[.int .i64 (hd (who ns)).1, .int .i64 (hd (who ns)).2.1, .int .i64 (hd (who ns)).2.2] 28)) (by decide) (by decide) (hf3.mayR v)
                   have hp3 := hx2.pew (hp2.no ((Fr.refl No w2).alloc (.cells #[.int .i64 (hd (who ns)).1, .int .i64 (hd (who ns)).2.1, .int .i64 (hd (who ns)).2.2] 28))) (hf3.mayR v)
                   have hb9 := Blk.new w3 45 #[.int .i64 (hd (who ns)).1, .int .i64 (hd (who ns)).2.1, .int .i64 (hd (who ns)).2.2]
                   have q0 : w3.cell? ⟨w2.heap.size, 0, none⟩ = some (.int .i64 (hd (who ns)).1) := hb73.cell 0
                   have q1 : w3.cell? ⟨w2.heap.size, 1, none⟩ = some (.int .i64 (hd (who ns)).2.1) := hb73.cell 1
                   have q2 : w3.cell? ⟨w2.heap.size, 2, none⟩ = some (.int .i64 (hd (who ns)).2.2) := hb73.cell 2
                   have hz7 := hb73.lt
                   have hs3 : (w3.alloc (.cells #[.int .i64 (hd (who ns)).1, .int .i64 (hd (who ns)).2.1, .int .i64 (hd (who ns)).2.2] 45)).cell? ⟨w2.heap.size, 0, none⟩ = some (.int .i64 (hd (who ns)).1) ∧ (w3.alloc (.cells #[.int .i64 (hd (who ns)).1, .int .i64 (hd (who ns)).2.1, .int .i64 (hd (who ns)).2.2] 45)).cell? ⟨w2.heap.size, 1, none⟩ = some (.int .i64 (hd (who ns)).2.1) ∧ (w3.alloc (.cells #[.int .i64 (hd (who ns)).1, .int .i64 (hd (who ns)).2.1, .int .i64 (hd (who ns)).2.2] 45)).cell? ⟨w2.heap.size, 2, none⟩ = some (.int .i64 (hd (who ns)).2.2) ∧ (w3.alloc (.cells #[.int .i64 (hd (who ns)).1, .int .i64 (hd (who ns)).2.1, .int .i64 (hd (who ns)).2.2] 45)).cell? ⟨w3.heap.size, 0, none⟩ = some (.int .i64 (hd (who ns)).1) ∧ (w3.alloc (.cells #[.int .i64 (hd (who ns)).1, .int .i64 (hd (who ns)).2.1, .int .i64 (hd (who ns)).2.2] 45)).cell? ⟨w3.heap.size, 1, none⟩ = some (.int .i64 (hd (who ns)).2.1) ∧ (w3.alloc (.cells #[.int .i64 (hd (who ns)).1, .int .i64 (hd (who ns)).2.1, .int .i64 (hd (who ns)).2.2] 45)).cell? ⟨w3.heap.size, 2, none⟩ = some (.int .i64 (hd (who ns)).2.2) := ⟨(hb73.alloc _).cell 0, (hb73.alloc _).cell 1, (hb73.alloc _).cell 2, hb9.cell 0, hb9.cell 1, hb9.cell 2⟩))
              go_region_held3 (fun w' => w'.cell? ⟨w2.heap.size, 0, none⟩ = some (.int .i64 (hd (who ns)).1) ∧ w'.cell? ⟨w2.heap.size, 1, none⟩ = some (.int .i64 (hd (who ns)).2.1) ∧ w'.cell? ⟨w2.heap.size, 2, none⟩ = some (.int .i64 (hd (who ns)).2.2) ∧ w'.cell? ⟨w3.heap.size, 0, none⟩ = some (.int .i64 (hd (who ns)).1) ∧ w'.cell? ⟨w3.heap.size, 1, none⟩ = some (.int .i64 (hd (who ns)).2.1) ∧ w'.cell? ⟨w3.heap.size, 2, none⟩ = some (.int .i64 (hd (who ns)).2.2)) (first | assumption | exact hs3 | go_keep)
                (first
                  | (go_at_call 15; refine (ref_any (hd (who ns)).1 (hd (who ns)).2.1 (hd (who ns)).2.2 _).mono ?_; rintro e w5 ⟨rfl, hf5⟩
                     have hs5 : w5.cell? ⟨w2.heap.size, 0, none⟩ = some (.int .i64 (hd (who ns)).1) ∧ w5.cell? ⟨w2.heap.size, 1, none⟩ = some (.int .i64 (hd (who ns)).2.1) ∧ w5.cell? ⟨w2.heap.size, 2, none⟩ = some (.int .i64 (hd (who ns)).2.2) ∧ w5.cell? ⟨w3.heap.size, 0, none⟩ = some (.int .i64 (hd (who ns)).1) ∧ w5.cell? ⟨w3.heap.size, 1, none⟩ = some (.int .i64 (hd (who ns)).2.1) ∧ w5.cell? ⟨w3.heap.size, 2, none⟩ = some (.int .i64 (hd (who ns)).2.2) := ⟨keep_cell hf5 hs3.1, keep_cell hf5 hs3.2.1, keep_cell hf5 hs3.2.2.1, keep_cell hf5 hs3.2.2.2.1, keep_cell hf5 hs3.2.2.2.2.1, keep_cell hf5 hs3.2.2.2.2.2⟩))
              go_wp2_with fail
              go_meet
              case rel =>
                have hfz := ((Fr.refl No w3).alloc (.cells #[.int .i64 (hd (who ns)).1, .int .i64 (hd (who ns)).2.1, .int .i64 (hd (who ns)).2.2] 45)).drew.trans hf5
                refine ⟨rfl, ⟨ns2, v3, hp3.no hfz, by rw [HW2.out]; exact hx3.no hfz, ?_, ?_⟩, hb63.fr hfz (fun h => h)⟩
                · rw [HW2.out, List.length_tail]; omega
                · exact (((hf.only_new (Nat.le_refl _) hf2).alloc _).only_new hx.2.2 hf3).trans hfz
            · have h22 : (l[k].1 == 2) = false := by simp [h2]
              clear h2
              by_cases h3 : l[k].1 = 3
              · have h33 : (l[k].1 == 3) = true := by simp [h3]
                clear h3
                obtain ⟨d, hd⟩ : ∃ d, (who ns).length = d + (rest l[k].2.1 (who ns)).length := ⟨(who ns).length - (rest l[k].2.1 (who ns)).length, by have := rest_le l[k].2.1 (who ns); omega⟩
                have HD := Lib.hid hd
                clear hd
                go_wp2_with fail
                go_region_held3 (fun w' => w'.cell? ⟨wr.heap.size, 1, none⟩ = some (.int .i64 l[k].2.1)) (first | assumption | go_keep)
                  (first
                    | (go_at_call 11; refine (drop_w (hp.no ((Fr.refl No _).drewN 1)) hsz l[k].2.1 d HD.out).mono ?_; rintro e w2 ⟨rfl, ⟨ns2, hp2, hw2⟩, hf2⟩
                       have hb2 := (hp.no ((Fr.refl No _).drewN 1)).blk (hb6.drewN 1) (by decide) (by decide) (hf2.may ns)
                       have hx2 := (hp.no ((Fr.refl No _).drewN 1)).ref (hx.no ((Fr.refl No _).drewN 1)) (hf2.may ns)
                       have hs2 : w2.cell? ⟨wr.heap.size, 1, none⟩ = some (.int .i64 l[k].2.1) := hb2.cell 1
                       have HW2 := Lib.hid hw2
                       have hsz2 := hf2.size
                       clear hw2)
                    | (go_at_call 17; refine (rdrop_d hx2 (by omega) (Nat.le_trans hsz hsz2) l[k].2.1 d HD.out).mono ?_; rintro e w4 ⟨rfl, ⟨v4, hx4⟩, hf4⟩
                       have hb4 := hx2.blk hb2 (by decide) (by decide) (hf4.mayR v)
                       have hs4 : w4.cell? ⟨wr.heap.size, 1, none⟩ = some (.int .i64 l[k].2.1) := hb4.cell 1))
                go_wp2_with fail
                go_meet
                case rel =>
                  refine ⟨rfl, ⟨ns2, v4, hx2.pew hp2 (hf4.mayR v), by rw [HW2.out]; exact hx4, ?_, ?_⟩, hb4⟩
                  · rw [HW2.out]; have := rest_le l[k].2.1 (who ns); omega
                  · exact ((hf.drewN 1).only_new (Nat.le_refl _) hf2).only_new hx.2.2 hf4
              · have h33 : (l[k].1 == 3) = false := by simp [h3]
                clear h3
                go_wp2_with fail
                go_meet
                case rel => exact ⟨rfl, ⟨ns, v, hp, hx, by omega, hf⟩, hb6⟩
      case rest =>
        obtain ⟨rfl, hps2, hb6⟩ := hcut
        obtain ⟨ns, v, hp, hx, hn, hf⟩ := hps2
        clear hps t0 t1 t2 t3
        obtain ⟨A2, c2, hv2, hi2⟩ := hx.form
        have hcs : wc.cell? ⟨w1.heap.size, 0, none⟩ = some (.slice A2 (who ns).length c2) := (hx.1.cell 0).trans (by rw [← hv2]; rfl)
        have HI := Lib.hid hi2
        have HV := Lib.hid hv2
        clear hv2 hi2
        have hln : (who ns).length < 1024 := by omega
        go_upto_region 23 with (first
          | (go_at_call 18; refine (first_any hp).mono ?_; rintro e w2 ⟨rfl, hf2⟩
             have hb7 := Blk.new w2 28 #[.int .i64 (hd (who ns)).1, .int .i64 (hd (who ns)).2.1, .int .i64 (hd (who ns)).2.2]
             have hf2a := hf2.alloc (.cells #[.int .i64 (hd (who ns)).1, .int .i64 (hd (who ns)).2.1, .int .i64 (hd (who ns)).2.2] 28))
          | (go_at_call 19; refine (rfirst_any (hx.no hf2a) hln).mono ?_; rintro e w3 ⟨rfl, hf3⟩
             have hb73 := hb7.fr hf3 (fun h => h)
             have hb9 := Blk.new w3 45 #[.int .i64 (hd (who ns)).1, .int .i64 (hd (who ns)).2.1, .int .i64 (hd (who ns)).2.2]
             have hf4 := (hf2a.trans hf3).alloc (.cells #[.int .i64 (hd (who ns)).1, .int .i64 (hd (who ns)).2.1, .int .i64 (hd (who ns)).2.2] 45)
             have hs4 : (w3.alloc (.cells #[.int .i64 (hd (who ns)).1, .int .i64 (hd (who ns)).2.1, .int .i64 (hd (who ns)).2.2] 45)).cell? ⟨w2.heap.size, 0, none⟩ = some (.int .i64 (hd (who ns)).1) ∧ (w3.alloc (.cells #[.int .i64 (hd (who ns)).1, .int .i64 (hd (who ns)).2.1, .int .i64 (hd (who ns)).2.2] 45)).cell? ⟨w2.heap.size, 1, none⟩ = some (.int .i64 (hd (who ns)).2.1) ∧ (w3.alloc (.cells #[.int .i64 (hd (who ns)).1, .int .i64 (hd (who ns)).2.1, .int .i64 (hd (who ns)).2.2] 45)).cell? ⟨w2.heap.size, 2, none⟩ = some (.int .i64 (hd (who ns)).2.2) ∧ (w3.alloc (.cells #[.int .i64 (hd (who ns)).1, .int .i64 (hd (who ns)).2.1, .int .i64 (hd (who ns)).2.2] 45)).cell? ⟨w3.heap.size, 0, none⟩ = some (.int .i64 (hd (who ns)).1) ∧ (w3.alloc (.cells #[.int .i64 (hd (who ns)).1, .int .i64 (hd (who ns)).2.1, .int .i64 (hd (who ns)).2.2] 45)).cell? ⟨w3.heap.size, 1, none⟩ = some (.int .i64 (hd (who ns)).2.1) ∧ (w3.alloc (.cells #[.int .i64 (hd (who ns)).1, .int .i64 (hd (who ns)).2.1, .int .i64 (hd (who ns)).2.2] 45)).cell? ⟨w3.heap.size, 2, none⟩ = some (.int .i64 (hd (who ns)).2.2) ∧ (w3.alloc (.cells #[.int .i64 (hd (who ns)).1, .int .i64 (hd (who ns)).2.1, .int .i64 (hd (who ns)).2.2] 45)).cell? ⟨wr.heap.size, 1, none⟩ = some (.int .i64 l[k].2.1) ∧ (w3.alloc (.cells #[.int .i64 (hd (who ns)).1, .int .i64 (hd (who ns)).2.1, .int .i64 (hd (who ns)).2.2] 45)).cell? ⟨w1.heap.size, 0, none⟩ = some (.slice A2 (who ns).length c2) := ⟨(hb73.alloc _).cell 0, (hb73.alloc _).cell 1, (hb73.alloc _).cell 2, hb9.cell 0, hb9.cell 1, hb9.cell 2, keep_cell hf4 (hb6.cell 1), keep_cell hf4 hcs⟩))
        have hp4 := (hp.no hf4).no ((Fr.refl No _).drewN 1)
        have hx4 := (hx.no hf4).no ((Fr.refl No _).drewN 1)
        have hi4 : Trip _ A2 (who ns) := (HI.out.fr hf4 (fun _ _ h => h)).fr ((Fr.refl No _).drewN 1) (fun _ _ h => h)
        go_region_held3 (fun w' => w'.cell? ⟨w2.heap.size, 0, none⟩ = some (.int .i64 (hd (who ns)).1) ∧ w'.cell? ⟨w2.heap.size, 1, none⟩ = some (.int .i64 (hd (who ns)).2.1) ∧ w'.cell? ⟨w2.heap.size, 2, none⟩ = some (.int .i64 (hd (who ns)).2.2) ∧ w'.cell? ⟨w3.heap.size, 0, none⟩ = some (.int .i64 (hd (who ns)).1) ∧ w'.cell? ⟨w3.heap.size, 1, none⟩ = some (.int .i64 (hd (who ns)).2.1) ∧ w'.cell? ⟨w3.heap.size, 2, none⟩ = some (.int .i64 (hd (who ns)).2.2) ∧ w'.cell? ⟨wr.heap.size, 1, none⟩ = some (.int .i64 l[k].2.1) ∧ w'.cell? ⟨w1.heap.size, 0, none⟩ = some (.slice A2 (who ns).length c2)) (first | assumption | exact hs4 | go_keep)
          (first
            | (go_at_call 15; refine (ref_any (hd (who ns)).1 (hd (who ns)).2.1 (hd (who ns)).2.2 _).mono ?_; rintro e w5 ⟨rfl, hf5⟩
               have hs5 : w5.cell? ⟨w2.heap.size, 0, none⟩ = some (.int .i64 (hd (who ns)).1) ∧ w5.cell? ⟨w2.heap.size, 1, none⟩ = some (.int .i64 (hd (who ns)).2.1) ∧ w5.cell? ⟨w2.heap.size, 2, none⟩ = some (.int .i64 (hd (who ns)).2.2) ∧ w5.cell? ⟨w3.heap.size, 0, none⟩ = some (.int .i64 (hd (who ns)).1) ∧ w5.cell? ⟨w3.heap.size, 1, none⟩ = some (.int .i64 (hd (who ns)).2.1) ∧ w5.cell? ⟨w3.heap.size, 2, none⟩ = some (.int .i64 (hd (who ns)).2.2) ∧ w5.cell? ⟨wr.heap.size, 1, none⟩ = some (.int .i64 l[k].2.1) ∧ w5.cell? ⟨w1.heap.size, 0, none⟩ = some (.slice A2 (who ns).length c2) := ⟨keep_cell hf5 hs4.1, keep_cell hf5 hs4.2.1, keep_cell hf5 hs4.2.2.1, keep_cell hf5 hs4.2.2.2.1, keep_cell hf5 hs4.2.2.2.2.1, keep_cell hf5 hs4.2.2.2.2.2.1, keep_cell hf5 hs4.2.2.2.2.2.2.1, keep_cell hf5 hs4.2.2.2.2.2.2.2⟩
               have hp5 := hp4.no hf5)
            | (go_at_call 13; refine (len_who hp5).mono ?_; rintro e w' ⟨rfl, rfl⟩)
            | (go_at_call 20; refine (has_any hp5 l[k].2.1).mono ?_; rintro e w6 ⟨rfl, hf6⟩
               have hs6 : w6.cell? ⟨w2.heap.size, 0, none⟩ = some (.int .i64 (hd (who ns)).1) ∧ w6.cell? ⟨w2.heap.size, 1, none⟩ = some (.int .i64 (hd (who ns)).2.1) ∧ w6.cell? ⟨w2.heap.size, 2, none⟩ = some (.int .i64 (hd (who ns)).2.2) ∧ w6.cell? ⟨w3.heap.size, 0, none⟩ = some (.int .i64 (hd (who ns)).1) ∧ w6.cell? ⟨w3.heap.size, 1, none⟩ = some (.int .i64 (hd (who ns)).2.1) ∧ w6.cell? ⟨w3.heap.size, 2, none⟩ = some (.int .i64 (hd (who ns)).2.2) ∧ w6.cell? ⟨wr.heap.size, 1, none⟩ = some (.int .i64 l[k].2.1) ∧ w6.cell? ⟨w1.heap.size, 0, none⟩ = some (.slice A2 (who ns).length c2) := ⟨keep_cell hf6 hs5.1, keep_cell hf6 hs5.2.1, keep_cell hf6 hs5.2.2.1, keep_cell hf6 hs5.2.2.2.1, keep_cell hf6 hs5.2.2.2.2.1, keep_cell hf6 hs5.2.2.2.2.2.1, keep_cell hf6 hs5.2.2.2.2.2.2.1, keep_cell hf6 hs5.2.2.2.2.2.2.2⟩
               have hp6 := hp5.no hf6
               have hx6 := (hx4.no hf5).no hf6)
            | (go_at_call 21; refine (rhas_any hx6 hln l[k].2.1).mono ?_; rintro e w7 ⟨rfl, hf7⟩
               have hs7 : w7.cell? ⟨w2.heap.size, 0, none⟩ = some (.int .i64 (hd (who ns)).1) ∧ w7.cell? ⟨w2.heap.size, 1, none⟩ = some (.int .i64 (hd (who ns)).2.1) ∧ w7.cell? ⟨w2.heap.size, 2, none⟩ = some (.int .i64 (hd (who ns)).2.2) ∧ w7.cell? ⟨w3.heap.size, 0, none⟩ = some (.int .i64 (hd (who ns)).1) ∧ w7.cell? ⟨w3.heap.size, 1, none⟩ = some (.int .i64 (hd (who ns)).2.1) ∧ w7.cell? ⟨w3.heap.size, 2, none⟩ = some (.int .i64 (hd (who ns)).2.2) ∧ w7.cell? ⟨wr.heap.size, 1, none⟩ = some (.int .i64 l[k].2.1) ∧ w7.cell? ⟨w1.heap.size, 0, none⟩ = some (.slice A2 (who ns).length c2) := ⟨keep_cell hf7 hs6.1, keep_cell hf7 hs6.2.1, keep_cell hf7 hs6.2.2.1, keep_cell hf7 hs6.2.2.2.1, keep_cell hf7 hs6.2.2.2.2.1, keep_cell hf7 hs6.2.2.2.2.2.1, keep_cell hf7 hs6.2.2.2.2.2.2.1, keep_cell hf7 hs6.2.2.2.2.2.2.2⟩)
            | (go_at_call 23; refine (list_any (hp6.no hf7)).mono ?_; rintro e w8 ⟨v8, rfl, hown8, hf8⟩; obtain ⟨A8, c8, rfl, hi8, _⟩ := hown8.form
               have hs8 : w8.cell? ⟨w2.heap.size, 0, none⟩ = some (.int .i64 (hd (who ns)).1) ∧ w8.cell? ⟨w2.heap.size, 1, none⟩ = some (.int .i64 (hd (who ns)).2.1) ∧ w8.cell? ⟨w2.heap.size, 2, none⟩ = some (.int .i64 (hd (who ns)).2.2) ∧ w8.cell? ⟨w3.heap.size, 0, none⟩ = some (.int .i64 (hd (who ns)).1) ∧ w8.cell? ⟨w3.heap.size, 1, none⟩ = some (.int .i64 (hd (who ns)).2.1) ∧ w8.cell? ⟨w3.heap.size, 2, none⟩ = some (.int .i64 (hd (who ns)).2.2) ∧ w8.cell? ⟨wr.heap.size, 1, none⟩ = some (.int .i64 l[k].2.1) ∧ w8.cell? ⟨w1.heap.size, 0, none⟩ = some (.slice A2 (who ns).length c2) := ⟨keep_cell hf8 hs7.1, keep_cell hf8 hs7.2.1, keep_cell hf8 hs7.2.2.1, keep_cell hf8 hs7.2.2.2.1, keep_cell hf8 hs7.2.2.2.2.1, keep_cell hf8 hs7.2.2.2.2.2.1, keep_cell hf8 hs7.2.2.2.2.2.2.1, keep_cell hf8 hs7.2.2.2.2.2.2.2⟩
               have hI8 : Trip w8 A2 (who ns) := (((hi4.fr hf5 (fun _ _ h => h)).fr hf6 (fun _ _ h => h)).fr hf7 (fun _ _ h => h)).fr hf8 (fun _ _ h => h))
            | (go_at_call 22; refine (same_any A8 A2 c8 c2 (who ns) hi8 hI8 hln).mono ?_; rintro e w9 ⟨rfl, hf9⟩
               have hs9 : w9.cell? ⟨w2.heap.size, 0, none⟩ = some (.int .i64 (hd (who ns)).1) ∧ w9.cell? ⟨w2.heap.size, 1, none⟩ = some (.int .i64 (hd (who ns)).2.1) ∧ w9.cell? ⟨w2.heap.size, 2, none⟩ = some (.int .i64 (hd (who ns)).2.2) ∧ w9.cell? ⟨w3.heap.size, 0, none⟩ = some (.int .i64 (hd (who ns)).1) ∧ w9.cell? ⟨w3.heap.size, 1, none⟩ = some (.int .i64 (hd (who ns)).2.1) ∧ w9.cell? ⟨w3.heap.size, 2, none⟩ = some (.int .i64 (hd (who ns)).2.2) ∧ w9.cell? ⟨wr.heap.size, 1, none⟩ = some (.int .i64 l[k].2.1) ∧ w9.cell? ⟨w1.heap.size, 0, none⟩ = some (.slice A2 (who ns).length c2) := ⟨keep_cell hf9 hs8.1, keep_cell hf9 hs8.2.1, keep_cell hf9 hs8.2.2.1, keep_cell hf9 hs8.2.2.2.1, keep_cell hf9 hs8.2.2.2.2.1, keep_cell hf9 hs8.2.2.2.2.2.1, keep_cell hf9 hs8.2.2.2.2.2.2.1, keep_cell hf9 hs8.2.2.2.2.2.2.2⟩))
        go_wp2_with fail
        go_roundw
        case rel =>
          have hfz := ((((hf5.trans hf6).trans hf7).trans hf8).trans hf9)
          exact ⟨k + 1, by go_num, by omega, ns, v, hp4.no hfz, hx4.no hfz, hn, ((hf.trans hf4).drewN 1).trans hfz⟩
        case measure => simp [intOf]; omega
    · have hf : Fr No w wr := by obtain ⟨_, _, _, _, _, hf⟩ := hps; exact hf
      clear hA hps
      go_wp2_with (go_at_call 9; refine (three_any _).mono ?_; rintro e w5 ⟨rfl, hf5⟩)
      go_ret
      exact ⟨rfl, hf.trans hf5⟩
set_option maxRecDepth 100000 in
theorem pewSteps_lifted (os : Os) (started : os.Started) (H : Type) (enc : TypeId × Value → H) :
    ReturnsInHanded {} Try.checked os 5 .any (Rows.pewStepsSpec.pre6 enc Try.prog Try.f5 Rows.pewStepsRow.domain false) (Rows.pewStepsSpec.post enc Try.prog Try.f5 false true false false) := by
  refine law_of_walk Try.underlying4 started H enc Try.func5 (by kernel_rfl) rfl rfl
    (ChangeSpec.witness6 (enc := enc) (C := Try.checked) false ⟨#[], #[.slice none 0 0], []⟩ 8 (by kernel_rfl) (by kernel_rfl) (by kernel_rfl) (by kernel_rfl)) ?_ ?_ ?_
  · intro ds hl
    match ds, hl with
    | [d0], _ => rfl
  · rw [Try.params5]
    simp only [List.mem_cons, List.not_mem_nil, or_false, forall_eq_or_imp, forall_eq]
    exact ⟨by kernel_rfl, of_decide_eq_true (by kernel_rfl)⟩
  · intro W base args ds p hval hA hlt _
    rw [Try.params5] at hA hval
    obtain ⟨v0, vs0, d0, ds0, p0, q0, hargs, rfl, rfl, h0, r0⟩ := trodAll_cons hA
    obtain ⟨rfl, rfl, rfl⟩ := trodAll_nil r0
    obtain rfl : args = #[v0] := by cases args; simp_all
    obtain ⟨A0, n0, c0, F0, rfl, hl0, hm0, hw0, hc0⟩ := open_nested Try.underlying37 Try.underlying43 Try.underlying3 rfl (by kernel_rfl) Try.underlying28 rfl (by kernel_rfl) (by kernel_rfl) (by kernel_rfl) (by
      intro j f hj
      match j, hj with
      | 0, hj => cases hj; exact Try.underlying3
      | 1, hj => cases hj; exact Try.underlying3
      | 2, hj => cases hj; exact Try.underlying3) (hval 0 37 v0 rfl rfl) h0
    unfold maxLen at hm0
    by_cases h : 300 < n0
    · exact pewSteps_long A0 n0 c0 W h (by omega)
    · have := pewSteps_good A0 c0 (steps n0 F0) W (by rw [steps_len]; omega) (steps_arg hc0)
      rw [steps_len] at this
      exact this

theorem pewSteps_holds : Rows.PewStepsSaid :=
  OpenClaim.holds_of_wide 5 Try.f5 rfl rfl rfl rfl rfl rfl rfl ⟨rfl, rfl, rfl, rfl, rfl⟩ rfl rfl rfl rfl rfl (by kernel_rfl) Try.func5 (by kernel_rfl)
    (of_decide_eq_true (by kernel_rfl)) (by unfold Func.isWrapper; first | (rw [if_pos (by decide +kernel)]; kernel_rfl) | (rw [if_neg (by decide +kernel)]; exact ⟨rfl, rfl⟩))
    (fun os started H enc _ => pewSteps_lifted os started H enc)
#print axioms pewSteps_holds
end Go.Proofs.Ytbmobikhfcmgjaa
