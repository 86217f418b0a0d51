/- List, Has, Drop. -/
import Derived.Test.YtbmobikhfcmgjaaC
import Derived.WalkMore
namespace Go.Proofs.Ytbmobikhfcmgjaa
open Go.RowKit

theorem Chain.drop {w : World} {B : Nat} : ∀ {xs ys : List Seat}, Chain w B (xs ++ ys) → Chain w B ys
  | [], _, h => h
  | _ :: xs, _, h => Chain.drop (xs := xs) h.2.2
/-- who waits -/
def who (ns : List Seat) : List Tr := ns.map (·.2)

def Listed (L : List Tr) (w : World) (e : Ending) (w' : World) : Prop := ∃ v, e = .returned v ∧ Own3 28 w.heap.size w' v L ∧ Fr No w w'
set_option maxHeartbeats 400000 in
theorem list_nil (w : World) : Calls Try.prog 23 #[.pointer none] w (Listed [] w) := by
  go_enter Try.func23, Try.ntmps23
  go_wp2
  go_ret
  exact ⟨_, rfl, Own3.nil _ _ _, Fr.refl _ _⟩
set_option maxHeartbeats 2000000 in
theorem list_any {w : World} {g B : Nat} {ns : List Seat} (h : PewIs w g B ns) : Calls Try.prog 23 #[.pointer (some ⟨g, 0, none⟩)] w (Listed (who ns) w) := by
  have c0 : w.cell? ⟨g, 0, none⟩ = some (.pointer (headP ns)) := h.1.cell 0
  have hlen := h.2.2.2.2.1
  go_enter Try.func23, Try.ntmps23
  go_wp2
  go_loopg [3, 4] ns.length (fun m v q wr => ∃ xs ys, ns = xs ++ ys ∧ ys.length = m ∧ q = .pointer (headP ys) ∧ Own3 28 w.heap.size wr v (who xs) ∧ Fr No w wr)
  case atStart => exact ⟨[], ns, rfl, rfl, rfl, Own3.nil _ _ _, Fr.refl _ _⟩
  case round =>
    obtain ⟨xs, ys, he, hm, rfl, hown, hf⟩ := hrel
    have hlx : (who xs).length ≤ 1024 := by unfold who; rw [he, List.length_append] at hlen; simp; omega
    have hch : Chain wr B ys := Chain.drop (xs := xs) (by rw [← he]; exact (h.no hf).2.2.1)
    have HE := Lib.hid he
    have HM := Lib.hid hm
    have hsz := hf.size
    clear he hm
    cases ys with
    | nil =>
      have e0 : headP ([] : List Seat) = none := rfl
      rw [e0]
      clear e0
      go_wp2
      go_ret
      refine ⟨_, rfl, hown.congr ?_, hf⟩
      rw [HE.out, List.append_nil]
    | cons s ys =>
      have e0 : headP (s :: ys) = some ⟨s.1, 0, none⟩ := rfl
      rw [e0]
      clear e0
      have hs := hch.1
      have hsl := hs.lt
      have d0 : wr.cell? ⟨s.1, 0, none⟩ = some (.int .i64 s.2.1) := hs.cell 0
      have d1 : wr.cell? ⟨s.1, 1, none⟩ = some (.int .i64 s.2.2.1) := hs.cell 1
      have d2 : wr.cell? ⟨s.1, 2, none⟩ = some (.int .i64 s.2.2.2) := hs.cell 2
      have hf1 := hf.alloc (.cells #[.int .i64 s.2.1, .int .i64 s.2.2.1, .int .i64 s.2.2.2] 28)
      go_wp2_with (at_builtin; go_must (refine wpList_push3 el22 rfl (.tmp 18) (.tmp 23) rfl w.heap.size u3 (who xs) s.2 rfl (hown.alloc _) wr.heap.size 28 1 rfl (Blk.new _ _ _) (by omega) (by decide) hf1.size ?_); intro v' w1 hap
                   have hs1 := (hs.alloc (.cells #[.int .i64 s.2.1, .int .i64 s.2.2.1, .int .i64 s.2.2.2] 28)).grown hap.2.1 (fun e => hown.blk_ne hs (by decide) e.symm)
                   have d3 : w1.cell? ⟨s.1, 3, none⟩ = some (.pointer (headP ys)) := hs1.cell 3)
      go_roundg ys.length
      case rel => exact ⟨xs ++ [s], ys, by rw [HE.out]; simp, rfl, rfl, hap.1.congr (by simp [who]), hap.fr hf1 hown (Nat.le_refl _)⟩
      case measure => have := HM.out; simp at this; omega

/- Has -/
theorem headW {xs : List Tr} {k : Nat} (h : k < xs.length) : xs[k]? = some xs[k] := List.getElem?_eq_getElem h
def Found (b : Bool) (w : World) (e : Ending) (w' : World) : Prop := e = .returned (.bool b) ∧ Fr No w w'
set_option maxHeartbeats 400000 in
theorem has_nil (q : Int) (w : World) : Calls Try.prog 20 #[.pointer none, .int .i64 q] w (Found false w) := by
  go_enter Try.func20, Try.ntmps20
  go_wp2
  go_step3
  go_wp2
  go_step3
  go_wp2_with (go_at_call 23; refine (list_nil _).mono ?_; rintro e w1 ⟨v, rfl, hown, hf1⟩; obtain ⟨A, c, rfl, _, _⟩ := hown.form)
  refine wp_loop_rounds 1 ?_
  rw [rounds_succ]
  go_wp2
  rw [Exit.noGoto_ret]
  go_ret
  exact ⟨rfl, hf1⟩
set_option maxHeartbeats 2000000 in
theorem has_no {w : World} {g B : Nat} {ns : List Seat} (h : PewIs w g B ns) (q : Int) (hq : ∀ x ∈ who ns, x.1 ≠ q) : Calls Try.prog 20 #[.pointer (some ⟨g, 0, none⟩), .int .i64 q] w (Found false w) := by
  have HQ := Lib.hid hq
  clear hq
  have hlen : (who ns).length ≤ 1024 := by have := h.2.2.2.2.1; simp [who]; omega
  go_enter Try.func20, Try.ntmps20
  go_wp2
  go_step3
  go_wp2
  go_step3
  go_wp2_with (go_at_call 23; refine (list_any h).mono ?_; rintro e w1 ⟨v, rfl, hown, hf1⟩; obtain ⟨A, c, rfl, htr, hA⟩ := hown.form)
  go_loopw [5, 11] (fun f i wr => f = .bool false ∧ ∃ k : Nat, i = .int .i64 k ∧ k ≤ (who ns).length ∧ Fr No w1 wr) (fun _ i _ => (who ns).length - (intOf i).toNat)
  case atStart => exact ⟨rfl, 0, rfl, by omega, Fr.refl _ _⟩
  case round =>
    obtain ⟨rfl, k, rfl, hk, hf⟩ := hrel
    by_cases hlt : k < (who ns).length
    · obtain ⟨b, off, rfl, hbl, d0, d1, d2⟩ := (htr.fr hf (fun _ _ h => h)).at_ hlt
      have hne : ((who ns)[k].1 == q) = false := by simp; exact HQ.out _ (List.getElem_mem hlt)
      clear htr
      go_wp2
      go_roundw
      case rel => exact ⟨rfl, k + 1, by go_num, by omega, hf.alloc _⟩
      case measure => simp [intOf]; omega
    · go_wp2
      rw [Exit.noGoto_ret]
      go_ret
      exact ⟨rfl, hf1.trans hf⟩

theorem first_hit {xs : List Tr} {q : Int} (h : ∃ x ∈ xs, x.1 = q) : ∃ i : Nat, ∃ hi : i < xs.length, xs[i].1 = q ∧ ∀ j (hj : j < i), (xs[j]'(by omega)).1 ≠ q := by
  induction xs with
  | nil => obtain ⟨x, hx, _⟩ := h; cases hx
  | cons a xs ih =>
    by_cases ha : a.1 = q
    · exact ⟨0, by simp, ha, fun j hj => by omega⟩
    · obtain ⟨x, hx, hb⟩ := h
      rcases List.mem_cons.1 hx with rfl | hx
      · exact absurd hb ha
      · obtain ⟨i, hi, h1, h2⟩ := ih ⟨x, hx, hb⟩
        refine ⟨i + 1, by simpa using hi, h1, fun j hj => ?_⟩
        cases j with
        | zero => exact ha
        | succ j => exact h2 j (by omega)
set_option maxHeartbeats 2000000 in
theorem has_yes {w : World} {g B : Nat} {ns : List Seat} (h : PewIs w g B ns) (q : Int) (hq : ∃ x ∈ who ns, x.1 = q) : Calls Try.prog 20 #[.pointer (some ⟨g, 0, none⟩), .int .i64 q] w (Found true w) := by
  obtain ⟨i, hi, h1, h2⟩ := first_hit hq
  have H1 := Lib.hid h1
  have H2 := Lib.hid h2
  clear h1 h2
  have hlen : (who ns).length ≤ 1024 := by have := h.2.2.2.2.1; simp [who]; omega
  go_enter Try.func20, Try.ntmps20
  go_wp2
  go_step3
  go_wp2
  go_step3
  go_wp2_with (go_at_call 23; refine (list_any h).mono ?_; rintro e w1 ⟨v, rfl, hown, hf1⟩; obtain ⟨A, c, rfl, htr, hA⟩ := hown.form)
  go_loopw [5, 11] (fun f j wr => f = .bool false ∧ ∃ k : Nat, j = .int .i64 k ∧ k ≤ i ∧ Fr No w1 wr) (fun _ j _ => i + 1 - (intOf j).toNat)
  case atStart => exact ⟨rfl, 0, rfl, by omega, Fr.refl _ _⟩
  case round =>
    obtain ⟨rfl, k, rfl, hk, hf⟩ := hrel
    have hlt : k < (who ns).length := by omega
    obtain ⟨b, off, rfl, hbl, d0, d1, d2⟩ := (htr.fr hf (fun _ _ h => h)).at_ hlt
    clear htr
    by_cases he : k = i
    · subst he
      have hne : ((who ns)[k].1 == q) = true := by simp; exact H1.out
      go_wp2
      rw [Exit.noGoto_ret]
      go_ret
      exact ⟨rfl, (hf1.trans hf).alloc _⟩
    · have hki : k < i := by omega
      have hne : ((who ns)[k].1 == q) = false := by simp; exact H2.out k hki
      clear he
      go_wp2
      go_roundw
      case rel => exact ⟨rfl, k + 1, by go_num, by omega, hf.alloc _⟩
      case measure => simp [intOf]; omega

/- Drop -/
set_option maxHeartbeats 400000 in
theorem drop_nil (q : Int) (w : World) : Calls Try.prog 11 #[.pointer none, .int .i64 q] w (Told 0 w) := by
  go_enter Try.func11, Try.ntmps11
  go_wp2_with (go_at_call 23; refine (list_nil _).mono ?_; rintro e w1 ⟨v, rfl, hown, hf1⟩; obtain ⟨A, c, rfl, _, _⟩ := hown.form)
  refine wp_loop_rounds 1 ?_
  rw [rounds_succ]
  go_wp2_with (go_at_call 13; refine (len_nil _).mono ?_; rintro e w' ⟨rfl, rfl⟩)
  go_ret
  exact ⟨rfl, hf1⟩

def rest (q : Int) (L : List Tr) : List Tr := L.filter fun x => x.1 != q
theorem rest_snoc (q : Int) (L : List Tr) (x : Tr) : rest q (L ++ [x]) = if x.1 = q then rest q L else rest q L ++ [x] := by
  unfold rest
  rw [List.filter_append]
  by_cases h : x.1 = q <;> simp [List.filter_cons, h]
theorem rest_le (q : Int) (L : List Tr) : (rest q L).length ≤ L.length := List.length_filter_le _ _

def Dropped (g B : Nat) (q : Int) (ns : List Seat) (w : World) (e : Ending) (w' : World) : Prop := e = .returned (.int .i64 ((who ns).length - (rest q (who ns)).length : Int)) ∧ (∃ ns', PewIs w' g B ns' ∧ who ns' = rest q (who ns)) ∧ Fr (Only g) w w'
set_option maxHeartbeats 2000000 in
theorem drop_any {w : World} {g B : Nat} {ns : List Seat} (h : PewIs w g B ns) (hB : B ≤ w.heap.size) (q : Int) : Calls Try.prog 11 #[.pointer (some ⟨g, 0, none⟩), .int .i64 q] w (Dropped g B q ns w) := by
  have hlen : (who ns).length ≤ 1024 := by have := h.2.2.2.2.1; simp [who]; omega
  have hok := Lib.hid (show ∀ x ∈ who ns, 0 ≤ x.1 ∧ -1 ≤ x.2.1 from fun x hx => by obtain ⟨s, hs, rfl⟩ := List.mem_map.1 hx; exact h.2.2.2.2.2 s hs)
  go_enter Try.func11, Try.ntmps11
  go_wp2_with (go_at_call 23; refine (list_any h).mono ?_; rintro e w1 ⟨v, rfl, hown, hf1⟩; obtain ⟨A, c, rfl, htr, hA⟩ := hown.form
               have h1 := h.no hf1
               have k0 : w1.cell? ⟨g, 0, none⟩ = some (.pointer (headP ns)) := h1.1.cell 0
               have k1 : w1.cell? ⟨g, 1, none⟩ = some (.pointer (lastP ns)) := h1.1.cell 1
               have k2 : w1.cell? ⟨g, 2, none⟩ = some (.int .i64 ns.length) := h1.1.cell 2
               have z0 := h1.1.frozen 0
               have z1 := h1.1.frozen 1
               have z2 := h1.1.frozen 2)
  have hb1 := ((h1.1.set_ 0 (.pointer none)).set_ 1 (.pointer none)).set_ 2 (.int .i64 0)
  have hfr := (((Fr.refl (Only g) w1).setOnly 0 (.pointer none)).setOnly 1 (.pointer none)).setOnly 2 (.int .i64 0)
  have hsz1 := hf1.size
  go_loopw [17] (fun j wr => ∃ (k : Nat) (ms : List Seat), j = .int .i64 k ∧ k ≤ (who ns).length ∧ PewIs wr g B ms ∧ who ms = rest q ((who ns).take k) ∧ (∀ s ∈ ms, w1.heap.size ≤ s.1) ∧ Fr (Only g) w1 wr) (fun j _ => (who ns).length - (intOf j).toNat)
  case atStart => exact ⟨0, [], rfl, by omega, ⟨hb1, h.2.1, trivial, by simp, by simp, by simp⟩, rfl, by simp, hfr⟩
  case round =>
    obtain ⟨k, ms, rfl, hk, hp, hw, hnew, hf⟩ := hrel
    have HW := Lib.hid hw
    have HN := Lib.hid hnew
    have hlm : ms.length ≤ k := by
      have e := congrArg List.length hw
      have := rest_le q ((who ns).take k)
      rw [List.length_take] at this
      simp [who] at e this
      omega
    clear hw hnew
    by_cases hlt : k < (who ns).length
    · obtain ⟨b, off, rfl, hbl, d0, d1, d2⟩ := (htr.fr hf (fun ad e e2 => by obtain ⟨_, _, cs, hbd⟩ := hA ad e; exact hbd.ne_ h1.1 (by decide) e2)).at_ hlt
      have hxs := hok.out _ (List.getElem_mem hlt)
      have hx0 : 0 ≤ (who ns)[k].1 := hxs.1
      have hx1 : -1 ≤ (who ns)[k].2.1 := hxs.2
      have htk := Lib.hid (take_snoc hlt)
      clear hxs htr hA k0 k1 k2 z0 z1 z2
      have hp' := fun o => hp.no ((Fr.refl No wr).alloc o)
      have hsz := hf.size
      by_cases he : (who ns)[k].1 = q
      · have hb : ((who ns)[k].1 != q) = false := by simp [he]
        have HE := Lib.hid he
        clear he
        go_wp2
        go_roundw
        case rel => exact ⟨k + 1, ms, by go_num, by omega, hp' _, by rw [← htk.out, rest_snoc, if_pos HE.out]; exact HW.out, HN.out, hf.alloc _⟩
        case measure => simp [intOf]; omega
      · have hb : ((who ns)[k].1 != q) = true := by simp [he]
        have HE := Lib.hid he
        clear he
        have hsa := ((Fr.refl No wr).alloc (.cells #[.int .i64 (who ns)[k].1, .int .i64 (who ns)[k].2.1, .int .i64 (who ns)[k].2.2] 28)).size
        go_wp2_with (go_at_call 10; refine (add_room (hp' _) (by omega) (by omega) _ _ _ hx0 hx1).mono ?_; rintro e w3 ⟨rfl, ⟨b3, hb3, hp3⟩, hf3⟩)
        go_roundw
        case rel =>
          refine ⟨k + 1, ms ++ [(b3, (who ns)[k])], by go_num, by omega, hp3, ?_, ?_, ?_⟩
          · rw [← htk.out, rest_snoc, if_neg HE.out, ← HW.out]
            simp [who]
          · intro s hs
            rcases List.mem_append.1 hs with hs | hs
            · exact HN.out s hs
            · simp at hs; subst hs; simp at hb3 ⊢; omega
          · refine (hf.alloc _).then_ hf3 fun i hi e => ?_
            rcases e with e | ⟨s, hs, e⟩
            · exact e
            · have := HN.out s hs; omega
        case measure => simp [intOf]; omega
    · have hkl : k = (who ns).length := by omega
      have HK := Lib.hid hkl
      have hw2 : who ms = rest q (who ns) := by have := HW.out; rw [List.take_of_length_le (by omega)] at this; exact this
      have hl2 : ms.length = (rest q (who ns)).length := by rw [← hw2]; simp [who]
      have HW2 := Lib.hid hw2
      have HL2 := Lib.hid hl2
      clear hkl hw2 hl2 htr
      go_wp2_with (go_at_call 13; refine (len_any hp).mono ?_; rintro e w' ⟨rfl, rfl⟩)
      go_ret
      refine ⟨by rw [← HL2.out]; rfl, ⟨ms, hp, HW2.out⟩, (hf1.mono (fun _ _ h => h.elim)).trans hf⟩
end Go.Proofs.Ytbmobikhfcmgjaa
