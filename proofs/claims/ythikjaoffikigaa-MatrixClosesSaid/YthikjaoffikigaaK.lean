/- Row, Column, Loops: those that some check takes. -/
import Derived.Test.YthikjaoffikigaaJ
namespace Go.Proofs.Ythikjaoffikigaa
open Go.RowKit

def sel (p : Nat → Bool) (k : Nat) : List Int := ((List.range k).filter p).map fun j : Nat => (j : Int)
theorem sel_yes {p : Nat → Bool} {k : Nat} (h : p k = true) : sel p (k + 1) = sel p k ++ [(k : Int)] := by simp [sel, List.range_succ, h]
theorem sel_no {p : Nat → Bool} {k : Nat} (h : p k = false) : sel p (k + 1) = sel p k := by simp [sel, List.range_succ, h]
theorem sel_len (p : Nat → Bool) (k : Nat) : (sel p k).length ≤ k := by
  have := List.length_filter_le p (List.range k)
  simpa [sel] using this
theorem int39 : IntSl Try.prog 39 3 := ⟨Try.underlying39, by kernel_rfl⟩
def Thosed (l : List Int) (w : World) (e : Ending) (w' : World) : Prop := ∃ v, e = .returned v ∧ Own 3 w.heap.size w' v l ∧ Fr No w w'
attribute [local irreducible] sel
set_option maxHeartbeats 600000 in
theorem those_two {w : World} {m n : Nat} {r : Nat → Nat → Bool} {lo hi : Nat} (h : Mx w m n r lo hi) (F : FuncId) (hF : ∀ (args : Array Value) (w : World), (callFunc F args).run Try.prog w = .ok (.enter F args) w) (c1 c2 : Value) (p : Nat → Bool)
    (hcall : ∀ k : Nat, k < n → ∀ w', Fr No w w' → Calls Try.prog F #[.int .i64 k, c1, c2] w' (fun e w'' => e = .returned (.bool (p k)) ∧ w' = w'')) :
    Calls Try.prog 27 #[.pointer (some ⟨m, 0, none⟩), .func (.func F) #[] #[c1, c2]] w (Thosed (sel p n) w) := by
  have H := Lib.hid h
  have hmost := h.head.1
  have HC := Lib.hid hcall
  clear h hcall
  go_enter Try.func27, Try.ntmps27
  go_wp2_with (go_at_call 21; refine (size_any H.out).mono ?_; rintro e w1 ⟨rfl, rfl⟩)
  go_loopw [5, 9] (fun v j wr => ∃ k : Nat, j = .int .i64 k ∧ k ≤ n ∧ Own 3 w.heap.size wr v (sel p k) ∧ Fr No w wr) (fun _ j _ => n - (intOf j).toNat)
  case atStart => exact ⟨0, rfl, by omega, by unfold sel; exact Own.nil _ _ _, Fr.refl _ _⟩
  case round =>
    obtain ⟨k, rfl, hk, hown, hf⟩ := hrel
    have HO := Lib.hid hown
    clear hown
    by_cases hlt : k < n
    · cases hp : p k
      · have HS := Lib.hid (sel_no hp)
        have HP := Lib.hid hp
        clear hp
        go_wp2_with (refine (HC.out k hlt wr hf).mono ?_; rintro e w1 ⟨rfl, rfl⟩; rw [HP.out])
        go_roundw
        case rel => exact ⟨k + 1, by go_num, by omega, by rw [HS.out]; exact HO.out, hf⟩
        case measure => simp [intOf]; omega
      · have HS := Lib.hid (sel_yes hp)
        have HP := Lib.hid hp
        clear hp
        have HL := Lib.hid (sel_len p k)
        go_wp2_with (first
          | (at_builtin; go_must (refine wpList_push1 int39 rfl (.tmp 15) (.tmp 17) rfl w.heap.size u5 (sel p k) (k : Int) rfl (HO.out.alloc _) ⟨wr.heap.size, 0, none⟩ 1 rfl (by simp) (by have := HL.out; omega) (hf.alloc _).size ?_); intro v' w3 hap)
          | (refine (HC.out k hlt wr hf).mono ?_; rintro e w1 ⟨rfl, rfl⟩; rw [HP.out]))
        go_roundw
        case rel => exact ⟨k + 1, by go_num, by omega, hap.1.congr HS.out.symm, hap.fr (hf.alloc _) HO.out (Nat.le_refl _)⟩
        case measure => simp [intOf]; omega
    · obtain rfl : k = n := by omega
      go_wp2
      go_ret
      exact ⟨_, rfl, HO.out, hf⟩
set_option maxHeartbeats 600000 in
theorem those_one {w : World} {m n : Nat} {r : Nat → Nat → Bool} {lo hi : Nat} (h : Mx w m n r lo hi) (F : FuncId) (hF : ∀ (args : Array Value) (w : World), (callFunc F args).run Try.prog w = .ok (.enter F args) w) (c1 : Value) (p : Nat → Bool)
    (hcall : ∀ k : Nat, k < n → ∀ w', Fr No w w' → Calls Try.prog F #[.int .i64 k, c1] w' (fun e w'' => e = .returned (.bool (p k)) ∧ w' = w'')) :
    Calls Try.prog 27 #[.pointer (some ⟨m, 0, none⟩), .func (.func F) #[] #[c1]] w (Thosed (sel p n) w) := by
  have H := Lib.hid h
  have hmost := h.head.1
  have HC := Lib.hid hcall
  clear h hcall
  go_enter Try.func27, Try.ntmps27
  go_wp2_with (go_at_call 21; refine (size_any H.out).mono ?_; rintro e w1 ⟨rfl, rfl⟩)
  go_loopw [5, 9] (fun v j wr => ∃ k : Nat, j = .int .i64 k ∧ k ≤ n ∧ Own 3 w.heap.size wr v (sel p k) ∧ Fr No w wr) (fun _ j _ => n - (intOf j).toNat)
  case atStart => exact ⟨0, rfl, by omega, by unfold sel; exact Own.nil _ _ _, Fr.refl _ _⟩
  case round =>
    obtain ⟨k, rfl, hk, hown, hf⟩ := hrel
    have HO := Lib.hid hown
    clear hown
    by_cases hlt : k < n
    · cases hp : p k
      · have HS := Lib.hid (sel_no hp)
        have HP := Lib.hid hp
        clear hp
        go_wp2_with (refine (HC.out k hlt wr hf).mono ?_; rintro e w1 ⟨rfl, rfl⟩; rw [HP.out])
        go_roundw
        case rel => exact ⟨k + 1, by go_num, by omega, by rw [HS.out]; exact HO.out, hf⟩
        case measure => simp [intOf]; omega
      · have HS := Lib.hid (sel_yes hp)
        have HP := Lib.hid hp
        clear hp
        have HL := Lib.hid (sel_len p k)
        go_wp2_with (first
          | (at_builtin; go_must (refine wpList_push1 int39 rfl (.tmp 15) (.tmp 17) rfl w.heap.size u5 (sel p k) (k : Int) rfl (HO.out.alloc _) ⟨wr.heap.size, 0, none⟩ 1 rfl (by simp) (by have := HL.out; omega) (hf.alloc _).size ?_); intro v' w3 hap)
          | (refine (HC.out k hlt wr hf).mono ?_; rintro e w1 ⟨rfl, rfl⟩; rw [HP.out]))
        go_roundw
        case rel => exact ⟨k + 1, by go_num, by omega, hap.1.congr HS.out.symm, hap.fr (hf.alloc _) HO.out (Nat.le_refl _)⟩
        case measure => simp [intOf]; omega
    · obtain rfl : k = n := by omega
      go_wp2
      go_ret
      exact ⟨_, rfl, HO.out, hf⟩
theorem enter28 (args : Array Value) (w : World) : (callFunc 28 args).run Try.prog w = .ok (.enter 28 args) w := rfl
theorem enter29 (args : Array Value) (w : World) : (callFunc 29 args).run Try.prog w = .ok (.enter 29 args) w := rfl
theorem enter30 (args : Array Value) (w : World) : (callFunc 30 args).run Try.prog w = .ok (.enter 30 args) w := rfl
section
variable {w : World} {m n : Nat} {r : Nat → Nat → Bool} {lo hi : Nat}
set_option maxHeartbeats 400000 in
theorem row_one {x y : Nat} {i k : Int} (h : Mx w m n r lo hi) (hx : w.cell? ⟨x, 0, none⟩ = some (.pointer (some ⟨m, 0, none⟩))) (hy : w.cell? ⟨y, 0, none⟩ = some (.int .i64 i)) :
    Calls Try.prog 28 #[.int .i64 k, .pointer (some ⟨x, 0, none⟩), .pointer (some ⟨y, 0, none⟩)] w (fun e w'' => e = .returned (.bool (hasB n r i k)) ∧ w = w'') := by
  have H := Lib.hid h
  clear h
  go_enter Try.func28, Try.ntmps28
  go_wp2_with (go_at_call 12; refine (has_any H.out _ _).mono ?_; rintro e w1 ⟨rfl, rfl⟩)
  go_ret
  exact ⟨rfl, rfl⟩
set_option maxHeartbeats 400000 in
theorem col_one {x y : Nat} {i k : Int} (h : Mx w m n r lo hi) (hx : w.cell? ⟨x, 0, none⟩ = some (.pointer (some ⟨m, 0, none⟩))) (hy : w.cell? ⟨y, 0, none⟩ = some (.int .i64 i)) :
    Calls Try.prog 29 #[.int .i64 k, .pointer (some ⟨x, 0, none⟩), .pointer (some ⟨y, 0, none⟩)] w (fun e w'' => e = .returned (.bool (hasB n r k i)) ∧ w = w'') := by
  have H := Lib.hid h
  clear h
  go_enter Try.func29, Try.ntmps29
  go_wp2_with (go_at_call 12; refine (has_any H.out _ _).mono ?_; rintro e w1 ⟨rfl, rfl⟩)
  go_ret
  exact ⟨rfl, rfl⟩
set_option maxHeartbeats 400000 in
theorem loop_one {x : Nat} {k : Int} (h : Mx w m n r lo hi) (hx : w.cell? ⟨x, 0, none⟩ = some (.pointer (some ⟨m, 0, none⟩))) :
    Calls Try.prog 30 #[.int .i64 k, .pointer (some ⟨x, 0, none⟩)] w (fun e w'' => e = .returned (.bool (hasB n r k k)) ∧ w = w'') := by
  have H := Lib.hid h
  clear h
  go_enter Try.func30, Try.ntmps30
  go_wp2_with (go_at_call 12; refine (has_any H.out _ _).mono ?_; rintro e w1 ⟨rfl, rfl⟩)
  go_ret
  exact ⟨rfl, rfl⟩
theorem Own.base {E B B' : Nat} {w : World} {v : Value} {l : List Int} (h : Own E B w v l) (hB : B' ≤ B) : Own E B' w v l := by
  refine ⟨h.1, ?_⟩
  rcases h.2 with hn | ⟨g, cap, cur, rfl, hb, rest⟩
  · exact .inl hn
  · exact .inr ⟨g, cap, cur, rfl, Nat.le_trans hB hb, rest⟩
theorem cellOf {w w' : World} {b : Nat} {t : TypeId} {v : Value} (h : Blk w b t #[v]) (hf : Fr No w w') : w'.cell? ⟨b, 0, none⟩ = some v := (h.fr hf fun h => h).cell 0
set_option maxHeartbeats 400000 in
theorem row_any (h : Mx w m n r lo hi) (i : Int) : Calls Try.prog 18 #[.pointer (some ⟨m, 0, none⟩), .int .i64 i] w (Thosed (sel (fun k => hasB n r i k) n) w) := by
  have H := Lib.hid h
  have hb1 := Lib.hid ((Blk.new w 24 #[.pointer (some ⟨m, 0, none⟩)]).alloc (.cells #[.int .i64 i] 3))
  have hb2 := Lib.hid (newn (w.alloc (.cells #[.pointer (some ⟨m, 0, none⟩)] 24)) (w.heap.size + 1) (by simp) 3 #[.int .i64 i])
  have hf0 := Lib.hid (((Fr.refl No w).alloc (.cells #[.pointer (some ⟨m, 0, none⟩)] 24)).alloc (.cells #[.int .i64 i] 3))
  clear h
  go_enter Try.func18, Try.ntmps18
  go_wp2_with (go_at_call 27; refine (those_two (H.out.no hf0.out) 28 enter28 _ _ (fun k => hasB n r i k) (fun k _ w' hf => row_one (H.out.no (hf0.out.trans hf)) (cellOf hb1.out hf) (cellOf hb2.out hf))).mono ?_; rintro e w1 ⟨v, rfl, hown, hf⟩)
  go_ret
  exact ⟨_, rfl, hown.base (by simp; omega), hf0.out.trans hf⟩
set_option maxHeartbeats 400000 in
theorem column_any (h : Mx w m n r lo hi) (i : Int) : Calls Try.prog 19 #[.pointer (some ⟨m, 0, none⟩), .int .i64 i] w (Thosed (sel (fun k => hasB n r k i) n) w) := by
  have H := Lib.hid h
  have hb1 := Lib.hid ((Blk.new w 24 #[.pointer (some ⟨m, 0, none⟩)]).alloc (.cells #[.int .i64 i] 3))
  have hb2 := Lib.hid (newn (w.alloc (.cells #[.pointer (some ⟨m, 0, none⟩)] 24)) (w.heap.size + 1) (by simp) 3 #[.int .i64 i])
  have hf0 := Lib.hid (((Fr.refl No w).alloc (.cells #[.pointer (some ⟨m, 0, none⟩)] 24)).alloc (.cells #[.int .i64 i] 3))
  clear h
  go_enter Try.func19, Try.ntmps19
  go_wp2_with (go_at_call 27; refine (those_two (H.out.no hf0.out) 29 enter29 _ _ (fun k => hasB n r k i) (fun k _ w' hf => col_one (H.out.no (hf0.out.trans hf)) (cellOf hb1.out hf) (cellOf hb2.out hf))).mono ?_; rintro e w1 ⟨v, rfl, hown, hf⟩)
  go_ret
  exact ⟨_, rfl, hown.base (by simp; omega), hf0.out.trans hf⟩
set_option maxHeartbeats 400000 in
theorem loops_any (h : Mx w m n r lo hi) : Calls Try.prog 20 #[.pointer (some ⟨m, 0, none⟩)] w (Thosed (sel (fun k => hasB n r k k) n) w) := by
  have H := Lib.hid h
  have hb1 := Lib.hid (Blk.new w 24 #[.pointer (some ⟨m, 0, none⟩)])
  have hf0 := Lib.hid ((Fr.refl No w).alloc (.cells #[.pointer (some ⟨m, 0, none⟩)] 24))
  clear h
  go_enter Try.func20, Try.ntmps20
  go_wp2_with (go_at_call 27; refine (those_one (H.out.no hf0.out) 30 enter30 _ (fun k => hasB n r k k) (fun k _ w' hf => loop_one (H.out.no (hf0.out.trans hf)) (cellOf hb1.out hf))).mono ?_; rintro e w1 ⟨v, rfl, hown, hf⟩)
  go_ret
  exact ⟨_, rfl, hown.base (by simp), hf0.out.trans hf⟩
end
end Go.Proofs.Ythikjaoffikigaa
