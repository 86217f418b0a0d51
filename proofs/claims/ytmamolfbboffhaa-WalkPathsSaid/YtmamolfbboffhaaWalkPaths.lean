/- WalkPaths: for every trace, the path's places, its end and the direction there are the document's; past 2000 events both say it is too long; no condition. -/
import Derived.Test.YtmamolfbboffhaaN
namespace Go.Proofs.Ytmamolfbboffhaa
open Go.RowKit Go.WideShapes Go.ChangeShapes Go.ChangeAt

attribute [local go_sem] run_store_float run_store_complex
set_option maxRecDepth 100000 in
set_option maxHeartbeats 1000000 in
theorem walkPaths_far (A : Option Addr) (n c : Nat) (w : World) (h : 2100 < n) (hn : n ≤ 9223372036854775807) : Calls Try.prog 5 #[.slice A n c] w (Truly w) := by
  go_enter Try.func5, Try.ntmps5
  go_wp2_with (go_at_call 8; refine (two_any _).mono ?_; rintro e w' ⟨rfl, hf⟩)
  go_ret
  exact ⟨rfl, hf⟩
set_option maxRecDepth 100000 in
set_option maxHeartbeats 1000000 in
theorem walkPaths_mid (A : Option Addr) (n c : Nat) (w : World) (h : 2000 < n) (h2 : n ≤ 2100) : Calls Try.prog 5 #[.slice A n c] w (Truly w) := by
  go_enter Try.func5, Try.ntmps5
  go_wp2_with (first
    | (go_at_call 8; refine (two_any _).mono ?_; rintro e w' ⟨rfl, hf⟩)
    | (go_at_call 15; refine (path_long _ _ _ _ h (by omega)).mono ?_; rintro e1 w1 ⟨rfl, rfl⟩)
    | (go_at_call 16; refine (end_long _ _ _ _ h (by omega)).mono ?_; rintro e1 w1 ⟨rfl, rfl⟩))
  go_ret
  exact ⟨rfl, hf⟩

theorem dirn_le {d : Int × Int} (h : Dir d) : d.1.natAbs ≤ 1 ∧ d.2.natAbs ≤ 1 := by
  unfold Dir at h
  rcases h with rfl | rfl | rfl | rfl <;> decide
theorem way_get {l : List Ev} {n j : Nat} (h : j ≤ n) (h' : j < (way l n).length) : (way l n)[j] = (st l j).1 := by simp [way]
theorem Way_at {w : World} {A : Option Addr} {l : List Ev} {n : Nat} (h : SlS plS w A (way l n)) {j : Nat} (hj : j ≤ n) : ∃ b off, A = some ⟨b, off, none⟩ ∧ b < w.heap.size ∧ w.cell? ⟨b, off + j * 2, none⟩ = some (.int .i64 (st l j).1.1) ∧ w.cell? ⟨b, off + j * 2 + 1, none⟩ = some (.int .i64 (st l j).1.2) := by
  have hl : j < (way l n).length := by rw [way_len]; omega
  obtain ⟨b, off, h1, h2, h3, h4⟩ := Places_at h hl
  rw [way_get hj hl] at h3 h4
  exact ⟨b, off, h1, h2, h3, h4⟩
theorem Zvs.way_at {zs : List Zw} {l : List Ev} {n : Nat} (h : Zvs zs (way l n)) {j : Nat} (hj : j ≤ n) (h' : j < zs.length) : Zv zs[j] (st l j).1 := by
  have := h.2 j h' (by rw [← h.1]; exact h')
  rw [way_get hj] at this
  exact this
theorem st_small {l : List Ev} (hl : l.length ≤ 2000) {j : Nat} (h : j ≤ l.length) : (st l j).1.1.natAbs < 2 ^ 53 ∧ (st l j).1.2.natAbs < 2 ^ 53 := by
  obtain ⟨_, h2, h3⟩ := st_ok l j h
  omega
attribute [local irreducible] st way
set_option maxRecDepth 100000 in
set_option maxHeartbeats 4000000 in
theorem walkPaths_near {w : World} {A : Option Addr} (c : Nat) {l : List Ev} (hA : SlS evS w A l) (hw : EvsWf l) (hl : l.length ≤ 2000) : Calls Try.prog 5 #[.slice A l.length c] w (Truly w) := by
  have hdir : (st l l.length).2.1.natAbs < 2 ^ 53 ∧ (st l l.length).2.2.natAbs < 2 ^ 53 := by have := dirn_le (st_ok l l.length (Nat.le_refl _)).1; omega
  have hend := st_small hl (Nat.le_refl l.length)
  have hlw := Lib.hid (way_len l l.length)
  go_enter Try.func5, Try.ntmps5
  go_wp2_with (first
    | (go_at_call 15; refine (path_any c hA hl).mono ?_; rintro e1 w1 ⟨v1, zs, rfl, hown1, hzs, hf1⟩
       obtain ⟨A1, c1, rfl, hz1, _⟩ := hown1.form
       rw [show zs.length = l.length + 1 from hzs.1.trans hlw.out])
    | (go_at_call 16; refine (end_any c (hA.no hf1) hl).mono ?_; rintro e2 w2 ⟨za, zb, rfl, hza, hzb, hf2⟩)
    | (go_at_call 17; refine (paths_any c ((hA.no hf1).no hf2) hw hl).mono ?_; rintro e3 w3 ⟨L, rfl, hown3, hf3⟩
       obtain ⟨A3, c3, rfl, hz3, _⟩ := hown3.form
       rw [hlw.out]
       unfold walkV
       have hz3' := Lib.hid hz3
       obtain ⟨b3, o3, rfl, hb3, q0, q1⟩ := Way_at hz3 (Nat.le_refl _)
       have hbw := Blk.new w3 44 #[.slice (some ⟨b3, o3, none⟩) (l.length + 1) c3, .int .i64 (st l l.length).2.1, .int .i64 (st l l.length).2.2])
    | (go_at_call 10; refine (whole_yes hza.1 hza.2 hend.1 hend.2 _).mono ?_; rintro e4 w4 ⟨rfl, hf4⟩
       have hbx := hbw.fr hf4 (fun h => h)
       have p1 := hbx.cell 1
       have p2 := hbx.cell 2
       have p0 := hbx.cell 0
       have hgx := hbx.lt
       clear hza)
    | (go_at_call 10; refine (whole_yes hzb.1 hzb.2 hdir.1 hdir.2 _).mono ?_; rintro e5 w5 ⟨rfl, hf5⟩; have hbl := hbx.fr hf5 (fun h => h)))
  have hf6 := ((((hf1.trans hf2).trans hf3).alloc (.cells #[.slice (some ⟨b3, o3, none⟩) (l.length + 1) c3, .int .i64 (st l l.length).2.1, .int .i64 (st l l.length).2.2] 44)).trans hf4).trans hf5
  have hz6 := (((((hz1.no hf2).no hf3).no ((Fr.refl No w3).alloc (.cells #[.slice (some ⟨b3, o3, none⟩) (l.length + 1) c3, .int .i64 (st l l.length).2.1, .int .i64 (st l l.length).2.2] 44))).no hf4).no hf5)
  have hz7 := (((hz3'.out.no ((Fr.refl No w3).alloc (.cells #[.slice (some ⟨b3, o3, none⟩) (l.length + 1) c3, .int .i64 (st l l.length).2.1, .int .i64 (st l l.length).2.2] 44))).no hf4).no hf5)
  clear hz1 hz3 hz3' hown1 hown3 hbx hbw p0 p1 p2 hzb hA hw
  have hz8 := Lib.hid hz6
  have hz9 := Lib.hid hz7
  clear hz6 hz7
  go_loopw [80] (fun i wr => ∃ (k : Nat), i = .int .i64 k ∧ k ≤ l.length + 1 ∧ Fr No w5 wr) (fun i _ => l.length + 1 - (intOf i).toNat)
  case atStart => exact ⟨0, rfl, by omega, Fr.refl _ _⟩
  case round =>
    obtain ⟨k, rfl, hk, hf⟩ := hrel
    have hbr := hbl.fr hf (fun h => h)
    have p0 := hbr.cell 0
    have hgx := hbr.lt
    by_cases hlt : k < l.length + 1
    · obtain ⟨ba, off, rfl, hbb, d0⟩ := Zs_at (hz8.out.no hf) (k := k) (by rw [hzs.1, hlw.out]; exact hlt)
      obtain ⟨_, _, e1, _, d1, d2⟩ := Way_at (hz9.out.no hf) (j := k) (by omega)
      cases e1
      have hzk := Zvs.way_at hzs (j := k) (by omega) (by rw [hzs.1, hlw.out]; exact hlt)
      obtain ⟨s1, s2⟩ := st_small hl (show k ≤ l.length by omega)
      go_wp2
      go_region_with (go_at_call 10; refine (whole_yes hzk.1 hzk.2 s1 s2 _).mono ?_; rintro e7 w7 ⟨rfl, hf7⟩)
      all_goals go_wp2
      all_goals
        go_roundw
        case rel => exact ⟨k + 1, by go_num, by omega, hf.drew.trans hf7⟩
        case measure => simp [intOf]; omega
    · go_wp2_with (go_at_call 8; refine (two_any _).mono ?_; rintro e8 w8 ⟨rfl, hf8⟩)
      go_ret
      exact ⟨rfl, (hf6.trans hf).trans hf8⟩
set_option maxRecDepth 100000 in
theorem walkPaths_lifted (os : Os) (started : os.Started) (H : Type) (enc : TypeId × Value → H) :
    ReturnsInHanded {} Try.checked os 5 .any (Rows.walkPathsSpec.pre6 enc Try.prog Try.f5 Rows.walkPathsRow.domain false) (Rows.walkPathsSpec.post enc Try.prog Try.f5 false true false false) := by
  refine law_of_walk Try.underlying4 started H enc Try.func5 (by kernel_rfl) rfl rfl
    (ChangeSpec.witness6 (enc := enc) (C := Try.checked) false ⟨#[], #[.slice none 0 0], []⟩ 8 (by kernel_rfl) (by kernel_rfl) (by kernel_rfl) (by kernel_rfl)) ?_ ?_ ?_
  · intro ds hl
    match ds, hl with
    | [d0], _ => rfl
  · rw [Try.params5]
    simp only [List.mem_cons, List.not_mem_nil, or_false, forall_eq_or_imp, forall_eq]
    exact ⟨by kernel_rfl, of_decide_eq_true (by kernel_rfl)⟩
  · intro W base args ds p hval hA hlt _
    rw [Try.params5] at hA hval
    obtain ⟨v0, vs0, d0, ds0, p0, q0, hargs, rfl, rfl, h0, r0⟩ := trodAll_cons hA
    obtain ⟨rfl, rfl, rfl⟩ := trodAll_nil r0
    obtain rfl : args = #[v0] := by cases args; simp_all
    obtain ⟨A0, c0, xs0, rfl, hl0, hm0, hw0, hc0⟩ := open_events (hval 0 37 v0 rfl rfl) h0
    have hm0' : xs0.length ≤ 9223372036854775807 := by unfold maxLen at hm0; omega
    by_cases h1 : 2100 < xs0.length
    · exact walkPaths_far A0 _ c0 W h1 hm0'
    · by_cases h2 : 2000 < xs0.length
      · exact walkPaths_mid A0 _ c0 W h2 (by omega)
      · exact walkPaths_near c0 hc0 hw0 (by omega)

theorem walkPaths_holds : Rows.WalkPathsSaid :=
  OpenClaim.holds_of_wide 5 Try.f5 rfl rfl rfl rfl rfl rfl rfl ⟨rfl, rfl, rfl, rfl, rfl⟩ rfl rfl rfl rfl rfl (by kernel_rfl) Try.func5 (by kernel_rfl)
    (of_decide_eq_true (by kernel_rfl)) (by unfold Func.isWrapper; first | (rw [if_pos (by decide +kernel)]; kernel_rfl) | (rw [if_neg (by decide +kernel)]; exact ⟨rfl, rfl⟩))
    (fun os started H enc _ => walkPaths_lifted os started H enc)
#print axioms walkPaths_holds
end Go.Proofs.Ytmamolfbboffhaa
