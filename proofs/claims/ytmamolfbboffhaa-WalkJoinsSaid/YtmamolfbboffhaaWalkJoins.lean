/- WalkJoins: for all two traces, the path of both is the first one's, then the second one's turned and moved to where the first ends; no condition. -/
import Derived.Test.YtmamolfbboffhaaS
namespace Go.Proofs.Ytmamolfbboffhaa
open Go.RowKit Go.WideShapes Go.ChangeShapes Go.ChangeAt
attribute [local go_sem] run_store_float run_store_complex

set_option maxRecDepth 100000 in
set_option maxHeartbeats 1000000 in
theorem walkJoins_far (A B : Option Addr) (n c m d : Nat) (w : World) (h : 500 < n ∨ 500 < m) (hn : n ≤ 9223372036854775807) (hm : m ≤ 9223372036854775807) : Calls Try.prog 6 #[.slice A n c, .slice B m d] w (Truly w) := by
  by_cases h1 : 500 < n
  · clear h
    go_enter Try.func6, Try.ntmps6
    go_wp2_with (go_at_call 8; refine (two_any _).mono ?_; rintro e w' ⟨rfl, hf⟩)
    go_ret
    exact ⟨rfl, hf⟩
  · have h2 : 500 < m := by omega
    have h3 : n ≤ 500 := by omega
    clear h h1
    go_enter Try.func6, Try.ntmps6
    go_wp2_with (go_at_call 8; refine (two_any _).mono ?_; rintro e w' ⟨rfl, hf⟩)
    go_ret
    exact ⟨rfl, hf⟩

theorem way_get' {l : List Ev} {n j : Nat} (h : j ≤ n) (h' : j < (way l n).length) : (way l n)[j] = (st l j).1 := by simp [way]
theorem Zvs.way_at' {zs : List Zw} {l : List Ev} {n : Nat} (h : Zvs zs (way l n)) {j : Nat} (hj : j ≤ n) (h' : j < zs.length) : Zv zs[j] (st l j).1 := by
  have := h.2 j h' (by rw [← h.1]; exact h')
  rw [way_get' hj] at this
  exact this
theorem dirj_le {d : Int × Int} (h : Dir d) : d.1.natAbs ≤ 1 ∧ d.2.natAbs ≤ 1 := by
  unfold Dir at h
  rcases h with rfl | rfl | rfl | rfl <;> decide
theorem moved_small {s r : Wk} (hd : Dir s.2) (h1 : s.1.1.natAbs ≤ 4000) (h2 : s.1.2.natAbs ≤ 4000) (h3 : r.1.1.natAbs ≤ 4000) (h4 : r.1.2.natAbs ≤ 4000) :
    (s.1.1 + (mulZ s.2 r.1).1).natAbs ≤ 8000 ∧ (s.1.2 + (mulZ s.2 r.1).2).natAbs ≤ 8000 := by
  unfold Dir at hd
  obtain ⟨⟨x, y⟩, d⟩ := s
  rcases hd with h | h | h | h <;> (simp only at h; subst h; simp [mulZ] at *; omega)

attribute [local irreducible] st way mulZ stepZ
set_option maxRecDepth 100000 in
set_option maxHeartbeats 1000000 in
theorem walkJoins_near {w : World} {A B : Option Addr} (c d : Nat) {a b : List Ev} (hA : SlS evS w A a) (hB : SlS evS w B b) (ha : a.length ≤ 500) (hb : b.length ≤ 500) : Calls Try.prog 6 #[.slice A a.length c, .slice B b.length d] w (Truly w) := by
  have g1 := Lib.hid hA
  have g2 := Lib.hid hA
  have HA := Lib.hid hA
  have HB := Lib.hid hB
  clear hA hB
  go_enter Try.func6, Try.ntmps6
  go_wp2_with (first
    | (at_builtin; have g := g1; clear g g1; go_must (refine wpList_apdIn (S := evS) el37 rfl (.tmp 26) (.tmp 27) rfl w.heap.size (.slice none 0 0) [] a rfl (OwnS.nil _ _ _) A a.length c rfl rfl HA.out (by show 0 + a.length ≤ 1000000000; omega) (by decide) (Nat.le_refl _) ?_); intro v1 w1 hap1
       have hf1 := hap1.fr (Fr.refl No w) (OwnS.nil (S := evS) 54 w.heap.size w) (Nat.le_refl _))
    | (at_builtin; go_must (refine wpList_apdIn (S := evS) el37 rfl (.tmp 29) (.tmp 30) rfl w.heap.size v1 a b rfl hap1.1 B b.length d rfl rfl (HB.out.no hf1) (by show a.length + b.length ≤ 1000000000; omega) (by decide) hf1.size ?_); intro v2 w2 hap2
       have hf2 := hap2.fr hf1 hap1.1 (Nat.le_refl _)
       obtain ⟨A2, c2, rfl, hab, _⟩ := hap2.1.form
       have HAB := Lib.hid hab
       clear hab)
    | (go_at_call 15; have g := g2; clear g g2; refine (path_len c rfl (HA.out.no hf2) (by omega)).mono ?_; rintro e3 w3 ⟨v3, zp, rfl, hown3, hzp, hf3⟩
       obtain ⟨A3, c3, rfl, hsp, _⟩ := hown3.form
       have HP := Lib.hid hsp
       clear hsp
       have g3 := HA)
    | (go_at_call 15; have g := g3; clear g g3; refine (path_len d rfl ((HB.out.no hf2).no hf3) (by omega)).mono ?_; rintro e4 w4 ⟨v4, zq, rfl, hown4, hzq, hf4⟩
       obtain ⟨A4, c4, rfl, hsq, _⟩ := hown4.form
       have HQ := Lib.hid hsq
       clear hsq)
    | (go_at_call 15; refine (path_len c2 (by first | rfl | exact List.length_append) ((HAB.out.no hf3).no hf4) (by simp; omega)).mono ?_; rintro e5 w5 ⟨v5, zr, rfl, hown5, hzr, hf5⟩
       obtain ⟨A5, c5, rfl, hsr, _⟩ := hown5.form
       have HR := Lib.hid hsr
       clear hsr
       have hlp : zp.length = a.length + 1 := hzp.1.trans (way_len _ _)
       have hlq : zq.length = b.length + 1 := hzq.1.trans (way_len _ _)
       have hlr : zr.length = a.length + b.length + 1 := by rw [hzr.1, way_len]; simp
       rw [hlp, hlq, hlr])
    | (go_at_call 16; refine (end_any c ((((HA.out.no hf2).no hf3).no hf4).no hf5) (by omega)).mono ?_; rintro e6 w6 ⟨za, zb, rfl, hza, hzb, hf6⟩))
  have hall := ((((hf2.trans hf3).trans hf4).trans hf5).trans hf6)
  have KR := Lib.hid ((HR.out).no hf6)
  have KP := Lib.hid ((((HP.out).no hf4).no hf5).no hf6)
  have KQ := Lib.hid (((HQ.out).no hf5).no hf6)
  have KZ := Lib.hid hza
  have KD := Lib.hid hzb
  have L1 := Lib.hid (show zp.length = a.length + 1 from hzp.1.trans (way_len _ _))
  have L2 := Lib.hid (show zq.length = b.length + 1 from hzq.1.trans (way_len _ _))
  have L3 := Lib.hid (show zr.length = a.length + b.length + 1 by rw [hzr.1, way_len]; simp)
  have M1 := Lib.hid hzp
  have M2 := Lib.hid hzq
  have M3 := Lib.hid hzr
  clear hza hzb hzp hzq hzr hap1 hap2 hown3 hown4 hown5 HR HP HQ HA HB HAB
  have hbne : ((a.length : Int) + (b.length : Int) + 1 != (a.length : Int) + 1 + ((b.length : Int) + 1) - 1) = false := by simp; omega
  rw [hbne]
  clear hbne
  go_loopw [80] (fun i wr => ∃ (k : Nat), i = .int .i64 k ∧ k ≤ a.length + 1 ∧ Fr No w6 wr) (fun i _ => a.length + 1 - (intOf i).toNat)
  case atStart => exact ⟨0, rfl, by omega, Fr.refl _ _⟩
  case round =>
    obtain ⟨k, rfl, hk, hf⟩ := hrel
    by_cases hlt : k < a.length + 1
    · have l1 := L1.out
      have l3 := L3.out
      obtain ⟨b1, o1, e1, hb1, d1⟩ := Zs_at (KR.out.no hf) (k := k) (by omega)
      obtain ⟨b2, o2, e2, hb2, d2⟩ := Zs_at (KP.out.no hf) (k := k) (by omega)
      have z1 := M3.out.way_at' (j := k) (by simp; omega) (by omega)
      have z2 := M1.out.way_at' (j := k) (by omega) (by omega)
      rw [st_left a b (by omega)] at z1
      obtain ⟨q1, q2⟩ := zv_eq z1 z2
      subst e1 e2
      clear z1 z2 l1 l3
      go_wp2
      go_quiet (fail)
      rename_i nq
      go_wp2
      go_roundw
      case rel => exact ⟨k + 1, by go_num, by omega, hf.drewN nq⟩
      case measure => simp [intOf]; omega
    · go_wp2
      go_loopw [95] (fun i wr => ∃ (k : Nat), i = .int .i64 k ∧ k ≤ b.length + 1 ∧ Fr No w6 wr) (fun i _ => b.length + 1 - (intOf i).toNat)
      case atStart => exact ⟨0, rfl, by omega, hf⟩
      case round =>
        clear hf hk hlt
        obtain ⟨k, rfl, hk, hf⟩ := hrel
        by_cases hlt : k < b.length + 1
        · have l2 := L2.out
          have l3 := L3.out
          obtain ⟨b1, o1, e1, hb1, d1⟩ := Zs_at (KR.out.no hf) (k := a.length + k) (by omega)
          obtain ⟨b2, o2, e2, hb2, d2⟩ := Zs_at (KQ.out.no hf) (k := k) (by omega)
          have z1 := M3.out.way_at' (j := a.length + k) (by simp; omega) (by omega)
          have z2 := M2.out.way_at' (j := k) (by omega) (by omega)
          rw [st_right a b (by omega)] at z1
          obtain ⟨sd, s1, s2⟩ := st_ok a a.length (Nat.le_refl _)
          obtain ⟨td, t1, t2⟩ := st_ok b k (by omega)
          have sd1 := dirj_le sd
          have ms := moved_small (s := st a a.length) (r := st b k) sd (by omega) (by omega) (by omega) (by omega)
          obtain ⟨r, i, em, hm⟩ := zv_mul KD.out z2 10000 (by decide) (by omega) (by omega) (by omega) (by omega)
          obtain ⟨r2, i2, em2, hm2⟩ := zv_add KZ.out hm (by omega) (by omega)
          have hrun := fun w => run_complex_mul (P := Try.prog) w 23 _ _ _ _ _ _ em
          have hrun2 := fun w => run_complex_sum (P := Try.prog) w .add (.inl rfl) 23 .f64 _ _ _ _ _ _ em2
          obtain ⟨q1, q2⟩ := zv_eq z1 hm2
          subst e1 e2
          clear z1 z2 l2 l3 hm hm2 em em2 sd s1 s2 td t1 t2 sd1 ms
          go_wp2
          go_quiet (fail)
          rename_i nq
          go_wp2
          go_roundw
          case rel => exact ⟨k + 1, by go_num, by omega, hf.drewN nq⟩
          case measure => simp [intOf]; omega
        · go_wp2_with (go_at_call 8; refine (two_any _).mono ?_; rintro e8 w8 ⟨rfl, hf8⟩)
          go_ret
          exact ⟨rfl, (hall.trans hf).trans hf8⟩
set_option maxRecDepth 100000 in
theorem walkJoins_lifted (os : Os) (started : os.Started) (H : Type) (enc : TypeId × Value → H) :
    ReturnsInHanded {} Try.checked os 6 .any (Rows.walkJoinsSpec.pre6 enc Try.prog Try.f6 Rows.walkJoinsRow.domain false) (Rows.walkJoinsSpec.post enc Try.prog Try.f6 false true false false) := by
  refine law_of_walk Try.underlying4 started H enc Try.func6 (by kernel_rfl) rfl rfl
    (ChangeSpec.witness6 (enc := enc) (C := Try.checked) false ⟨#[], #[.slice none 0 0, .slice none 0 0], []⟩ 8 (by kernel_rfl) (by kernel_rfl) (by kernel_rfl) (by kernel_rfl)) ?_ ?_ ?_
  · intro ds hl
    match ds, hl with
    | [d0, d1], _ => rfl
  · rw [Try.params6]
    simp only [List.mem_cons, List.not_mem_nil, or_false, forall_eq_or_imp, forall_eq]
    exact ⟨⟨by kernel_rfl, of_decide_eq_true (by kernel_rfl)⟩, ⟨by kernel_rfl, of_decide_eq_true (by kernel_rfl)⟩⟩
  · intro W base args ds p hval hA hlt _
    rw [Try.params6] at hA hval
    obtain ⟨v0, vs0, d0, ds0, p0, q0, hargs, rfl, rfl, h0, r0⟩ := trodAll_cons hA
    obtain ⟨v1, vs1, d1, ds1, p1, q1, rfl, rfl, rfl, h1, r1⟩ := trodAll_cons r0
    obtain ⟨rfl, rfl, rfl⟩ := trodAll_nil r1
    obtain rfl : args = #[v0, v1] := by cases args; simp_all
    obtain ⟨A0, c0, xs0, rfl, hl0, hm0, hw0, hc0⟩ := open_events (hval 0 37 v0 rfl rfl) h0
    obtain ⟨A1, c1, xs1, rfl, hl1, hm1, hw1, hc1⟩ := open_events (hval 1 37 v1 rfl rfl) h1
    have hm0' : xs0.length ≤ 9223372036854775807 := by unfold maxLen at hm0; omega
    have hm1' : xs1.length ≤ 9223372036854775807 := by unfold maxLen at hm1; omega
    by_cases h1 : 500 < xs0.length ∨ 500 < xs1.length
    · exact walkJoins_far A0 A1 _ c0 _ c1 W h1 hm0' hm1'
    · exact walkJoins_near c0 c1 hc0 hc1 (by omega) (by omega)

theorem walkJoins_holds : Rows.WalkJoinsSaid :=
  OpenClaim.holds_of_wide 6 Try.f6 rfl rfl rfl rfl rfl rfl rfl ⟨rfl, rfl, rfl, rfl, rfl⟩ rfl rfl rfl rfl rfl (by kernel_rfl) Try.func6 (by kernel_rfl)
    (of_decide_eq_true (by kernel_rfl)) (by unfold Func.isWrapper; first | (rw [if_pos (by decide +kernel)]; kernel_rfl) | (rw [if_neg (by decide +kernel)]; exact ⟨rfl, rfl⟩))
    (fun os started H enc _ => walkJoins_lifted os started H enc)
#print axioms walkJoins_holds
end Go.Proofs.Ytmamolfbboffhaa
