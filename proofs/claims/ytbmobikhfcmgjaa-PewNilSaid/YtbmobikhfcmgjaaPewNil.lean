/- PewNil: for every waiter: in a nil pew nobody waits, none is taken, dropped or listed, and who would come is refused by his own fault or the pew's; no condition. -/
import Derived.Test.YtbmobikhfcmgjaaE
import Derived.Test.YtbmobikhfcmgjaaO
import Derived.Lib.SmallJoins
namespace Go.Proofs.Ytbmobikhfcmgjaa
open Go.RowKit Go.WideShapes Go.ChangeShapes Go.ChangeAt

theorem Blk.three {w : World} {g : Nat} {a b c : Int} (h : Blk w g 28 #[.int .i64 a, .int .i64 b, .int .i64 c]) : w.cell? ⟨g, 0, none⟩ = some (.int .i64 a) ∧ w.cell? ⟨g, 1, none⟩ = some (.int .i64 b) ∧ w.cell? ⟨g, 2, none⟩ = some (.int .i64 c) := ⟨h.cell 0, h.cell 1, h.cell 2⟩

set_option maxHeartbeats 4000000 in
theorem pewNil_walk (a b c : Int) (w : World) : Calls Try.prog 6 #[.agg #[.int .i64 a, .int .i64 b, .int .i64 c]] w (Truly w) := by
  have hb0 := Blk.new w 28 #[.int .i64 a, .int .i64 b, .int .i64 c]
  have hf0 := (Fr.refl No w).alloc (.cells #[.int .i64 a, .int .i64 b, .int .i64 c] 28)
  by_cases h0 : 0 ≤ a
  · have hd0 : decide (0 ≤ a) = true := by simpa using h0
    by_cases h1 : -1 ≤ b
    · have hd1 : decide (-1 ≤ b) = true := by simpa using h1
      go_enter Try.func6, Try.ntmps6
      go_wp2_with fail
      refine (add_nil a b c _ h0 h1).mono ?_
      rintro e w1 ⟨rfl, hf1⟩
      have hb1 := hb0.fr hf1 (fun h => h)
      have fr1 := hf0.trans hf1
      clear hb0 hf0 hf1
      go_wp2_with fail
      refine (take_nil _).mono ?_
      rintro e w2 ⟨rfl, hf2⟩
      have hb2 := (hb1.fr hf2 (fun h => h)).alloc (.cells #[.int .i64 0, .int .i64 0, .int .i64 0] 28)
      have fr2 := (fr1.trans hf2).alloc (.cells #[.int .i64 0, .int .i64 0, .int .i64 0] 28)
      clear hb1 fr1 hf2
      go_wp2_with fail
      refine (first_nil _).mono ?_
      rintro e w3 ⟨rfl, hf3⟩
      have hb3 := (hb2.fr hf3 (fun h => h)).alloc (.cells #[.int .i64 0, .int .i64 0, .int .i64 0] 28)
      have fr3 := (fr2.trans hf3).alloc (.cells #[.int .i64 0, .int .i64 0, .int .i64 0] 28)
      obtain ⟨d0, d1, d2⟩ := hb3.three
      have HB3 := Lib.hid hb3
      clear hb2 fr2 hf3 hb3 d2
      go_wp2_with fail
      refine (drop_nil a _).mono ?_
      rintro e w4 ⟨rfl, hf4⟩
      have hb4 := HB3.out.fr hf4 (fun h => h)
      have fr4 := fr3.trans hf4
      obtain ⟨k0, k1, k2⟩ := hb4.three
      have HB4 := Lib.hid hb4
      clear fr3 hf4 d0 d1 k1 k2 hb4
      go_wp2_with fail
      refine (has_nil a _).mono ?_
      rintro e w5 ⟨rfl, hf5⟩
      have fr5 := fr4.trans hf5
      go_wp2_with (first
        | (go_at_call 13; refine (len_nil _).mono ?_; rintro e w' ⟨rfl, rfl⟩)
        | (go_at_call 23; refine (list_nil _).mono ?_; rintro e w6 ⟨v, rfl, hown, hf6⟩; obtain ⟨A, c, rfl, _, _⟩ := hown.form)
        | (go_at_call 9; refine (three_any _).mono ?_; rintro e w7 ⟨rfl, hf7⟩))
      go_ret
      exact ⟨rfl, (fr5.trans hf6).trans hf7⟩
    · have hd1 : decide (-1 ≤ b) = false := by simpa using h1
      have hbad := Lib.hid (show a < 0 ∨ b < -1 by omega)
      go_enter Try.func6, Try.ntmps6
      go_wp2_with fail
      refine (add_bad none a b c _ hbad.out).mono ?_
      rintro e w1 ⟨rfl, hf1⟩
      have hb1 := hb0.fr hf1 (fun h => h)
      have fr1 := hf0.trans hf1
      clear hb0 hf0 hf1
      go_wp2_with fail
      refine (take_nil _).mono ?_
      rintro e w2 ⟨rfl, hf2⟩
      have hb2 := (hb1.fr hf2 (fun h => h)).alloc (.cells #[.int .i64 0, .int .i64 0, .int .i64 0] 28)
      have fr2 := (fr1.trans hf2).alloc (.cells #[.int .i64 0, .int .i64 0, .int .i64 0] 28)
      clear hb1 fr1 hf2
      go_wp2_with fail
      refine (first_nil _).mono ?_
      rintro e w3 ⟨rfl, hf3⟩
      have hb3 := (hb2.fr hf3 (fun h => h)).alloc (.cells #[.int .i64 0, .int .i64 0, .int .i64 0] 28)
      have fr3 := (fr2.trans hf3).alloc (.cells #[.int .i64 0, .int .i64 0, .int .i64 0] 28)
      obtain ⟨d0, d1, d2⟩ := hb3.three
      have HB3 := Lib.hid hb3
      clear hb2 fr2 hf3 hb3 d2
      go_wp2_with fail
      refine (drop_nil a _).mono ?_
      rintro e w4 ⟨rfl, hf4⟩
      have hb4 := HB3.out.fr hf4 (fun h => h)
      have fr4 := fr3.trans hf4
      obtain ⟨k0, k1, k2⟩ := hb4.three
      have HB4 := Lib.hid hb4
      clear fr3 hf4 d0 d1 k1 k2 hb4
      go_wp2_with fail
      refine (has_nil a _).mono ?_
      rintro e w5 ⟨rfl, hf5⟩
      have fr5 := fr4.trans hf5
      go_wp2_with (first
        | (go_at_call 13; refine (len_nil _).mono ?_; rintro e w' ⟨rfl, rfl⟩)
        | (go_at_call 23; refine (list_nil _).mono ?_; rintro e w6 ⟨v, rfl, hown, hf6⟩; obtain ⟨A, c, rfl, _, _⟩ := hown.form)
        | (go_at_call 9; refine (three_any _).mono ?_; rintro e w7 ⟨rfl, hf7⟩))
      go_ret
      exact ⟨rfl, (fr5.trans hf6).trans hf7⟩
  · have hd0 : decide (0 ≤ a) = false := by simpa using h0
    have hbad := Lib.hid (show a < 0 ∨ b < -1 by omega)
    go_enter Try.func6, Try.ntmps6
    go_wp2_with fail
    refine (add_bad none a b c _ hbad.out).mono ?_
    rintro e w1 ⟨rfl, hf1⟩
    have hb1 := hb0.fr hf1 (fun h => h)
    have fr1 := hf0.trans hf1
    clear hb0 hf0 hf1
    go_wp2_with fail
    refine (take_nil _).mono ?_
    rintro e w2 ⟨rfl, hf2⟩
    have hb2 := (hb1.fr hf2 (fun h => h)).alloc (.cells #[.int .i64 0, .int .i64 0, .int .i64 0] 28)
    have fr2 := (fr1.trans hf2).alloc (.cells #[.int .i64 0, .int .i64 0, .int .i64 0] 28)
    clear hb1 fr1 hf2
    go_wp2_with fail
    refine (first_nil _).mono ?_
    rintro e w3 ⟨rfl, hf3⟩
    have hb3 := (hb2.fr hf3 (fun h => h)).alloc (.cells #[.int .i64 0, .int .i64 0, .int .i64 0] 28)
    have fr3 := (fr2.trans hf3).alloc (.cells #[.int .i64 0, .int .i64 0, .int .i64 0] 28)
    obtain ⟨d0, d1, d2⟩ := hb3.three
    have HB3 := Lib.hid hb3
    clear hb2 fr2 hf3 hb3 d2
    go_wp2_with fail
    refine (drop_nil a _).mono ?_
    rintro e w4 ⟨rfl, hf4⟩
    have hb4 := HB3.out.fr hf4 (fun h => h)
    have fr4 := fr3.trans hf4
    obtain ⟨k0, k1, k2⟩ := hb4.three
    have HB4 := Lib.hid hb4
    clear fr3 hf4 d0 d1 k1 k2 hb4
    go_wp2_with fail
    refine (has_nil a _).mono ?_
    rintro e w5 ⟨rfl, hf5⟩
    have fr5 := fr4.trans hf5
    go_wp2_with (first
      | (go_at_call 13; refine (len_nil _).mono ?_; rintro e w' ⟨rfl, rfl⟩)
      | (go_at_call 23; refine (list_nil _).mono ?_; rintro e w6 ⟨v, rfl, hown, hf6⟩; obtain ⟨A, c, rfl, _, _⟩ := hown.form)
      | (go_at_call 9; refine (three_any _).mono ?_; rintro e w7 ⟨rfl, hf7⟩))
    go_ret
    exact ⟨rfl, (fr5.trans hf6).trans hf7⟩

set_option maxRecDepth 100000 in
theorem pewNil_lifted (os : Os) (started : os.Started) (H : Type) (enc : TypeId × Value → H) :
    ReturnsInHanded {} Try.checked os 6 .any (Rows.pewNilSpec.pre6 enc Try.prog Try.f6 Rows.pewNilRow.domain false) (Rows.pewNilSpec.post enc Try.prog Try.f6 false true false false) := by
  refine law_of_walk Try.underlying4 started H enc Try.func6 (by kernel_rfl) rfl rfl
    (ChangeSpec.witness6 (enc := enc) (C := Try.checked) false ⟨#[], #[.agg #[.int .i64 0, .int .i64 0, .int .i64 0]], []⟩ 8 (by kernel_rfl) (by kernel_rfl) (by kernel_rfl) (by kernel_rfl)) ?_ ?_ ?_
  · intro ds hl
    match ds, hl with
    | [d0], _ => rfl
  · rw [Try.params6]
    simp only [List.mem_cons, List.not_mem_nil, or_false, forall_eq_or_imp, forall_eq]
    exact ⟨by kernel_rfl, of_decide_eq_true (by kernel_rfl)⟩
  · intro W base args ds p hval hA hlt _
    rw [Try.params6] at hA hval
    obtain ⟨v0, vs0, d0, ds0, p0, q0, hargs, rfl, rfl, h0, r0⟩ := trodAll_cons hA
    obtain ⟨rfl, rfl, rfl⟩ := trodAll_nil r0
    obtain rfl : args = #[v0] := by cases args; simp_all
    obtain ⟨g00, g01, g02, y00, y01, y02, mm0, rfl, rfl, rfl, hy00, hy01, hy02⟩ := Joins.open_agg3 Try.underlying28 (by kernel_rfl) (by kernel_rfl) (hval 0 28 v0 rfl rfl) h0
    obtain ⟨a00, e00, _, w00⟩ := DataW.trod_int Try.underlying3 hy00
    simp at e00
    subst e00
    obtain ⟨a01, e01, _, w01⟩ := DataW.trod_int Try.underlying3 hy01
    simp at e01
    subst e01
    obtain ⟨a02, e02, _, w02⟩ := DataW.trod_int Try.underlying3 hy02
    simp at e02
    subst e02
    exact pewNil_walk a00 a01 a02 W

theorem pewNil_holds : Rows.PewNilSaid :=
  OpenClaim.holds_of_wide 6 Try.f6 rfl rfl rfl rfl rfl rfl rfl ⟨rfl, rfl, rfl, rfl, rfl⟩ rfl rfl rfl rfl rfl (by kernel_rfl) Try.func6 (by kernel_rfl)
    (of_decide_eq_true (by kernel_rfl)) (by unfold Func.isWrapper; first | (rw [if_pos (by decide +kernel)]; kernel_rfl) | (rw [if_neg (by decide +kernel)]; exact ⟨rfl, rfl⟩))
    (fun os started H enc _ => pewNil_lifted os started H enc)
#print axioms pewNil_holds
end Go.Proofs.Ytbmobikhfcmgjaa
