/- WalkBoxes: for all places, the box around them, the first place that is met twice and twice the area of the closed path are the document's; no condition. -/
import Derived.Test.YtmamolfbboffhaaN
import Derived.Test.YtmamolfbboffhaaX
import Derived.Test.YtmamolfbboffhaaQ
namespace Go.Proofs.Ytmamolfbboffhaa
open Go.RowKit Go.WideShapes Go.ChangeShapes Go.ChangeAt
attribute [local go_sem] run_store_float run_store_complex

theorem area_of {w : World} {A : Option Addr} (c : Nat) {n : Nat} {zs : List Zw} {l : List (Int × Int)} (hn : zs.length = n) (hA : SlS zS w A zs) (hz : Zvs zs l) (hs : Small l) (hl : l.length ≤ 500) : Calls Try.prog 14 #[.slice A n c] w (Areaed l w) := by
  subst hn
  exact area_any c hA hz hs hl
def Met (l : List (Int × Int)) (i k : Nat) (t : Bool) : Prop := (t = true ∧ k < l.length ∧ Free l k ∧ hit (pt l k) (l.take k) = some i) ∨ (t = false ∧ i = 0 ∧ k = 0 ∧ Free l l.length)
theorem Twiced.met {l : List (Int × Int)} {w w' : World} {e : Ending} (h : Twiced l w e w') : ∃ (i k : Nat) (t : Bool), e = .returned (.tuple #[.int .i64 i, .int .i64 k, .bool t]) ∧ Met l i k t ∧ Fr No w w' := by
  obtain ⟨h, hf⟩ := h
  rcases h with ⟨k, n, h1, h2, h3, rfl⟩ | ⟨h1, rfl⟩
  · exact ⟨n, k, true, rfl, .inl ⟨rfl, h1, h2, h3⟩, hf⟩
  · exact ⟨0, 0, false, rfl, .inr ⟨rfl, rfl, rfl, h1⟩, hf⟩
theorem hit_none {p : Int × Int} : ∀ {l : List (Int × Int)}, (∀ j, j < l.length → l.getD j (0, 0) ≠ p) → hit p l = none
  | [], _ => rfl
  | q :: l, h => by
    unfold hit
    rw [if_neg (fun e => h 0 (by simp) (by simpa using e.symm)), hit_none (fun j hj => by have := h (j + 1) (by simp; omega); simpa using this)]
    rfl
theorem hit_some {p : Int × Int} : ∀ {l : List (Int × Int)} {m : Nat}, m < l.length → l.getD m (0, 0) = p → (∀ j, j < m → l.getD j (0, 0) ≠ p) → hit p l = some m
  | [], _, h, _, _ => absurd h (by simp)
  | q :: l, 0, _, h, _ => by
    unfold hit
    rw [if_pos (by simpa using h.symm)]
  | q :: l, m + 1, hm, h, hj => by
    unfold hit
    rw [if_neg (fun e => hj 0 (by omega) (by simpa using e.symm)), hit_some (m := m) (by simpa using hm) (by simpa using h) (fun j hj' => by have := hj (j + 1) (by omega); simpa using this)]
    rfl
theorem take_getD {l : List (Int × Int)} {k j : Nat} (h : j < k) : (l.take k).getD j (0, 0) = pt l j := by
  unfold pt
  simp [List.getD, h]
/-- within a list: no place ahead of n is this one -/
theorem hit_ahead_none {l : List (Int × Int)} {n : Nat} (hn : n < l.length) (h : ∀ j, j < n → pt l j ≠ pt l n) : hit (pt l n) (l.take n) = none :=
  hit_none fun j hj => by
    have hj' : j < n := by simp at hj; omega
    rw [take_getD hj']
    exact h j hj'
theorem hit_ahead_some {l : List (Int × Int)} {m n : Nat} (hn : n < l.length) (hm : m < n) (e : pt l m = pt l n) (h : ∀ j, j < m → pt l j ≠ pt l n) : hit (pt l n) (l.take n) = some m :=
  hit_some (by simp; omega) (by rw [take_getD hm]; exact e) fun j hj => by rw [take_getD (by omega)]; exact h j hj
theorem Met.found {l : List (Int × Int)} {i k m n : Nat} {t : Bool} (h : Met l i k t) (hn : n < l.length) (hf : Free l n) (hh : hit (pt l n) (l.take n) = some m) : t = true ∧ i = m ∧ k = n := by
  rcases h with ⟨h1, h2, h3, h4⟩ | ⟨h1, h2, h3, h4⟩
  · have hkn : k = n := by
      rcases Nat.lt_trichotomy k n with h | h | h
      · have := hf k h; rw [h4] at this; cases this
      · exact h
      · have := h3 n h; rw [hh] at this; cases this
    subst hkn
    rw [h4] at hh
    cases hh
    exact ⟨h1, rfl, rfl⟩
  · have := h4 n hn; rw [hh] at this; cases this
theorem Met.none {l : List (Int × Int)} {i k : Nat} {t : Bool} (h : Met l i k t) (hf : Free l l.length) : t = false ∧ i = 0 ∧ k = 0 := by
  rcases h with ⟨_, h2, _, h4⟩ | ⟨h1, h2, h3, _⟩
  · have := hf k h2; rw [h4] at this; cases this
  · exact ⟨h1, h2, h3⟩
theorem free_succ {l : List (Int × Int)} {n : Nat} (hn : n < l.length) (h : Free l n) (h' : ∀ j, j < n → pt l j ≠ pt l n) : Free l (n + 1) := by
  intro j hj
  by_cases e : j = n
  · subst e; exact hit_ahead_none hn h'
  · exact h j (by omega)

theorem Blk.eqv {w : World} {g : Nat} {t : TypeId} {cs cs' : Array Value} (h : Blk w g t cs) (e : cs = cs') : Blk w g t cs' := e ▸ h
theorem low_succ (l : List (Int × Int)) (n : Nat) : low l (n + 1) = (lo2 (low l n).1 (pt l n).1, lo2 (low l n).2 (pt l n).2) := rfl
theorem high_succ (l : List (Int × Int)) (n : Nat) : high l (n + 1) = (hi2 (high l n).1 (pt l n).1, hi2 (high l n).2 (pt l n).2) := rfl
theorem low_zero (l : List (Int × Int)) : low l 0 = pt l 0 := rfl
theorem high_zero (l : List (Int × Int)) : high l 0 = pt l 0 := rfl
/-- a store, or none -/
def stIf (c : Bool) (w : World) (a : Addr) (u : Value) : World := match c with | true => w.setCell a u | false => w
theorem blk_stIf {w : World} {g : Nat} {t : TypeId} {cs : Array Value} (c : Bool) (h : Blk w g t cs) (i : Nat) (u : Value) : Blk (stIf c w ⟨g, i, none⟩ u) g t (match c with | true => cs.setIfInBounds i u | false => cs) := by
  cases c
  · exact h
  · exact h.set_ i u
theorem far_stIf {w : World} {g b : Nat} {t : TypeId} {cs : Array Value} (c : Bool) (h : Blk w g t cs) (hne : g ≠ b) (i : Nat) (u : Value) : Blk (stIf c w ⟨b, i, none⟩ u) g t cs := by
  cases c
  · exact h
  · exact h.far (p := ⟨b, i, none⟩) hne u
theorem fr_stIf {a w : World} {b : Nat} (c : Bool) (h : Fr No a w) (hb : a.heap.size ≤ b) (i : Nat) (u : Value) : Fr No a (stIf c w ⟨b, i, none⟩ u) := by
  cases c
  · exact h
  · exact h.setNew hb i u
theorem box_leaf {a w : World} {h : Nat} {lo hi q : Int × Int} {c1 c2 c3 c4 : Bool} (e1 : decide (q.1 < lo.1) = c1) (e2 : decide (q.2 < lo.2) = c2) (e3 : decide (hi.1 < q.1) = c3) (e4 : decide (hi.2 < q.2) = c4)
    (hb1 : Blk w h 27 #[.int .i64 lo.1, .int .i64 lo.2]) (hb2 : Blk w (h + 1) 27 #[.int .i64 hi.1, .int .i64 hi.2]) (hf : Fr No a w) (hh : a.heap.size ≤ h) :
    Blk (stIf c4 (stIf c3 (stIf c2 (stIf c1 w ⟨h, 0, none⟩ (.int .i64 q.1)) ⟨h, 1, none⟩ (.int .i64 q.2)) ⟨h + 1, 0, none⟩ (.int .i64 q.1)) ⟨h + 1, 1, none⟩ (.int .i64 q.2)) h 27 #[.int .i64 (lo2 lo.1 q.1), .int .i64 (lo2 lo.2 q.2)] ∧
    Blk (stIf c4 (stIf c3 (stIf c2 (stIf c1 w ⟨h, 0, none⟩ (.int .i64 q.1)) ⟨h, 1, none⟩ (.int .i64 q.2)) ⟨h + 1, 0, none⟩ (.int .i64 q.1)) ⟨h + 1, 1, none⟩ (.int .i64 q.2)) (h + 1) 27 #[.int .i64 (hi2 hi.1 q.1), .int .i64 (hi2 hi.2 q.2)] ∧
    Fr No a (stIf c4 (stIf c3 (stIf c2 (stIf c1 w ⟨h, 0, none⟩ (.int .i64 q.1)) ⟨h, 1, none⟩ (.int .i64 q.2)) ⟨h + 1, 0, none⟩ (.int .i64 q.1)) ⟨h + 1, 1, none⟩ (.int .i64 q.2)) := by
  refine ⟨?_, ?_, ?_⟩
  · refine (far_stIf c4 (far_stIf c3 (blk_stIf c2 (blk_stIf c1 hb1 0 _) 1 _) (by omega) 0 _) (by omega) 1 _).eqv ?_
    unfold lo2
    subst e1 e2
    by_cases h1 : q.1 < lo.1 <;> by_cases h2 : q.2 < lo.2 <;> simp [h1, h2]
  · refine (blk_stIf c4 (blk_stIf c3 (far_stIf c2 (far_stIf c1 hb2 (by omega) 0 _) (by omega) 1 _) 0 _) 1 _).eqv ?_
    unfold hi2
    subst e3 e4
    by_cases h1 : hi.1 < q.1 <;> by_cases h2 : hi.2 < q.2 <;> simp [h1, h2]
  · exact fr_stIf c4 (fr_stIf c3 (fr_stIf c2 (fr_stIf c1 hf hh 0 _) hh 1 _) (by omega) 0 _) (by omega) 1 _
attribute [local irreducible] pt low high lo2 hi2 dsum hit Met Free Small
set_option maxRecDepth 100000 in
set_option maxHeartbeats 600000 in
theorem walkBoxes_some {w : World} {A : Option Addr} (c : Nat) {l : List (Int × Int)} (hA : SlS plS w A l) (hm : l.length ≤ maxLen) (hpos : 0 < l.length) : Calls Try.prog 7 #[.slice A l.length c] w (Truly w) := by
  have HP := Lib.hid hpos
  have hpi : 0 < (l.length : Int) := by omega
  have KA := Lib.hid hA
  have hdec : (true != decide (0 < (l.length : Int))) = false := by simp; omega
  have hdec2 : (true != decide (0 < l.length)) = false := by simp; omega
  go_enter Try.func7, Try.ntmps7
  go_wp2_with (first
    | (go_at_call 12; refine (large_any c hA hm).mono ?_; rintro e1 w1 ⟨b, rfl, hb0, hf1⟩; have hb := Lib.hid hb0; clear hb0; cases b)
    | (go_at_call 8; refine (two_any _).mono ?_; rintro e8 w8 ⟨rfl, hf8⟩)
    | (go_at_call 13; refine (places_any c (hA.no hf1) (hb.out trivial).2).mono ?_; rintro e2 w2 ⟨vp, rfl, hown, hf2⟩
       obtain ⟨hs, hl⟩ := hb.out trivial
       have hzs0 := zvs_pw hs
       have hzl0 : (l.map pw).length = l.length := hzs0.1
       generalize l.map pw = zs at *
       obtain ⟨Ap, cp, rfl, hzp0, _⟩ := hown.form
       rw [hzl0]
       have hzs := Lib.hid hzs0
       have hzl := Lib.hid hzl0
       have hzp := Lib.hid hzp0
       clear hzs0 hzl0 hown hzp0)
    | (go_at_call 18; refine (box_any cp hzl.out hzp.out hzs.out hl).mono ?_; rintro e3 w3 ⟨za, zb, ok, rfl, hok, hzab, hf3⟩
       rw [decide_eq_true HP.out] at hok
       subst hok
       have hab := Lib.hid (hzab HP.out)
       clear hzab)
    | (go_at_call 19; refine (twice_any cp hzl.out (hzp.out.no hf3) hzs.out hl).mono ?_; intro e4 w4 h4
       obtain ⟨ti, tk, tt, rfl, hmet0, hf4⟩ := h4.met
       have hmet := Lib.hid hmet0
       clear hmet0 h4
       have hall := (((hf1.trans hf2).trans hf3).trans hf4)
       obtain ⟨ba, off, rfl, hbb, d0, d1⟩ := Places_at (KA.out.no hall) (k := 0) HP.out
       rw [← pt_at HP.out] at d0 d1
       simp only [Nat.zero_mul, Nat.add_zero] at d0 d1))
  · go_loopw [48] (fun i wr => ∃ (k : Nat), i = .int .i64 k ∧ k ≤ l.length ∧ Blk wr w4.heap.size 27 #[.int .i64 (low l k).1, .int .i64 (low l k).2] ∧ Blk wr (w4.heap.size + 1) 27 #[.int .i64 (high l k).1, .int .i64 (high l k).2] ∧ Fr No w4 wr) (fun i _ => l.length - (intOf i).toNat)
    case atStart => exact ⟨0, rfl, by omega, by rw [low_zero]; exact (Blk.new w4 27 _).alloc _, by rw [high_zero]; exact new2 w4 _ 27 _, ((Fr.refl No w4).alloc _).alloc _⟩
    case round =>
      obtain ⟨k, rfl, hk, hb1, hb2, hf⟩ := hrel
      by_cases hlt : k < l.length
      · obtain ⟨_, _, e2, hbb, c0, c1⟩ := Places_at (KA.out.no (hall.trans hf)) (k := k) hlt
        cases e2
        rw [← pt_at hlt] at c0 c1
        have LS := Lib.hid (low_succ l k)
        have HS := Lib.hid (high_succ l k)
        have a0 : wr.cell? ⟨w4.heap.size, 0, none⟩ = some (.int .i64 (low l k).1) := hb1.cell 0
        have a1 : wr.cell? ⟨w4.heap.size, 1, none⟩ = some (.int .i64 (low l k).2) := hb1.cell 1
        have b0 : wr.cell? ⟨w4.heap.size + 1, 0, none⟩ = some (.int .i64 (high l k).1) := hb2.cell 0
        have b1 : wr.cell? ⟨w4.heap.size + 1, 1, none⟩ = some (.int .i64 (high l k).2) := hb2.cell 1
        have y0 := hb1.frozen 0
        have y1 := hb1.frozen 1
        have z0 := hb2.frozen 0
        have z1 := hb2.frozen 1
        have hg1 := hb1.lt
        have hg2 := hb2.lt
        have B1 := Lib.hid hb1
        have B2 := Lib.hid hb2
        have B3 := Lib.hid hf
        clear hb1 hb2 hf d0 d1
        cases hc1 : decide ((pt l k).1 < (low l k).1) <;> cases hc2 : decide ((pt l k).2 < (low l k).2) <;> cases hc3 : decide ((high l k).1 < (pt l k).1) <;> cases hc4 : decide ((high l k).2 < (pt l k).2) <;>
        (have hl4 := Lib.hid (box_leaf hc1 hc2 hc3 hc4 B1.out B2.out B3.out (Nat.le_refl _))
         simp only [decide_eq_true_eq, decide_eq_false_iff_not] at hc1 hc2 hc3 hc4
         go_wp2
         go_roundw
         case rel => exact ⟨k + 1, by go_num, by omega, by rw [LS.out]; exact hl4.out.1.alloc _, by rw [HS.out]; exact hl4.out.2.1.alloc _, hl4.out.2.2.alloc _⟩
         case measure => simp [intOf]; omega)
      · obtain rfl : k = l.length := by omega
        have ls := low_small hs l.length
        have hgs := high_small hs l.length
        have hds := dsum_le hs l.length
        have a0 : wr.cell? ⟨w4.heap.size, 0, none⟩ = some (.int .i64 (low l l.length).1) := hb1.cell 0
        have a1 : wr.cell? ⟨w4.heap.size, 1, none⟩ = some (.int .i64 (low l l.length).2) := hb1.cell 1
        have b0 : wr.cell? ⟨w4.heap.size + 1, 0, none⟩ = some (.int .i64 (high l l.length).1) := hb2.cell 0
        have b1 : wr.cell? ⟨w4.heap.size + 1, 1, none⟩ = some (.int .i64 (high l l.length).2) := hb2.cell 1
        have hg1 := hb1.lt
        have hg2 := hb2.lt
        have B2 := Lib.hid hb2
        have g1 := Lib.hid hb2
        clear hb1 hb2 d0 d1
        go_wp2_with (first
          | (go_at_call 10; have g := g1; clear g g1; refine (whole_yes hab.out.1.1 hab.out.1.2 (by omega) (by omega) _).mono ?_; rintro e5 w5 ⟨rfl, hf5⟩
             have B3 := B2.out.fr hf5 (fun h => h)
             have p0 := B3.cell 0
             have p1 := B3.cell 1
             have hg3 := B3.lt)
          | (go_at_call 10; refine (whole_yes hab.out.2.1 hab.out.2.2 (by omega) (by omega) _).mono ?_; rintro e6 w6 ⟨rfl, hf6⟩)
          | (go_at_call 14; refine (area_of cp hzl.out ((((hzp.out.no hf3).no hf4).no hf).no (hf5.trans hf6)) hzs.out hs hl).mono ?_; rintro e7 w7 ⟨r1, rfl, hr1, hf7⟩
             obtain ⟨r2, em, hr2⟩ := val_twice hr1 (by omega)
             have hrun := fun w => run_float_arith (P := Try.prog) w .mul 34 .f64 _ _ _ em
             have heq : FloatKind.f64.format.order r2 (floatOfInt .f64 (dsum l l.length)) = some .eq := val_eq2 hr2 (val_int _ (by omega))
             clear em hr1 hr2)
          | (go_at_call 20; refine (double_any c (KA.out.no ((((hall.trans hf).trans hf5).trans hf6).trans hf7)) hs hl).mono ?_; rintro e9 w9 ⟨rfl, hf9⟩))
        have hend := (((((hall.trans hf).trans hf5).trans hf6).trans hf7).trans hf9)
        clear a0 a1 b0 b1 hg1 hg2 hf3 hf4 hf5 hf6 hf7 hf9 hf hall ls hgs hds
        go_loopw [105] (fun i wr => ∃ (n : Nat), i = .int .i64 n ∧ n ≤ l.length ∧ Free l n ∧ Fr No w9 wr) (fun i _ => l.length - (intOf i).toNat)
        case atStart => exact ⟨0, rfl, by omega, by unfold Free; intro j hj; omega, Fr.refl _ _⟩
        case round =>
          clear hlt
          obtain ⟨n, rfl, hn, hfr, hf⟩ := hrel
          by_cases hlt : n < l.length
          · go_wp2
            go_loopw [16] (fun i wr => ∃ (m : Nat), i = .int .i64 m ∧ m ≤ n ∧ (∀ j, j < m → pt l j ≠ pt l n) ∧ Fr No w9 wr) (fun i _ => n - (intOf i).toNat)
            case atStart => exact ⟨0, rfl, by omega, by intro j hj; omega, hf⟩
            case round =>
              clear hf
              obtain ⟨m, rfl, hmn, hne, hf⟩ := hrel
              by_cases hlm : m < n
              · obtain ⟨_, _, e1, hbb, c0, c1⟩ := Places_at (KA.out.no (hend.trans hf)) (k := m) (by omega)
                cases e1
                obtain ⟨_, _, e1, _, d0, d1⟩ := Places_at (KA.out.no (hend.trans hf)) (k := n) hlt
                cases e1
                rw [← pt_at (by omega)] at c0 c1
                rw [← pt_at hlt] at d0 d1
                by_cases h1 : (pt l m).1 = (pt l n).1
                · by_cases h2 : (pt l m).2 = (pt l n).2
                  · have heq : pt l m = pt l n := Prod.ext h1 h2
                    obtain ⟨rfl, rfl, rfl⟩ := hmet.out.found hlt hfr (hit_ahead_some hlt hlm heq hne)
                    rw [← heq] at d0 d1
                    clear h1 h2 heq hne hfr hmn
                    go_wp2
                    go_quiet (fail)
                    rename_i nq
                    go_wp2_with (go_at_call 8; refine (two_any _).mono ?_; rintro e8 w8 ⟨rfl, hf8⟩)
                    go_ret
                    exact ⟨rfl, (hend.trans (hf.drewN nq)).trans hf8⟩
                  · have HN := Lib.hid hne
                    have H2 := Lib.hid h2
                    have h3 : ((pt l m).2 == (pt l n).2) = false := by simp [h2]
                    have h4 : ((pt l m).1 == (pt l n).1) = true := by simp [h1]
                    clear h1 h2 hne hfr
                    go_wp2
                    go_quiet (fail)
                    rename_i nq
                    go_wp2
                    go_roundw
                    case rel => exact ⟨m + 1, by go_num, by omega, fun j hj => by
                      by_cases e : j = m
                      · subst e; exact fun h => H2.out (by rw [h])
                      · exact HN.out j (by omega), hf.drewN nq⟩
                    case measure => simp [intOf]; omega
                · have HN := Lib.hid hne
                  have H2 := Lib.hid h1
                  have h3 : ((pt l m).1 == (pt l n).1) = false := by simp [h1]
                  clear h1 hne hfr
                  go_wp2
                  go_quiet (fail)
                  rename_i nq
                  go_wp2
                  go_roundw
                  case rel => exact ⟨m + 1, by go_num, by omega, fun j hj => by
                    by_cases e : j = m
                    · subst e; exact fun h => H2.out (by rw [h])
                    · exact HN.out j (by omega), hf.drewN nq⟩
                  case measure => simp [intOf]; omega
              · have HF := Lib.hid (free_succ hlt hfr (fun j hj => hne j (by omega)))
                clear hfr hne
                go_wp2
                go_roundw
                case rel => exact ⟨n + 1, by go_num, by omega, HF.out, hf⟩
                case measure => simp [intOf]; omega
          · have hnl : n = l.length := by omega
            subst hnl
            obtain ⟨rfl, rfl, rfl⟩ := hmet.out.none hfr
            clear hfr
            go_wp2_with (go_at_call 8; refine (two_any _).mono ?_; rintro e8 w8 ⟨rfl, hf8⟩)
            go_ret
            exact ⟨rfl, (hend.trans hf).trans hf8⟩
  · go_ret
    exact ⟨rfl, hf1.trans hf8⟩

theorem free_nil : Free [] 0 := by unfold Free; intro j hj; omega
theorem dsum_nil : dsum [] 0 = 0 := by unfold dsum; rfl
theorem small_nil : Small [] := by unfold Small; intro p hp; simp at hp
set_option maxRecDepth 100000 in
set_option maxHeartbeats 600000 in
theorem walkBoxes_none {w : World} {A : Option Addr} (c : Nat) : Calls Try.prog 7 #[.slice A 0 c] w (Truly w) := by
  have hA : SlS plS w A ([] : List (Int × Int)) := SlS.nil _ _
  have KA := Lib.hid hA
  obtain ⟨d, hd⟩ : ∃ d : Int, dsum [] ([] : List (Int × Int)).length = d := ⟨_, rfl⟩
  have hd0 : d = 0 := hd.symm.trans dsum_nil
  have HD := Lib.hid hd
  have H0 := Lib.hid hd0
  have hdn : d.natAbs = 0 := by rw [hd0]; rfl
  clear hA hd hd0
  go_enter Try.func7, Try.ntmps7
  go_wp2_with (first
    | (go_at_call 12; refine (large_any (l := []) c KA.out (Nat.zero_le _)).mono ?_; rintro e1 w1 ⟨b, rfl, hb0, hf1⟩; clear hb0; cases b)
    | (go_at_call 8; refine (two_any _).mono ?_; rintro e8 w8 ⟨rfl, hf8⟩)
    | (go_at_call 13; refine (places_any (l := []) c (KA.out.no hf1) (by decide)).mono ?_; rintro e2 w2 ⟨vp, rfl, hown, hf2⟩
       obtain ⟨Ap, cp, rfl, hzp0, _⟩ := hown.form
       have hzp := Lib.hid hzp0
       clear hown hzp0)
    | (go_at_call 18; refine (box_any (zs := []) (l := []) cp rfl hzp.out Zvs.nil (by decide)).mono ?_; rintro e3 w3 ⟨za, zb, ok, rfl, hok, hz9, hf3⟩
       have hok' : ok = false := hok
       clear hok hz9
       subst hok')
    | (go_at_call 19; refine (twice_any (zs := []) (l := []) cp rfl (hzp.out.no hf3) Zvs.nil (by decide)).mono ?_; intro e4 w4 h4
       obtain ⟨ti, tk, tt, rfl, hmet0, hf4⟩ := h4.met
       obtain ⟨rfl, rfl, rfl⟩ := hmet0.none free_nil
       clear hmet0 h4)
    | (go_at_call 14; refine (area_of (zs := []) (l := []) cp rfl ((hzp.out.no hf3).no hf4) Zvs.nil small_nil (by decide)).mono ?_; rintro e7 w7 ⟨r1, rfl, hr1, hf7⟩
       rw [HD.out] at hr1
       obtain ⟨r2, em, hr2⟩ := val_twice hr1 (by rw [H0.out]; decide)
       have hrun := fun w => run_float_arith (P := Try.prog) w .mul 34 .f64 _ _ _ em
       have heq : FloatKind.f64.format.order r2 (floatOfInt .f64 d) = some .eq := val_eq2 hr2 (val_int _ (by omega))
       clear em hr1 hr2)
    | (go_at_call 20; refine (double_any (l := []) c ((((KA.out.no hf1).no hf2).no hf3).no hf4 |>.no hf7) small_nil (by decide)).mono ?_; rintro e9 w9 ⟨rfl, hf9⟩; rw [HD.out]))
  · go_loopw [105] (fun i wr => i = .int .i64 0 ∧ Fr No w9 wr) (fun i _ => 0)
    case atStart => exact ⟨rfl, Fr.refl _ _⟩
    case round =>
      obtain ⟨rfl, hf⟩ := hrel
      go_wp2_with (go_at_call 8; refine (two_any _).mono ?_; rintro e8 w8 ⟨rfl, hf8⟩)
      go_ret
      exact ⟨rfl, (((((((hf1.trans hf2).trans hf3).trans hf4).trans hf7).trans hf9).trans hf).trans hf8)⟩
  · go_ret
    exact ⟨rfl, hf1.trans hf8⟩
set_option maxRecDepth 100000 in
theorem walkBoxes_lifted (os : Os) (started : os.Started) (H : Type) (enc : TypeId × Value → H) :
    ReturnsInHanded {} Try.checked os 7 .any (Rows.walkBoxesSpec.pre6 enc Try.prog Try.f7 Rows.walkBoxesRow.domain false) (Rows.walkBoxesSpec.post enc Try.prog Try.f7 false true false false) := by
  refine law_of_walk Try.underlying4 started H enc Try.func7 (by kernel_rfl) rfl rfl
    (ChangeSpec.witness6 (enc := enc) (C := Try.checked) false ⟨#[], #[.slice none 0 0], []⟩ 8 (by kernel_rfl) (by kernel_rfl) (by kernel_rfl) (by kernel_rfl)) ?_ ?_ ?_
  · intro ds hl
    match ds, hl with
    | [d0], _ => rfl
  · rw [Try.params7]
    simp only [List.mem_cons, List.not_mem_nil, or_false, forall_eq_or_imp, forall_eq]
    exact ⟨by kernel_rfl, of_decide_eq_true (by kernel_rfl)⟩
  · intro W base args ds p hval hA hlt _
    rw [Try.params7] at hA hval
    obtain ⟨v0, vs0, d0, ds0, p0, q0, hargs, rfl, rfl, h0, r0⟩ := trodAll_cons hA
    obtain ⟨rfl, rfl, rfl⟩ := trodAll_nil r0
    obtain rfl : args = #[v0] := by cases args; simp_all
    obtain ⟨A0, c0, xs0, rfl, hl0, hm0, hc0⟩ := open_places (hval 0 30 v0 rfl rfl) h0
    rcases Nat.eq_zero_or_pos xs0.length with h | h
    · rw [h]; exact walkBoxes_none c0
    · exact walkBoxes_some c0 hc0 (by omega) h

theorem walkBoxes_holds : Rows.WalkBoxesSaid :=
  OpenClaim.holds_of_wide 7 Try.f7 rfl rfl rfl rfl rfl rfl rfl ⟨rfl, rfl, rfl, rfl, rfl⟩ rfl rfl rfl rfl rfl (by kernel_rfl) Try.func7 (by kernel_rfl)
    (of_decide_eq_true (by kernel_rfl)) (by unfold Func.isWrapper; first | (rw [if_pos (by decide +kernel)]; kernel_rfl) | (rw [if_neg (by decide +kernel)]; exact ⟨rfl, rfl⟩))
    (fun os started H enc _ => walkBoxes_lifted os started H enc)
#print axioms walkBoxes_holds
end Go.Proofs.Ytmamolfbboffhaa
