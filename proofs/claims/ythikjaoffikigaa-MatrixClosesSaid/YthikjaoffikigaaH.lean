/- New. -/
import Derived.Test.YthikjaoffikigaaE
namespace Go.Proofs.Ythikjaoffikigaa
open Go.RowKit

theorem newn (w : World) (n : Nat) (h : w.heap.size = n) (t : TypeId) (cs : Array Value) : Blk (w.alloc (.cells cs t)) n t cs := h ▸ Blk.new w t cs
/-- a row, as it lies: where, its length, its room -/
def slS : Shape (Nat × Nat × Nat × Nat) := ⟨fun p => [.slice (some ⟨p.1, p.2.1, none⟩) p.2.2.1 p.2.2.2], 1, fun _ => rfl, by decide, fun x u hu => by simp at hu; subst hu; rfl⟩
theorem el45 : ElSl Try.prog 45 48 (.slice none 0 0) slS.size 24 := ⟨Try.underlying45, by kernel_rfl, rfl, by decide⟩
theorem u48 : Try.prog.underlying 48 = some (.slice 50) := Try.underlying48
theorem info50 : (Try.prog.info? 50).map (fun i => (i.zero, i.size, i.bytes)) = some (some (.int .u64 0), 1, 8) := by kernel_rfl
theorem make_words (p : Nat) (hp : p ≤ 16384) (w : World) : (Instr.makeSlice 48 (.int .i64 (p : Nat)) (.int .i64 (p : Nat))).run Try.prog w = .ok (.slice (some ⟨w.heap.size, 0, none⟩) p p) (w.alloc (.cells (madeCells #[.int .u64 0] p) 50)) := by
  obtain ⟨i, hi, h1, h2, h3⟩ := info_parts info50
  have := run_make (P := Try.prog) w 48 50 i (.int .u64 0) u48 hi h1 .i64 .i64 p p (by omega) (Int.le_refl _) (by rw [h3]; omega) (by omega)
  rw [h2] at this
  rw [show madeCells #[Value.int .u64 0] p = madeCells (Value.int .u64 0).cells (((p : Nat) : Int).toNat * 1) by rw [Int.toNat_natCast, Nat.mul_one]; rfl]
  simpa only [Int.toNat_natCast] using this
theorem made_at {p j : Nat} (h : j < p) : (madeCells #[Value.int .u64 0] p)[j]? = some (.int .u64 0) := by
  simp [madeCells, h, Nat.mod_one]

def Newed (n : Nat) (w : World) (e : Ending) (w' : World) : Prop := ∃ m, e = .returned (.tuple #[.pointer (some ⟨m, 0, none⟩), .int .i64 0]) ∧ Mx w' m n (fun _ _ => false) w.heap.size w'.heap.size ∧ Fr No w w'
def rowsN (all W k : Nat) : List (Nat × Nat × Nat × Nat) := (List.range k).map fun i => (all, i * W, W, W)
theorem rowsN_len (all W k : Nat) : (rowsN all W k).length = k := by simp [rowsN]
theorem rowsN_snoc (all W k : Nat) : rowsN all W (k + 1) = rowsN all W k ++ [(all, k * W, W, W)] := by simp [rowsN, List.range_succ]
theorem rowsN_at {all W k i : Nat} (h : i < k) : (rowsN all W k)[i]? = some (all, i * W, W, W) := by simp [rowsN, h]
set_option maxHeartbeats 600000 in
theorem new_ok (n : Nat) (hn : n ≤ 1024) (w : World) : Calls Try.prog 9 #[.int .i64 n] w (Newed n w) := by
  obtain ⟨W, hW⟩ : ∃ W, wd n = W := ⟨_, rfl⟩
  have hW0 : W ≤ 16 := by rw [← hW]; unfold wd; omega
  have hW1 : ((n : Int) + 63) / 64 = W := by rw [← hW]; unfold wd; omega
  have hWt : ((n : Int) + 63).tdiv 64 = W := by rw [Int.tdiv_eq_ediv_of_nonneg (by omega), hW1]
  obtain ⟨p, hp⟩ : ∃ p, n * W = p := ⟨_, rfl⟩
  have hp0 : p ≤ 16384 := by
    have := Nat.mul_le_mul hn hW0
    omega
  have hp1 : (n : Int) * (W : Int) = (p : Int) := by rw [← Int.natCast_mul, hp]
  have hmk := make_words p hp0
  have HW := Lib.hid hW
  have HP := Lib.hid hp
  clear hW hp
  go_enter Try.func9, Try.ntmps9
  go_wp2
  go_loopw [25] (fun i wr => ∃ (k : Nat) (R : Value), i = .int .i64 k ∧ k ≤ n ∧ OwnS slS 48 w.heap.size wr R (rowsN (w.heap.size + 1) W k) ∧ Blk wr w.heap.size 47 #[.int .i64 n, R] ∧ Blk wr (w.heap.size + 1) 50 (madeCells #[.int .u64 0] p) ∧ Fr No w wr) (fun i _ => n - (intOf i).toNat)
  case atStart => exact ⟨0, .slice none 0 0, rfl, by omega, OwnS.nil _ _ _, (Blk.new w 47 _).alloc _, newn _ _ (by simp) 50 _, ((Fr.refl No w).alloc _).alloc _⟩
  case round =>
    obtain ⟨k, R, rfl, hk, hown, hb, hb2, hf⟩ := hrel
    have hlr := rowsN_len (w.heap.size + 1) W k
    obtain ⟨AR, cR, hR, _, _⟩ := hown.form
    rw [hlr] at hR
    subst hR
    have c0 : wr.cell? ⟨w.heap.size, 0, none⟩ = some (.int .i64 n) := hb.cell 0
    have c1 : wr.cell? ⟨w.heap.size, 1, none⟩ = some (.slice AR k cR) := hb.cell 1
    have z1 := hb.frozen 1
    have hg := hb.lt
    have hg2 := hb2.lt
    have HO := Lib.hid hown
    have HB := Lib.hid hb
    have HB2 := Lib.hid hb2
    clear hown hb hb2
    by_cases hlt : k < n
    · have hWp : 0 < W := by rw [← HW.out]; unfold wd; omega
      obtain ⟨q, hq⟩ : ∃ q, k * W = q := ⟨_, rfl⟩
      have hq1 : (k : Int) * (W : Int) = (q : Int) := by rw [← Int.natCast_mul, hq]
      have hq2 : q + W ≤ p := by
        rw [← hq, ← HP.out, ← Nat.succ_mul]
        exact Nat.mul_le_mul_right _ hlt
      obtain ⟨t, ht⟩ : ∃ t, q + W = t := ⟨_, rfl⟩
      have w1 : IntKind.i64.wrap (q : Int) = q := by rw [IntKind.wrap_i64]; omega
      have w2 : IntKind.i64.wrap ((q : Int) + (W : Int)) = t := by rw [IntKind.wrap_i64]; omega
      have t1 : 0 ≤ (t : Int) ∧ (t : Int) ≤ (p : Int) := by omega
      have t2 : max (t : Int) 0 = t := by omega
      have t3 : 0 ≤ (t : Int) ∧ (t : Int) ≤ (t : Int) := by omega
      have t4 : 0 ≤ (q : Int) ∧ (q : Int) ≤ (t : Int) := by omega
      have t5 : ¬ t = q := by omega
      have t6 : t - q = W := by omega
      have HQ := Lib.hid hq
      clear hq
      have HN := Lib.hid (HO.out.blk_ne HB.out (by decide))
      have HN2 := Lib.hid (HO.out.blk_ne HB2.out (by decide))
      go_wp2
      go_region_law ((
                      refine step_apdAll (S := slS) el45 (by rfl) _ _ (by rfl) w.heap.size (.slice AR k cR) (rowsN (w.heap.size + 1) W k) [(w.heap.size + 1, q, W, W)] (by rfl) ((HO.out.drew).alloc _) ⟨wr.heap.size, 0, none⟩ 1 1 (by rfl) (by rfl) (fun _ => SlS.blk1 (newn _ _ (by simp) 48 #[.slice (some ⟨w.heap.size + 1, q, none⟩) W W]) rfl) (by rw [rowsN_len]; simp; omega) (by decide) (by simp; omega) ?_; intro v' w3 hap
                      obtain ⟨AR', cR', hv', _, _⟩ := hap.1.form
                      rw [List.length_append, rowsN_len] at hv'
                      subst hv'
                      have hb22 := ((HB.out.drew).alloc (.cells #[.slice (some ⟨w.heap.size + 1, q, none⟩) W W] 48)).grown hap.2.1 (fun e => HN.out e.symm)
                      have c3 := hb22.cell 1
                      have z3 := hb22.frozen 1
                      have hg3 := hb22.lt))
      all_goals go_wp2
      all_goals
        go_roundw
        case rel =>
          refine ⟨k + 1, _, by go_num, by omega, (hap.1.setOther hb22 (by decide) 1 _).congr (by rw [rowsN_snoc, HQ.out]), hb22.set_ 1 _, ?_, ?_⟩
          · exact (((HB2.out.drew).alloc _).grown hap.2.1 (fun e => HN2.out e.symm)).far (p := ⟨w.heap.size, 1, none⟩) (by simp) _
          · exact (hap.fr (hf.drew.alloc _) HO.out (Nat.le_refl _)).setNew (Nat.le_refl _) 1 _
        case measure => simp [intOf]; omega
    · obtain rfl : k = n := by omega
      go_wp2
      go_ret2
      refine ⟨_, rfl, ?_, hf⟩
      obtain ⟨A', c', e', hsl, hbl⟩ := HO.out.form
      rw [hlr] at e'
      cases e'
      have hwn := HW.out
      rcases Nat.eq_zero_or_pos k with h0 | h0
      · subst h0
        exact ⟨⟨0, 0, AR, cR, fun _ => 0, fun _ => 0, fun _ => 0⟩, fun _ _ => 0, { most := by omega, head := HB.out, inM := ⟨Nat.le_refl _, hg⟩, top := Nat.le_refl _, ra := fun h => absurd h (by omega), inR := fun h => absurd h (by omega), ty := fun h => absurd h (by omega), rows := fun i h => absurd h (by omega), inB := fun i h => absurd h (by omega), tyB := fun i h => absurd h (by omega), words := fun i h => absurd h (by omega), apart := fun i j u v h => absurd h (by omega), bits := fun i h => absurd h (by omega) }⟩
      · obtain ⟨b, off, rfl, hbs, hcl⟩ := hsl (by rw [hlr]; exact h0)
        obtain ⟨_, hb1, cs, hcs⟩ := hbl _ rfl
        refine ⟨⟨b, off, some ⟨b, off, none⟩, cR, fun _ => w.heap.size + 1, fun i => i * W, fun _ => W⟩, fun _ _ => 0, { most := by omega, head := HB.out, inM := ⟨Nat.le_refl _, hg⟩, top := Nat.le_refl _, ra := fun _ => rfl, inR := fun _ => ⟨hb1, hbs⟩, ty := fun _ => ⟨cs, hcs⟩, rows := fun i hi => ?_, inB := fun i hi => ⟨Nat.le_succ _, hg2⟩, tyB := fun i hi => ⟨_, HB2.out⟩, words := fun i hi v hv => ?_, apart := fun i j u v hi hj hu hv _ he => ?_, bits := fun i hi v hv b => by simp }⟩
        · have := hcl i _ (rowsN_at hi) 0 _ rfl
          rw [hwn]
          simpa only [show slS.size = 1 from rfl, Nat.mul_one, Nat.add_zero] using this
        · have hlt : i * W + v < p := by
            rw [hwn] at hv
            have h2 := Nat.mul_le_mul_right W (show i + 1 ≤ k from hi)
            rw [Nat.succ_mul] at h2
            have h3 := HP.out
            omega
          exact (HB2.out.cell (i * W + v)).trans (made_at hlt)
        · rw [hwn] at hu hv
          have key : ∀ x y c d : Nat, c < W → d < W → x * W + c = y * W + d → ¬ x < y := by
            intro x y c d hc hd he hxy
            have h2 := Nat.mul_le_mul_right W (show x + 1 ≤ y from hxy)
            rw [Nat.succ_mul] at h2
            omega
          have he : i * W + u = j * W + v := he
          have e1 := key i j u v hu hv he
          have e2 := key j i v u hv hu he.symm
          have : i = j := by omega
          subst this
          exact ⟨rfl, by omega⟩
set_option maxHeartbeats 600000 in
theorem new_bad (i : Int) (h : i < 0 ∨ 1024 < i) (w : World) : Calls Try.prog 9 #[.int .i64 i] w fun e w' => e = .returned (.tuple #[.pointer none, .int .i64 1]) ∧ w = w' := by
  by_cases h0 : i < 0
  · clear h
    go_enter Try.func9, Try.ntmps9
    go_wp2
    go_ret2
    exact ⟨rfl, rfl⟩
  · have h1 : 1024 < i := by omega
    clear h
    go_enter Try.func9, Try.ntmps9
    go_wp2
    go_ret2
    exact ⟨rfl, rfl⟩
end Go.Proofs.Ythikjaoffikigaa
