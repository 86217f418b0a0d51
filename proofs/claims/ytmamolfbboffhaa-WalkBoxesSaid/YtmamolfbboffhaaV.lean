/- The first place that is met twice. -/
import Derived.Test.YtmamolfbboffhaaU
import Derived.Test.YtmamolfbboffhaaJ
namespace Go.Proofs.Ytmamolfbboffhaa
open Go.RowKit Go.Instr
attribute [local go_sem] run_store_float run_store_complex

/-- the map at block r bears these places -/
def MapB (w : World) (r : Nat) (zs : List Zw) : Prop := w.heap[r]? = some (.map (ents 0 zs).toArray zs.length)
theorem MapB.lt {w : World} {r : Nat} {zs : List Zw} (h : MapB w r zs) : r < w.heap.size := by
  rcases Nat.lt_or_ge r w.heap.size with hlt | hge
  · exact hlt
  · unfold MapB at h; rw [Array.getElem?_eq_none hge] at h; cases h
theorem ents_len : ∀ (j : Nat) (zs : List Zw), (ents j zs).length = zs.length
  | _, [] => rfl
  | j, _ :: zs => by simp [ents, ents_len (j + 1) zs]
theorem run_check (w : World) (b : Bool) (z : Zw) : (checkKey b 10000 23 (zV z)).run Try.prog w = .ok () w := by
  rw [show (10000 : Nat) = 9999 + 1 from rfl]
  unfold checkKey
  simp only [Sem.run_bind, run_underlying Try.underlying23, Result.andThen_ok, zV]
  simp
theorem look_run {w : World} {r : Nat} {zs : List Zw} {l : List (Int × Int)} {z : Zw} {p : Int × Int} (hb : MapB w r zs) (hz : Zv z p) (h : Zvs zs l) :
    (lookup 59 (.map (some r)) (.complex .f64 z.1 z.2) true).run Try.prog w = .ok (match hit p l with | some n => .tuple #[.int .i64 n, .bool true] | none => .tuple #[.int .i64 0, .bool false]) w := by
  have hk := run_key w hz h
  have hc := fun b => run_check w b z
  unfold zV at hk hc
  have hz0 : (zeroValue 3).run Try.prog w = .ok (.int .i64 0) w := by simp [zeroValue, run_underlying Try.underlying3]; rfl
  unfold lookup
  simp only [Sem.run_bind, run_underlying Try.underlying59, Result.andThen_ok, MapKept.run_getObj_map hb, hc, List.toList_toArray, hk]
  cases hh : hit p l with
  | none => simp [hz0, hc, hk, hh]
  | some n => simp [hc, hk, hh]
theorem put_run {w : World} {r : Nat} {zs : List Zw} {l : List (Int × Int)} {z : Zw} {p : Int × Int} (hb : MapB w r zs) (hz : Zv z p) (h : Zvs zs l) (hn : hit p l = none) :
    ∃ w', (mapUpdate 59 (.map (some r)) (.complex .f64 z.1 z.2) (.int .i64 zs.length)).run Try.prog w = .ok () w' ∧ MapB w' r (zs ++ [z]) ∧ Fr (Only r) w w' := by
  have hk := run_key w hz h
  have hc := run_check w false z
  unfold zV at hk hc
  refine ⟨_, by
    unfold mapUpdate
    simp only [Sem.run_bind, run_underlying Try.underlying59, Result.andThen_ok, MapKept.run_getObj_map hb, hc, List.toList_toArray, hk, hn]
    exact MapKept.run_setObj_map _ hb, ?_, ?_⟩
  · have := hb.lt
    unfold MapB
    rw [ents_snoc]
    simp [this, zV]
  · exact ⟨rfl, rfl, rfl, by simp, fun k hk hne => by
      have : r ≠ k := fun e => hne e.symm
      simp [Array.getElem?_setIfInBounds, this]⟩

theorem take_snoc' {zs : List Zw} {k : Nat} (h : k < zs.length) : zs.take (k + 1) = zs.take k ++ [zs[k]] := List.take_succ_eq_append_getElem h
/-- ahead of place n none is met twice -/
def Free (l : List (Int × Int)) (n : Nat) : Prop := ∀ j, j < n → hit (pt l j) (l.take j) = none
def Twiced (l : List (Int × Int)) (w : World) (e : Ending) (w' : World) : Prop :=
  ((∃ k n : Nat, k < l.length ∧ Free l k ∧ hit (pt l k) (l.take k) = some n ∧ e = .returned (.tuple #[.int .i64 n, .int .i64 k, .bool true])) ∨
    (Free l l.length ∧ e = .returned (.tuple #[.int .i64 0, .int .i64 0, .bool false]))) ∧ Fr No w w'
theorem Zvs.take {zs : List Zw} {l : List (Int × Int)} (h : Zvs zs l) (k : Nat) : Zvs (zs.take k) (l.take k) :=
  ⟨by simp [h.1], fun j h1 h2 => by simpa using h.2 j (by simp at h1; omega) (by simp at h2; omega)⟩
theorem MapB.new (w : World) (zs : List Zw) : MapB (w.alloc (.map #[] 0)) w.heap.size (zs.take 0) := heap_alloc_new w _
theorem run_mk (P : Program) (t : TypeId) (w : World) : (Instr.makeMap t none).run P w = .ok (.map (some w.heap.size)) (w.alloc (.map #[] 0)) := rfl
attribute [local go_sem] run_mk
attribute [local irreducible] pt hit ents
set_option maxHeartbeats 600000 in
theorem twice_any {w : World} {A : Option Addr} (c : Nat) {n : Nat} {zs : List Zw} {l : List (Int × Int)} (hzn : zs.length = n) (hA : SlS zS w A zs) (hz : Zvs zs l) (hn : n ≤ 500) : Calls Try.prog 19 #[.slice A n c] w (Twiced l w) := by
  have hzl : n = l.length := hzn.symm.trans hz.1
  have KL := Lib.hid hzl
  have KN := Lib.hid hzn
  have KA := Lib.hid hA
  have KZ := Lib.hid hz
  clear hzl hzn hA hz
  go_enter Try.func19, Try.ntmps19
  go_wp2
  go_loopw [13] (fun i wr => ∃ (k : Nat), i = .int .i64 k ∧ k ≤ n ∧ MapB wr w.heap.size (zs.take k) ∧ Free l k ∧ Fr No w wr) (fun i _ => n - (intOf i).toNat)
  case atStart => exact ⟨0, rfl, by omega, MapB.new w zs, by intro j hj; omega, (Fr.refl No w).alloc _⟩
  case round =>
    obtain ⟨k, rfl, hk, hm, hfr, hf⟩ := hrel
    by_cases hlt : k < n
    · have hlz : k < zs.length := by rw [KN.out]; exact hlt
      have hll : k < l.length := by rw [← KL.out]; exact hlt
      obtain ⟨ba, off, rfl, hbb, d0⟩ := Zs_at (KA.out.no hf) (k := k) hlz
      have hzk := KZ.out.2 k hlz hll
      rw [← pt_at hll] at hzk
      have hlook := look_run hm hzk (KZ.out.take k)
      have HT := Lib.hid (take_snoc' hlz)
      have HF := Lib.hid hfr
      have HM := Lib.hid hm
      have hlk : (zs.take k).length = k := by rw [List.length_take]; omega
      cases hh : hit (pt l k) (l.take k) with
      | some m =>
        rw [hh] at hlook
        have HH := Lib.hid hh
        clear hh hm hzk hfr hlk
        go_wp2
        refine bodyPost_ret (results_tmp3 rfl _ _ _) rfl ⟨.inl ⟨k, m, hll, HF.out, HH.out, rfl⟩, hf⟩
      | none =>
        rw [hh] at hlook
        obtain ⟨w2, hput, hm2, hf2⟩ := put_run hm hzk (KZ.out.take k) hh
        rw [hlk] at hput
        have HH := Lib.hid hh
        have HM2 := Lib.hid hm2
        clear hh hm hzk hfr hlk hm2
        go_wp2
        go_roundw
        case rel =>
          refine ⟨k + 1, by go_num, by omega, by rw [HT.out]; exact HM2.out, ?_, hf.then_ hf2 (fun i hi e => by unfold Only at e; omega)⟩
          intro j hj
          by_cases hjk : j = k
          · subst hjk; exact HH.out
          · exact HF.out j (by omega)
        case measure => simp [intOf]; omega
    · obtain rfl : k = n := by omega
      have HF := Lib.hid hfr
      clear hfr
      go_wp2
      refine bodyPost_ret (results_tmp3 rfl _ _ _) rfl ⟨.inr ⟨by rw [← KL.out]; exact HF.out, rfl⟩, hf⟩
end Go.Proofs.Ytmamolfbboffhaa
