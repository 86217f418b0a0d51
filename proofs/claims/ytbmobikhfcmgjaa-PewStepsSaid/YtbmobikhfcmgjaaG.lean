/- The reference's pew: what each call does. -/
import Derived.Test.YtbmobikhfcmgjaaF
import Derived.Deep.RegionLaw
namespace Go.Proofs.Ytbmobikhfcmgjaa
open Go.RowKit

theorem el39 : ElSl Try.prog 39 45 (.agg #[.int .i64 0, .int .i64 0, .int .i64 0]) 3 24 := ⟨Try.underlying39, by kernel_rfl, rfl, by decide⟩

/-- append(s, x), x a triple in a new block, in a region that draws -/
theorem step_push3 {P : Program} {T E : TypeId} {z : Value} {bytes : Nat} (hT : ElSl P T E z 3 bytes) {ops : Array Oper} {o : Oper} {a : Act} {w : World} {K : Act → World → Prop} {Q : Exit → Act → World → Prop} {Ep : Prop} (hgd : o.guard = none) (s x : Operand)
    (ho : o.op = .call { callee := .builtin .append, args := #[s, x], argTypes := #[T, T] })
    (B : Nat) (v : Value) (xs : List Tr) (y : Tr) (hs : a.eval s = v) (hown : Own3 E B w v xs) (g : Nat) (t : TypeId) (c : Nat) (hx : a.eval x = .slice (some ⟨g, 0, none⟩) 1 c) (hb : Blk w g t (cells3 y).toArray)
    (hl : xs.length + 1 ≤ 1000000000) (hbt : bytes ≤ 1000) (hB : B ≤ w.heap.size)
    (h : ∀ v' w', Apd3 E B w v (xs ++ [y]) v' w' → K (a.put o.dst v') w') : if Region.wanted o (yielded ops a.tmps) = true then Oper.wp P o a w K Q else Ep := by
  have hw : Region.wanted o (yielded ops a.tmps) = true := by simp [Region.wanted, hgd]
  rw [if_pos hw]
  obtain ⟨i0, hi, hz0, hz1, hz2⟩ := info_parts hT.hi
  obtain ⟨v', w', hrun, h2, h3, _, h5⟩ := run_append_own_at (P := P) w B T o.type E i0 _ 3 bytes hT.ht hi hz0 hz1 hz2 hT.hz hT.hs v xs.length (flat3 xs) hown ⟨g, 0, none⟩ 1 c (cells3 y) (by simp [cells3]) (fun j u hu => by
    have hadd : (⟨g, 0, none⟩ : Addr).add j = ⟨g, j, none⟩ := by unfold Addr.add; split <;> simp_all
    rw [hadd, hb.cell]
    simpa using hu) (by simp [cells3, Value.oneCell']) (by unfold maxLen; omega)
    (Nat.le_trans (Nat.mul_le_mul hl hbt) (by omega)) hB
  unfold Oper.wp
  simp [execOp, ho, resolve, invoke, builtin, hs, hx, hrun, Result.andThen]
  refine h v' w' ⟨?_, h3, h5⟩
  unfold Own3
  rw [flat3_snoc, List.length_append]
  exact h2

theorem flat3_append (xs ys : List Tr) : flat3 (xs ++ ys) = flat3 xs ++ flat3 ys := by simp [flat3]
theorem flat3_get {xs : List Tr} {j : Nat} {u : Value} (h : (flat3 xs)[j]? = some u) : ∃ hj : j / 3 < xs.length, (cells3 xs[j / 3])[j % 3]? = some u := by
  have hj : j < (flat3 xs).length := by
    rcases Nat.lt_or_ge j (flat3 xs).length with h' | h'
    · exact h'
    · rw [List.getElem?_eq_none h'] at h; cases h
  rw [flat3_length] at hj
  have hk : j / 3 < xs.length := by omega
  refine ⟨hk, ?_⟩
  rw [← flat3_at hk (j % 3) (by omega), show j / 3 * 3 + j % 3 = j by omega]
  exact h
/-- append(s, xs...), the triples anywhere -/
theorem wpList_push3All {P : Program} {T E : TypeId} {z : Value} {bytes : Nat} (hT : ElSl P T E z 3 bytes) {ops : Array Oper} {rest : List Oper} {o : Oper} {a : Act} {Q : Exit → Act → World → Prop} {w : World} (hgd : o.guard = none) (s x : Operand)
    (ho : o.op = .call { callee := .builtin .append, args := #[s, x], argTypes := #[T, T] })
    (B : Nat) (v : Value) (xs ys : List Tr) (hs : a.eval s = v) (hown : Own3 E B w v xs) (ad : Addr) (n c : Nat) (hx : a.eval x = .slice (some ad) n c) (hn : ys.length = n) (hc : 0 < ys.length → Trip w (some ad) ys)
    (hl : xs.length + ys.length ≤ 1000000000) (hbt : bytes ≤ 1000) (hB : B ≤ w.heap.size)
    (h : ∀ v' w', Apd3 E B w v (xs ++ ys) v' w' → wpList P ops Q rest (a.put o.dst v') w') : wpList P ops Q (o :: rest) a w := by
  obtain ⟨i0, hi, hz0, hz1, hz2⟩ := info_parts hT.hi
  subst hn
  obtain ⟨v', w', hrun, h2, h3, _, h5⟩ := run_append_own_at (P := P) w B T o.type E i0 _ 3 bytes hT.ht hi hz0 hz1 hz2 hT.hz hT.hs v xs.length (flat3 xs) hown ad ys.length c (flat3 ys) (flat3_length ys) (fun j u hu => by
    obtain ⟨hj, hu⟩ := flat3_get hu
    obtain ⟨b, off, he, _, d0, d1, d2⟩ := (hc (by omega)).at_ hj
    cases he
    have hadd : ∀ i, (⟨b, off, none⟩ : Addr).add i = ⟨b, off + i, none⟩ := fun i => by unfold Addr.add; split <;> simp_all
    rw [hadd]
    have hm : j % 3 < 3 := Nat.mod_lt _ (by decide)
    have e : off + j = off + j / 3 * 3 + j % 3 := by omega
    rw [e]
    generalize j % 3 = r at hu hm ⊢
    match r, hu, hm with
    | 0, hu, _ => rw [Nat.add_zero]; simp [cells3] at hu; rw [← hu]; exact d0
    | 1, hu, _ => simp [cells3] at hu; rw [← hu]; exact d1
    | 2, hu, _ => simp [cells3] at hu; rw [← hu]; exact d2) (by
    intro u hu
    simp only [flat3, List.mem_flatMap] at hu
    obtain ⟨y, _, hy⟩ := hu
    simp only [cells3, List.mem_cons, List.not_mem_nil, or_false] at hy
    rcases hy with rfl | rfl | rfl <;> rfl) (by unfold maxLen; omega)
    (Nat.le_trans (Nat.mul_le_mul hl hbt) (by omega)) hB
  refine wpList_plain hgd fun _ hK => ?_
  unfold Oper.wp execOp
  simp only [ho, resolve, invoke, builtin, Sem.run_bind, Sem.run_pure, Result.andThen_ok, List.map_toArray, List.map_cons, List.map_nil, hs, hx, hrun]
  refine hK _ _ (h v' w' ⟨?_, h3, h5⟩)
  unfold Own3
  rw [flat3_append, List.length_append]
  exact h2

theorem Own3.setOther {E : TypeId} {B : Nat} {w : World} {v : Value} {xs : List Tr} {g : Nat} {t : TypeId} {cs : Array Value} (h : Own3 E B w v xs) (hg : Blk w g t cs) (hne : E ≠ t) (i : Nat) (u : Value) : Own3 E B (w.setCell ⟨g, i, none⟩ u) v xs :=
  h.fr ((Fr.refl (Only g) w).setOnly i u) fun k hk e => h.blk_ne hg hne (by rw [hk]; unfold Only at e; rw [e])
theorem Own3.weak {E : TypeId} {B B' : Nat} {w : World} {v : Value} {xs : List Tr} (h : Own3 E B w v xs) (hB : B' ≤ B) : Own3 E B' w v xs := by
  refine ⟨h.1, ?_⟩
  rcases h.2 with hn | ⟨g, cap, cur, rfl, hb, rest⟩
  · exact .inl hn
  · exact .inr ⟨g, cap, cur, rfl, Nat.le_trans hB hb, rest⟩

/-- the reference's pew: a block with a slice of its own -/
def RefIs (w : World) (h B : Nat) (v : Value) (L : List Tr) : Prop := Blk w h 41 #[v] ∧ Own3 45 B w v L ∧ B ≤ h
/-- what a call may write: the block, the slice's row -/
def MayR (h : Nat) (v : Value) : Nat → Prop := fun k => k = h ∨ v.ownBlock = some k
theorem RefIs.fr {w w' : World} {h B : Nat} {v : Value} {L : List Tr} {S : Nat → Prop} (hr : RefIs w h B v L) (hf : Fr S w w') (h1 : ¬ S h) (h2 : ∀ k, v.ownBlock = some k → ¬ S k) : RefIs w' h B v L :=
  ⟨hr.1.fr hf h1, hr.2.1.fr hf h2, hr.2.2⟩
theorem RefIs.no {w w' : World} {h B : Nat} {v : Value} {L : List Tr} (hr : RefIs w h B v L) (hf : Fr No w w') : RefIs w' h B v L := hr.fr hf (fun h => h) (fun _ _ h => h)
theorem RefIs.form {w : World} {h B : Nat} {v : Value} {L : List Tr} (hr : RefIs w h B v L) : ∃ A c, v = .slice A L.length c ∧ Trip w A L := by
  obtain ⟨A, c, h1, h2, _⟩ := hr.2.1.form
  exact ⟨A, c, h1, h2⟩
theorem RefIs.new_ {a w w' : World} {h B : Nat} {v : Value} {L : List Tr} (hr : RefIs w h B v L) (ha : Fr No a w) (hB : a.heap.size ≤ B) (hf : Fr (MayR h v) w w') : Fr No a w' :=
  ha.then_ hf fun i hi e => by
    rcases e with e | e
    · have := hr.2.2; omega
    · have := (hr.2.1.lt i e).1; omega

/- Add -/
set_option maxHeartbeats 1000000 in
theorem radd_bad (p : Option Addr) (a b c : Int) (w : World) (h : a < 0 ∨ b < -1) : Calls Try.prog 14 #[.pointer p, .agg #[.int .i64 a, .int .i64 b, .int .i64 c]] w (Told 1 w) := by
  by_cases h0 : a < 0
  · clear h
    go_enter Try.func14, Try.ntmps14
    go_wp2
    go_ret
    exact ⟨rfl, (Fr.refl _ _).alloc _⟩
  · have h0' : 0 ≤ a := by omega
    have h1 : b < -1 := by omega
    clear h
    go_enter Try.func14, Try.ntmps14
    go_wp2
    go_ret
    exact ⟨rfl, (Fr.refl _ _).alloc _⟩

def RAdded (h B : Nat) (v : Value) (L : List Tr) (w : World) (e : Ending) (w' : World) : Prop := e = .returned (.int .i64 0) ∧ (∃ v', RefIs w' h B v' L) ∧ Fr (MayR h v) w w'
set_option maxRecDepth 100000 in
set_option maxHeartbeats 4000000 in
theorem radd_room {h B : Nat} {v : Value} {L : List Tr} {w : World} (hr : RefIs w h B v L) (hl : L.length < 1024) (hB : B ≤ w.heap.size) (a b c : Int) (h0 : 0 ≤ a) (h1 : -1 ≤ b) : Calls Try.prog 14 #[.pointer (some ⟨h, 0, none⟩), .agg #[.int .i64 a, .int .i64 b, .int .i64 c]] w (RAdded h B v (L ++ [(a, b, c)]) w) := by
  obtain ⟨A, n, rfl, hi⟩ := hr.form
  have c0 : w.cell? ⟨h, 0, none⟩ = some (.slice A L.length n) := hr.1.cell 0
  have hh := hr.1.lt
  clear hi
  have hd : decide (1024 ≤ L.length) = false := by simp; omega
  go_enter Try.func14, Try.ntmps14
  go_wp2
  go_region_law (refine step_push3 el39 rfl (.tmp 23) (.tmp 25) rfl B (.slice A L.length n) L (a, b, c) (by simp [Act.eval, Act.put]) (((hr.2.1.alloc (.cells #[.int .i64 a, .int .i64 b, .int .i64 c] 45)).alloc (.cells #[.int .i64 a, .int .i64 b, .int .i64 c] 45)).drew) (w.heap.size + 1) 45 1 (by simp [Act.eval, Act.put]) ((two_new (w := w) (w3 := w) rfl (.cells #[.int .i64 a, .int .i64 b, .int .i64 c] 45) 45 #[.int .i64 a, .int .i64 b, .int .i64 c]).drew) (by omega) (by decide) (by simp; omega) ?_; intro v1 w1 hap
                 have hb1 := ((hr.1.alloc (.cells #[.int .i64 a, .int .i64 b, .int .i64 c] 45)).alloc (.cells #[.int .i64 a, .int .i64 b, .int .i64 c] 45)).drew.grown hap.2.1 (fun e => hr.2.1.blk_ne hr.1 (by decide) e.symm)
                 have hz1 : w1.frozen? ⟨h, 0, none⟩ = false := hb1.frozen 0
                 have hc1 : w1.cell? ⟨h, 0, none⟩ = some (.slice A L.length n) := hb1.cell 0
                 obtain ⟨A1, n1, hv1, _, _⟩ := hap.1.form
                 rw [show (L ++ [(a, b, c)]).length = L.length + 1 by simp] at hv1
                 subst hv1)
  all_goals go_wp2
  all_goals go_ret
  all_goals refine ⟨rfl, ⟨_, hb1.set_ 0 _, hap.1.setOther hb1 (by decide) 0 _, hr.2.2⟩, ?_⟩
  all_goals exact (((((Fr.refl _ w).alloc _).alloc _).drew).grown hap.2.1 (fun k hk _ => .inr hk)).setCell (p := ⟨h, 0, none⟩) (fun _ => .inl rfl) _
def code (x : Tr) : Int := if keep [] x then 0 else 1
def RAny (h B : Nat) (v : Value) (L : List Tr) (x : Tr) (w : World) (e : Ending) (w' : World) : Prop := e = .returned (.int .i64 (code x)) ∧ (∃ v', RefIs w' h B v' (L ++ if keep [] x then [x] else [])) ∧ Fr (MayR h v) w w'
theorem radd_any {h B : Nat} {v : Value} {L : List Tr} {w : World} (hr : RefIs w h B v L) (hl : L.length < 1024) (hB : B ≤ w.heap.size) (x : Tr) : Calls Try.prog 14 #[.pointer (some ⟨h, 0, none⟩), .agg #[.int .i64 x.1, .int .i64 x.2.1, .int .i64 x.2.2]] w (RAny h B v L x w) := by
  by_cases hx : x.1 < 0 ∨ x.2.1 < -1
  · refine (radd_bad _ x.1 x.2.1 x.2.2 w hx).mono ?_
    rintro e w' ⟨rfl, hf⟩
    have hk : ¬ keep [] x = true := by rw [keep_iff]; rintro ⟨h1, h2, _⟩; omega
    exact ⟨by unfold code; rw [if_neg hk], ⟨v, by rw [if_neg hk, List.append_nil]; exact hr.no hf⟩, hf.mono fun _ _ h => h.elim⟩
  · refine (radd_room hr hl hB x.1 x.2.1 x.2.2 (by omega) (by omega)).mono ?_
    rintro e w' ⟨rfl, hp, hf⟩
    have hk : keep [] x = true := by rw [keep_iff]; exact ⟨by omega, by omega, by simp⟩
    exact ⟨by unfold code; rw [if_pos hk], by rw [if_pos hk]; exact hp, hf⟩
def Any2 (g B : Nat) (ns : List Seat) (x : Tr) (w : World) (e : Ending) (w' : World) : Prop := e = .returned (.int .i64 (code x)) ∧ (∃ ns', PewIs w' g B ns' ∧ who ns' = who ns ++ (if keep [] x then [x] else [])) ∧ Fr (May g ns) w w'
theorem add_any2 {w : World} {g B : Nat} {ns : List Seat} (h : PewIs w g B ns) (hn : ns.length < 1024) (hB : B ≤ w.heap.size) (x : Tr) : Calls Try.prog 10 #[.pointer (some ⟨g, 0, none⟩), .agg #[.int .i64 x.1, .int .i64 x.2.1, .int .i64 x.2.2]] w (Any2 g B ns x w) := by
  by_cases hx : x.1 < 0 ∨ x.2.1 < -1
  · refine (add_bad _ x.1 x.2.1 x.2.2 w hx).mono ?_
    rintro e w' ⟨rfl, hf⟩
    have hk : ¬ keep [] x = true := by rw [keep_iff]; rintro ⟨h1, h2, _⟩; omega
    exact ⟨by unfold code; rw [if_neg hk], ⟨ns, h.no hf, by rw [if_neg hk, List.append_nil]⟩, hf.mono fun _ _ h => h.elim⟩
  · refine (add_room h hn hB x.1 x.2.1 x.2.2 (by omega) (by omega)).mono ?_
    rintro e w' ⟨rfl, ⟨b, hb, hp⟩, hf⟩
    have hk : keep [] x = true := by rw [keep_iff]; exact ⟨by omega, by omega, by simp⟩
    exact ⟨by unfold code; rw [if_pos hk], ⟨_, hp, by rw [if_pos hk]; simp [who]⟩, hf⟩

/- the turning of a waiter -/
def Turned (x : Tr) (w : World) (e : Ending) (w' : World) : Prop := e = .returned (.agg #[.int .i64 x.1, .int .i64 x.2.1, .int .i64 x.2.2]) ∧ Fr No w w'
set_option maxHeartbeats 1000000 in
theorem ref_any (a b c : Int) (w : World) : Calls Try.prog 15 #[.agg #[.int .i64 a, .int .i64 b, .int .i64 c]] w (Turned (a, b, c) w) := by
  go_enter Try.func15, Try.ntmps15
  go_wp2
  refine bodyPost_ret (v := .agg #[.int .i64 a, .int .i64 b, .int .i64 c]) (by simp [results, Try.results15, go_sem]) rfl ⟨rfl, ?_⟩
  exact ((Fr.refl _ _).alloc _).alloc _

/- First -/
set_option maxHeartbeats 1000000 in
theorem rfirst_none {h B : Nat} {v : Value} {w : World} (hr : RefIs w h B v []) : Calls Try.prog 19 #[.pointer (some ⟨h, 0, none⟩)] w (Gave (0, 0, 0) false w) := by
  obtain ⟨A, c, rfl, hi⟩ := hr.form
  have c0 : w.cell? ⟨h, 0, none⟩ = some (.slice A 0 c) := hr.1.cell 0
  have hh := hr.1.lt
  clear hi
  go_enter Try.func19, Try.ntmps19
  go_wp2
  refine bodyPost_ret (v := .tuple #[.agg #[.int .i64 0, .int .i64 0, .int .i64 0], .bool false]) (by simp [results, Try.results19, go_sem]) rfl ⟨rfl, ?_⟩
  exact (Fr.refl _ _).alloc _
set_option maxHeartbeats 1000000 in
theorem rfirst_some {h B : Nat} {v : Value} {x : Tr} {L : List Tr} {w : World} (hr : RefIs w h B v (x :: L)) (hl : L.length < 1024) : Calls Try.prog 19 #[.pointer (some ⟨h, 0, none⟩)] w (Gave x true w) := by
  obtain ⟨A, c, rfl, hi⟩ := hr.form
  obtain ⟨b, off, rfl, hbl, d0, d1, d2⟩ := hi.at_ (k := 0) (by simp)
  simp only [Nat.zero_mul, Nat.add_zero, List.getElem_cons_zero] at d0 d1 d2
  have c0 : w.cell? ⟨h, 0, none⟩ = some (.slice (some ⟨b, off, none⟩) (L.length + 1) c) := (hr.1.cell 0).trans (by simp)
  have hh := hr.1.lt
  have hne : ((L.length : Int) + 1 == 0) = false := by simp; omega
  clear hi
  go_enter Try.func19, Try.ntmps19
  go_wp2
  refine bodyPost_ret (v := .tuple #[.agg #[.int .i64 x.1, .int .i64 x.2.1, .int .i64 x.2.2], .bool true]) (by simp [results, Try.results19, go_sem]) rfl ⟨rfl, ?_⟩
  exact (Fr.refl _ _).alloc _

theorem Trip.tail {w : World} {b off : Nat} {x : Tr} {L : List Tr} (h : Trip w (some ⟨b, off, none⟩) (x :: L)) : Trip w (some ⟨b, off + 3, none⟩) L := by
  intro _
  obtain ⟨b', off', e, hb, hc⟩ := h (by simp)
  cases e
  refine ⟨b, off + 3, rfl, hb, fun j y hy => ?_⟩
  have := hc (j + 1) y (by simpa using hy)
  rw [show off + (j + 1) * 3 = off + 3 + j * 3 by omega] at this
  exact this
/- Take -/
set_option maxHeartbeats 1000000 in
theorem rtake_none {h B : Nat} {v : Value} {w : World} (hr : RefIs w h B v []) : Calls Try.prog 16 #[.pointer (some ⟨h, 0, none⟩)] w (Gave (0, 0, 0) false w) := by
  have hb0 := Blk.new w 45 #[.int .i64 0, .int .i64 0, .int .i64 0]
  have hf0 := (Fr.refl No w).alloc (.cells #[.int .i64 0, .int .i64 0, .int .i64 0] 45)
  have h0 := hr.no hf0
  go_enter Try.func16, Try.ntmps16
  go_wp2_with (go_at_call 19; refine (rfirst_none h0).mono ?_; rintro e w1 ⟨rfl, hf1⟩
               have hb1 := hb0.fr hf1 (fun h => h)
               have e0 : w1.cell? ⟨w.heap.size, 0, none⟩ = some (.int .i64 0) := hb1.cell 0
               have e1 : w1.cell? ⟨w.heap.size, 1, none⟩ = some (.int .i64 0) := hb1.cell 1
               have e2 : w1.cell? ⟨w.heap.size, 2, none⟩ = some (.int .i64 0) := hb1.cell 2
               have y0 := hb1.frozen 0
               have y1 := hb1.frozen 1
               have y2 := hb1.frozen 2
               have hsz := hb1.lt)
  refine bodyPost_ret (v := .tuple #[.agg #[.int .i64 0, .int .i64 0, .int .i64 0], .bool false]) (by simp [results, Try.results16, go_sem, e0, e1, e2, hsz]) rfl ⟨rfl, ?_⟩
  exact (((((hf0.trans hf1).setNew (Nat.le_refl _) 0 _).setNew (Nat.le_refl _) 1 _).setNew (Nat.le_refl _) 2 _).alloc _)

def RTook (h B : Nat) (x : Tr) (L : List Tr) (w : World) (e : Ending) (w' : World) : Prop := e = .returned (.tuple #[.agg #[.int .i64 x.1, .int .i64 x.2.1, .int .i64 x.2.2], .bool true]) ∧ (∃ v', RefIs w' h B v' L) ∧ Fr (Only h) w w'
set_option maxHeartbeats 4000000 in
theorem rtake_some {h B : Nat} {v : Value} {x : Tr} {L : List Tr} {w : World} (hr : RefIs w h B v (x :: L)) (hl : L.length < 1024) (hB : B ≤ w.heap.size) : Calls Try.prog 16 #[.pointer (some ⟨h, 0, none⟩)] w (RTook h B x L w) := by
  have hb0 := Blk.new w 45 #[.int .i64 0, .int .i64 0, .int .i64 0]
  have hf0 := (Fr.refl No w).alloc (.cells #[.int .i64 0, .int .i64 0, .int .i64 0] 45)
  have h0 := hr.no hf0
  obtain ⟨A, c, hv, hi⟩ := hr.form
  obtain ⟨b, off, rfl, hbl, _⟩ := hi (by simp)
  obtain ⟨hnc, hcm⟩ := hr.2.1.cap hv
  rw [show (x :: L).length = L.length + 1 by simp] at hv
  rw [List.length_cons] at hnc
  subst hv
  have hh := hr.1.lt
  have hneh : w.heap.size ≠ h := by omega
  by_cases hc : c = 1
  · subst hc
    obtain rfl : L = [] := List.eq_nil_of_length_eq_zero (by omega)
    go_enter Try.func16, Try.ntmps16
    go_wp2_with (first
      | (go_at_call 19; refine (rfirst_some h0 hl).mono ?_; rintro e w1 ⟨rfl, hf1⟩
         have k1 := h0.no hf1
         have kc1 : w1.cell? ⟨h, 0, none⟩ = some (.slice (some ⟨b, off, none⟩) 1 1) := k1.1.cell 0
         have kh1 := k1.1.lt
         have hb1 := hb0.fr hf1 (fun h => h)
         have hsz := hb1.lt
         have hne1 : w1.heap.size ≠ h := by omega
         have hne2 : w1.heap.size ≠ w.heap.size := by omega
         have hal := Blk.new w1 45 #[.int .i64 x.1, .int .i64 x.2.1, .int .i64 x.2.2]
         have hB1 : B ≤ w1.heap.size := by omega)
      | (at_builtin; go_must (refine wpList_push3All el39 rfl (.tmp 13) (.tmp 18) rfl w1.heap.size (.slice none 0 0) [] [] rfl (Own3.nil _ _ _) ⟨b, off, none⟩ 0 0 rfl rfl (fun h => absurd h (by simp)) (by simp <;> omega) (by decide) (by simp) ?_); intro v2 w2 hap
         have hh2 := (k1.1.alloc (.cells #[.int .i64 x.1, .int .i64 x.2.1, .int .i64 x.2.2] 45)).grown hap.2.1 (by simp [Value.ownBlock])
         have hr2 := (hb1.alloc (.cells #[.int .i64 x.1, .int .i64 x.2.1, .int .i64 x.2.2] 45)).grown hap.2.1 (by simp [Value.ownBlock])
         have ha2 := hal.grown hap.2.1 (by simp [Value.ownBlock])
         have kc2 : w2.cell? ⟨h, 0, none⟩ = some (.slice (some ⟨b, off, none⟩) 1 1) := hh2.cell 0
         have kz2 := hh2.frozen 0
         have e0 : w2.cell? ⟨w.heap.size, 0, none⟩ = some (.int .i64 0) := hr2.cell 0
         have e1 : w2.cell? ⟨w.heap.size, 1, none⟩ = some (.int .i64 0) := hr2.cell 1
         have e2 : w2.cell? ⟨w.heap.size, 2, none⟩ = some (.int .i64 0) := hr2.cell 2
         have y0 := hr2.frozen 0
         have y1 := hr2.frozen 1
         have y2 := hr2.frozen 2
         have f0 : w2.cell? ⟨w1.heap.size, 0, none⟩ = some (.int .i64 x.1) := ha2.cell 0
         have f1 : w2.cell? ⟨w1.heap.size, 1, none⟩ = some (.int .i64 x.2.1) := ha2.cell 1
         have f2 : w2.cell? ⟨w1.heap.size, 2, none⟩ = some (.int .i64 x.2.2) := ha2.cell 2
         have hsz2 := hr2.lt
         obtain ⟨A2, n2, rfl, _, _⟩ := hap.1.form))
    refine bodyPost_ret (v := .tuple #[.agg #[.int .i64 x.1, .int .i64 x.2.1, .int .i64 x.2.2], .bool true]) (by simp [results, Try.results16, go_sem, e0, e1, e2, hsz2, hneh]) rfl ⟨rfl, ⟨_, (((hh2.set_ 0 _).far (p := ⟨w.heap.size, 0, none⟩) hneh.symm _).far (p := ⟨w.heap.size, 1, none⟩) hneh.symm _).far (p := ⟨w.heap.size, 2, none⟩) hneh.symm _,
      (hap.1.fr (((((Fr.refl (Two h w.heap.size) w2).setCell (p := ⟨h, 0, none⟩) (fun _ => .inl rfl) _).setCell (p := ⟨w.heap.size, 0, none⟩) (fun _ => .inr rfl) _).setCell (p := ⟨w.heap.size, 1, none⟩) (fun _ => .inr rfl) _).setCell (p := ⟨w.heap.size, 2, none⟩) (fun _ => .inr rfl) _) ?_).weak hB1, hr.2.2⟩, ?_⟩
    · rintro k hk (e | e)
      · have := (hap.1.lt k hk).1; omega
      · have := (hap.1.lt k hk).1; omega
    · exact (((((((hf0.trans hf1).alloc _).grown hap.2.1 (by simp [Value.ownBlock])).mono (fun _ _ h => h.elim)).setOnly 0 _).setNew (Nat.le_refl _) 0 _).setNew (Nat.le_refl _) 1 _).setNew (Nat.le_refl _) 2 _
  · have HI := Lib.hid hi
    clear hi
    go_enter Try.func16, Try.ntmps16
    go_wp2_with (first
      | (go_at_call 19; refine (rfirst_some h0 hl).mono ?_; rintro e w1 ⟨rfl, hf1⟩
         have k1 := h0.no hf1
         have kc1 : w1.cell? ⟨h, 0, none⟩ = some (.slice (some ⟨b, off, none⟩) (L.length + 1) c) := k1.1.cell 0
         have kh1 := k1.1.lt
         have hb1 := hb0.fr hf1 (fun h => h)
         have hsz := hb1.lt
         have hne1 : w1.heap.size ≠ h := by omega
         have hne2 : w1.heap.size ≠ w.heap.size := by omega
         have hal := Blk.new w1 45 #[.int .i64 x.1, .int .i64 x.2.1, .int .i64 x.2.2]
         have hB1 : B ≤ w1.heap.size := by omega)
      | (at_builtin; go_must (refine wpList_push3All el39 rfl (.tmp 13) (.tmp 18) rfl w1.heap.size (.slice none 0 0) [] L rfl (Own3.nil _ _ _) ⟨b, off + 3, none⟩ L.length (c - 1) rfl rfl (fun _ => ((HI.out.fr hf0 (fun _ _ h => h)).fr (hf1.alloc _) (fun _ _ h => h)).tail) (by simp <;> omega) (by decide) (by simp) ?_); intro v2 w2 hap
         have hh2 := (k1.1.alloc (.cells #[.int .i64 x.1, .int .i64 x.2.1, .int .i64 x.2.2] 45)).grown hap.2.1 (by simp [Value.ownBlock])
         have hr2 := (hb1.alloc (.cells #[.int .i64 x.1, .int .i64 x.2.1, .int .i64 x.2.2] 45)).grown hap.2.1 (by simp [Value.ownBlock])
         have ha2 := hal.grown hap.2.1 (by simp [Value.ownBlock])
         have kc2 : w2.cell? ⟨h, 0, none⟩ = some (.slice (some ⟨b, off, none⟩) (L.length + 1) c) := hh2.cell 0
         have kz2 := hh2.frozen 0
         have e0 : w2.cell? ⟨w.heap.size, 0, none⟩ = some (.int .i64 0) := hr2.cell 0
         have e1 : w2.cell? ⟨w.heap.size, 1, none⟩ = some (.int .i64 0) := hr2.cell 1
         have e2 : w2.cell? ⟨w.heap.size, 2, none⟩ = some (.int .i64 0) := hr2.cell 2
         have y0 := hr2.frozen 0
         have y1 := hr2.frozen 1
         have y2 := hr2.frozen 2
         have f0 : w2.cell? ⟨w1.heap.size, 0, none⟩ = some (.int .i64 x.1) := ha2.cell 0
         have f1 : w2.cell? ⟨w1.heap.size, 1, none⟩ = some (.int .i64 x.2.1) := ha2.cell 1
         have f2 : w2.cell? ⟨w1.heap.size, 2, none⟩ = some (.int .i64 x.2.2) := ha2.cell 2
         have hsz2 := hr2.lt
         obtain ⟨A2, n2, rfl, _, _⟩ := hap.1.form))
    refine bodyPost_ret (v := .tuple #[.agg #[.int .i64 x.1, .int .i64 x.2.1, .int .i64 x.2.2], .bool true]) (by simp [results, Try.results16, go_sem, e0, e1, e2, hsz2, hneh]) rfl ⟨rfl, ⟨_, (((hh2.set_ 0 _).far (p := ⟨w.heap.size, 0, none⟩) hneh.symm _).far (p := ⟨w.heap.size, 1, none⟩) hneh.symm _).far (p := ⟨w.heap.size, 2, none⟩) hneh.symm _,
      (hap.1.fr (((((Fr.refl (Two h w.heap.size) w2).setCell (p := ⟨h, 0, none⟩) (fun _ => .inl rfl) _).setCell (p := ⟨w.heap.size, 0, none⟩) (fun _ => .inr rfl) _).setCell (p := ⟨w.heap.size, 1, none⟩) (fun _ => .inr rfl) _).setCell (p := ⟨w.heap.size, 2, none⟩) (fun _ => .inr rfl) _) ?_).weak hB1, hr.2.2⟩, ?_⟩
    · rintro k hk (e | e)
      · have := (hap.1.lt k hk).1; omega
      · have := (hap.1.lt k hk).1; omega
    · exact (((((((hf0.trans hf1).alloc _).grown hap.2.1 (by simp [Value.ownBlock])).mono (fun _ _ h => h.elim)).setOnly 0 _).setNew (Nat.le_refl _) 0 _).setNew (Nat.le_refl _) 1 _).setNew (Nat.le_refl _) 2 _

/- Drop -/
def RDropped (h B : Nat) (d : Nat) (L : List Tr) (w : World) (e : Ending) (w' : World) : Prop := e = .returned (.int .i64 d) ∧ (∃ v', RefIs w' h B v' L) ∧ Fr (Only h) w w'
set_option maxHeartbeats 4000000 in
theorem rdrop_d {h B : Nat} {v : Value} {L : List Tr} {w : World} (hr : RefIs w h B v L) (hl : L.length < 1024) (hB : B ≤ w.heap.size) (q : Int) (d : Nat) (hd : L.length = d + (rest q L).length) : Calls Try.prog 17 #[.pointer (some ⟨h, 0, none⟩), .int .i64 q] w (RDropped h B d (rest q L) w) := by
  obtain ⟨A, c, rfl, hi⟩ := hr.form
  have c0 : w.cell? ⟨h, 0, none⟩ = some (.slice A L.length c) := hr.1.cell 0
  have hh := hr.1.lt
  have HD := Lib.hid hd
  clear hd
  go_enter Try.func17, Try.ntmps17
  go_wp2
  go_loopw [5, 14] (fun u j wr => ∃ k : Nat, j = .int .i64 k ∧ k ≤ L.length ∧ Own3 45 w.heap.size wr u (rest q (L.take k)) ∧ Fr No w wr) (fun _ j _ => L.length - (intOf j).toNat)
  case atStart => exact ⟨0, rfl, by omega, Own3.nil _ _ _, Fr.refl _ _⟩
  case round =>
    obtain ⟨k, rfl, hk, hown, hf⟩ := hrel
    have hrl : (rest q (L.take k)).length ≤ k := by
      have := rest_le q (L.take k)
      rw [List.length_take] at this
      omega
    by_cases hlt : k < L.length
    · obtain ⟨b, off, rfl, hbl, d0, d1, d2⟩ := (hi.fr hf (fun _ _ h => h)).at_ hlt
      have htk := Lib.hid (take_snoc hlt)
      clear hi
      by_cases he : L[k].1 = q
      · have hb : (L[k].1 != q) = false := by simp [he]
        have HE := Lib.hid he
        clear he
        go_wp2
        go_roundw
        case rel => exact ⟨k + 1, by go_num, by omega, (hown.alloc _).congr (by rw [← htk.out, rest_snoc, if_pos HE.out]), hf.alloc _⟩
        case measure => simp [intOf]; omega
      · have hb : (L[k].1 != q) = true := by simp [he]
        have HE := Lib.hid he
        clear he
        have hf1 := (hf.alloc (.cells #[.int .i64 L[k].1, .int .i64 L[k].2.1, .int .i64 L[k].2.2] 45)).alloc (.cells #[.int .i64 L[k].1, .int .i64 L[k].2.1, .int .i64 L[k].2.2] 45)
        go_wp2_with (at_builtin; go_must (refine wpList_push3 el39 rfl (.tmp 22) (.tmp 24) rfl w.heap.size u5 (rest q (L.take k)) L[k] rfl ((hown.alloc _).alloc _) (wr.heap.size + 1) 45 1 rfl (two_new (w := wr) (w3 := wr) rfl _ _ _) (by omega) (by decide) hf1.size ?_); intro v' w1 hap)
        go_roundw
        case rel => exact ⟨k + 1, by go_num, by omega, hap.1.congr (by rw [← htk.out, rest_snoc, if_neg HE.out]), hap.fr hf1 hown (Nat.le_refl _)⟩
        case measure => simp [intOf]; omega
    · have hkl : k = L.length := by omega
      have hw2 : L.take k = L := List.take_of_length_le (by omega)
      rw [hw2] at hown
      have hD := HD.out
      have hr2 := hr.no hf
      have kc : wr.cell? ⟨h, 0, none⟩ = some (.slice A L.length c) := hr2.1.cell 0
      have kz := hr2.1.frozen 0
      have kh := hr2.1.lt
      obtain ⟨A2, c2, rfl, _, _⟩ := hown.form
      have hsub : (L.length : Int) - (rest q L).length = d := by omega
      clear hi hkl hw2
      go_wp2
      go_ret
      refine ⟨rfl, ⟨_, hr2.1.set_ 0 _, (hown.setOther hr2.1 (by decide) 0 _).weak hB, hr.2.2⟩, ?_⟩
      exact (hf.mono (fun _ _ h => h.elim)).setOnly 0 _

/- Has -/
set_option maxHeartbeats 2000000 in
theorem rhas_no {h B : Nat} {v : Value} {L : List Tr} {w : World} (hr : RefIs w h B v L) (hl : L.length < 1024) (q : Int) (hq : ∀ x ∈ L, x.1 ≠ q) : Calls Try.prog 21 #[.pointer (some ⟨h, 0, none⟩), .int .i64 q] w (Found false w) := by
  have HQ := Lib.hid hq
  clear hq
  obtain ⟨A, c, rfl, hi⟩ := hr.form
  have c0 : w.cell? ⟨h, 0, none⟩ = some (.slice A L.length c) := hr.1.cell 0
  have hh := hr.1.lt
  go_enter Try.func21, Try.ntmps21
  go_wp2
  go_loopw [4, 12] (fun f i wr => f = .bool false ∧ ∃ k : Nat, i = .int .i64 k ∧ k ≤ L.length ∧ Fr No w wr) (fun _ i _ => L.length - (intOf i).toNat)
  case atStart => exact ⟨rfl, 0, rfl, by omega, Fr.refl _ _⟩
  case round =>
    obtain ⟨rfl, k, rfl, hk, hf⟩ := hrel
    by_cases hlt : k < L.length
    · obtain ⟨b, off, rfl, hbl, d0, d1, d2⟩ := (hi.fr hf (fun _ _ h => h)).at_ hlt
      have hne : (L[k].1 == q) = false := by simp; exact HQ.out _ (List.getElem_mem hlt)
      clear hi
      go_wp2
      go_roundw
      case rel => exact ⟨rfl, k + 1, by go_num, by omega, hf.alloc _⟩
      case measure => simp [intOf]; omega
    · clear hi
      go_wp2
      go_ret
      exact ⟨rfl, hf⟩
set_option maxHeartbeats 2000000 in
theorem rhas_yes {h B : Nat} {v : Value} {L : List Tr} {w : World} (hr : RefIs w h B v L) (hl : L.length < 1024) (q : Int) (hq : ∃ x ∈ L, x.1 = q) : Calls Try.prog 21 #[.pointer (some ⟨h, 0, none⟩), .int .i64 q] w (Found true w) := by
  obtain ⟨i, hil, h1, h2⟩ := first_hit hq
  have H1 := Lib.hid h1
  have H2 := Lib.hid h2
  clear h1 h2
  obtain ⟨A, c, rfl, hi⟩ := hr.form
  have c0 : w.cell? ⟨h, 0, none⟩ = some (.slice A L.length c) := hr.1.cell 0
  have hh := hr.1.lt
  go_enter Try.func21, Try.ntmps21
  go_wp2
  go_loopw [4, 12] (fun f j wr => f = .bool false ∧ ∃ k : Nat, j = .int .i64 k ∧ k ≤ i ∧ Fr No w wr) (fun _ j _ => i + 1 - (intOf j).toNat)
  case atStart => exact ⟨rfl, 0, rfl, by omega, Fr.refl _ _⟩
  case round =>
    obtain ⟨rfl, k, rfl, hk, hf⟩ := hrel
    have hlt : k < L.length := by omega
    obtain ⟨b, off, rfl, hbl, d0, d1, d2⟩ := (hi.fr hf (fun _ _ h => h)).at_ hlt
    clear hi
    by_cases he : k = i
    · subst he
      have hne : (L[k].1 == q) = true := by simp; exact H1.out
      go_wp2
      go_ret
      exact ⟨rfl, hf.alloc _⟩
    · have hki : k < i := by omega
      have hne : (L[k].1 == q) = false := by simp; exact H2.out k hki
      clear he
      go_wp2
      go_roundw
      case rel => exact ⟨rfl, k + 1, by go_num, by omega, hf.alloc _⟩
      case measure => simp [intOf]; omega

/- same -/
set_option maxHeartbeats 2000000 in
theorem same_any {w : World} (A1 A2 : Option Addr) (c1 c2 : Nat) (L : List Tr) (h1 : Trip w A1 L) (h2 : Trip w A2 L) (hl : L.length < 1024) : Calls Try.prog 22 #[.slice A1 L.length c1, .slice A2 L.length c2] w (Found true w) := by
  go_enter Try.func22, Try.ntmps22
  go_wp2
  go_loopw [4, 13] (fun f i wr => f = .bool false ∧ ∃ k : Nat, i = .int .i64 k ∧ k ≤ L.length ∧ Fr No w wr) (fun _ i _ => L.length - (intOf i).toNat)
  case atStart => exact ⟨rfl, 0, rfl, by omega, Fr.refl _ _⟩
  case round =>
    obtain ⟨rfl, k, rfl, hk, hf⟩ := hrel
    by_cases hlt : k < L.length
    · obtain ⟨b1, o1, rfl, hb1, d0, d1, d2⟩ := (h1.fr hf (fun _ _ h => h)).at_ hlt
      obtain ⟨b2, o2, rfl, hb2, e0, e1, e2⟩ := (h2.fr hf (fun _ _ h => h)).at_ hlt
      clear h1 h2
      go_wp2
      go_region_held3 (fun w' => w'.cell? ⟨b1, o1 + k * 3, none⟩ = some (.int .i64 L[k].1) ∧ w'.cell? ⟨b1, o1 + k * 3 + 1, none⟩ = some (.int .i64 L[k].2.1) ∧ w'.cell? ⟨b1, o1 + k * 3 + 2, none⟩ = some (.int .i64 L[k].2.2) ∧ w'.cell? ⟨b2, o2 + k * 3, none⟩ = some (.int .i64 L[k].1) ∧ w'.cell? ⟨b2, o2 + k * 3 + 1, none⟩ = some (.int .i64 L[k].2.1) ∧ w'.cell? ⟨b2, o2 + k * 3 + 2, none⟩ = some (.int .i64 L[k].2.2)) (first | assumption | go_keep)
        (first | (go_at_call 15; refine (ref_any L[k].1 L[k].2.1 L[k].2.2 _).mono ?_; rintro e w5 ⟨rfl, hf5⟩
                  have hs5 : w5.cell? ⟨b1, o1 + k * 3, none⟩ = some (.int .i64 L[k].1) ∧ w5.cell? ⟨b1, o1 + k * 3 + 1, none⟩ = some (.int .i64 L[k].2.1) ∧ w5.cell? ⟨b1, o1 + k * 3 + 2, none⟩ = some (.int .i64 L[k].2.2) ∧ w5.cell? ⟨b2, o2 + k * 3, none⟩ = some (.int .i64 L[k].1) ∧ w5.cell? ⟨b2, o2 + k * 3 + 1, none⟩ = some (.int .i64 L[k].2.1) ∧ w5.cell? ⟨b2, o2 + k * 3 + 2, none⟩ = some (.int .i64 L[k].2.2) := ⟨(hf5.cell (p := ⟨b1, o1 + k * 3, none⟩) hb1 (fun h => h)).trans d0, (hf5.cell (p := ⟨b1, o1 + k * 3 + 1, none⟩) hb1 (fun h => h)).trans d1, (hf5.cell (p := ⟨b1, o1 + k * 3 + 2, none⟩) hb1 (fun h => h)).trans d2, (hf5.cell (p := ⟨b2, o2 + k * 3, none⟩) hb2 (fun h => h)).trans e0, (hf5.cell (p := ⟨b2, o2 + k * 3 + 1, none⟩) hb2 (fun h => h)).trans e1, (hf5.cell (p := ⟨b2, o2 + k * 3 + 2, none⟩) hb2 (fun h => h)).trans e2⟩))
      go_wp2
      go_roundw
      case rel => exact ⟨rfl, k + 1, by go_num, by omega, hf.drew.trans hf5⟩
      case measure => simp [intOf]; omega
    · clear h1 h2
      go_wp2
      go_ret
      exact ⟨rfl, hf⟩
end Go.Proofs.Ytbmobikhfcmgjaa
