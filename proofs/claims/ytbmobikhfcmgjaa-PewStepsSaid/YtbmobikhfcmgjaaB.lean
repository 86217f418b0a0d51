/- The pew's own functions: what each call does. -/
import Derived.Test.YtbmobikhfcmgjaaR
namespace Go.Proofs.Ytbmobikhfcmgjaa
open Go.RowKit

theorem el22 : ElSl Try.prog 22 28 (.agg #[.int .i64 0, .int .i64 0, .int .i64 0]) 3 24 := ⟨Try.underlying22, by kernel_rfl, rfl, by decide⟩

/-- a seat's number and its waiter -/
abbrev Seat := Nat × Tr
def headP : List Seat → Option Addr | [] => none | s :: _ => some ⟨s.1, 0, none⟩
def lastP : List Seat → Option Addr | [] => none | [s] => some ⟨s.1, 0, none⟩ | _ :: t :: r => lastP (t :: r)
def seatCells (x : Tr) (p : Option Addr) : Array Value := #[.int .i64 x.1, .int .i64 x.2.1, .int .i64 x.2.2, .pointer p]
def Chain (w : World) (B : Nat) : List Seat → Prop
  | [] => True
  | s :: r => Blk w s.1 58 (seatCells s.2 (headP r)) ∧ B ≤ s.1 ∧ Chain w B r

theorem Chain.keep {w w' : World} {B : Nat} : ∀ {ns : List Seat}, Chain w B ns → (∀ s ∈ ns, w'.heap[s.1]? = w.heap[s.1]?) → Chain w' B ns
  | [], _, _ => trivial
  | s :: r, h, hk => ⟨(hk s (by simp)).trans h.1, h.2.1, h.2.2.keep fun t ht => hk t (by simp [ht])⟩
theorem Chain.lt {w : World} {B : Nat} : ∀ {ns : List Seat}, Chain w B ns → ∀ s ∈ ns, s.1 < w.heap.size ∧ B ≤ s.1 ∧ ∃ cs, Blk w s.1 58 cs
  | s :: r, h, t, ht => by
    rcases List.mem_cons.1 ht with rfl | ht
    · exact ⟨h.1.lt, h.2.1, _, h.1⟩
    · exact h.2.2.lt t ht
theorem Chain.fr {w w' : World} {B : Nat} {S : Nat → Prop} {ns : List Seat} (h : Chain w B ns) (hf : Fr S w w') (hs : ∀ s ∈ ns, ¬ S s.1) : Chain w' B ns :=
  h.keep fun s hm => hf.block s.1 (h.lt s hm).1 (hs s hm)
/-- a block of another type is no seat -/
theorem Chain.ne {w : World} {B : Nat} {ns : List Seat} (h : Chain w B ns) {g : Nat} {t : TypeId} {cs : Array Value} (hb : Blk w g t cs) (ht : 58 ≠ t) : ∀ s ∈ ns, s.1 ≠ g := fun s hm => by
  obtain ⟨_, _, cs', hb'⟩ := h.lt s hm
  exact hb'.ne_ hb ht

theorem headP_snoc (ns : List Seat) (s : Seat) : headP (ns ++ [s]) = if ns = [] then some ⟨s.1, 0, none⟩ else headP ns := by
  cases ns <;> simp [headP]
theorem lastP_snoc : ∀ (ns : List Seat) (s : Seat), lastP (ns ++ [s]) = some ⟨s.1, 0, none⟩
  | [], _ => rfl
  | [_], _ => rfl
  | _ :: t :: r, s => lastP_snoc (t :: r) s
theorem lastP_some : ∀ (ns : List Seat), ns ≠ [] → ∃ ms s, ns = ms ++ [s] ∧ lastP ns = some ⟨s.1, 0, none⟩
  | [], h => absurd rfl h
  | [s], _ => ⟨[], s, rfl, rfl⟩
  | s :: t :: r, _ => by
    obtain ⟨ms, u, h1, h2⟩ := lastP_some (t :: r) (by simp)
    exact ⟨s :: ms, u, by rw [h1]; rfl, h2⟩

/-- the last seat -/
theorem Chain.last {w : World} {B : Nat} : ∀ {ms : List Seat} {s : Seat}, Chain w B (ms ++ [s]) → Blk w s.1 58 (seatCells s.2 none)
  | [], _, h => h.1
  | _ :: ms, _, h => Chain.last (ms := ms) h.2.2
/-- one more seat behind: the last one's next is written -/
theorem Chain.snoc {w w' : World} {B : Nat} {n : Seat} (hn : Blk w' n.1 58 (seatCells n.2 none)) (hB : B ≤ n.1) : ∀ {ms : List Seat} {s : Seat}, Chain w B (ms ++ [s]) →
    (∀ t ∈ ms, w'.heap[t.1]? = w.heap[t.1]?) → Blk w' s.1 58 (seatCells s.2 (some ⟨n.1, 0, none⟩)) → Chain w' B (ms ++ [s] ++ [n])
  | [], s, h, _, hs => ⟨hs, h.2.1, hn, hB, trivial⟩
  | m :: ms, s, h, hk, hs => by
    refine ⟨?_, h.2.1, Chain.snoc hn hB (ms := ms) (s := s) h.2.2 (fun t ht => hk t (by simp [ht])) hs⟩
    have e : headP (List.append (List.append ms [s]) [n]) = headP (List.append ms [s]) := by
      show headP ((ms ++ [s]) ++ [n]) = headP (ms ++ [s])
      rw [headP_snoc, if_neg (by simp)]
    rw [e]
    exact (hk m (by simp)).trans h.1

/-- the pew at block g: its seats ns, all of them from block B on, none twice; who waits may wait -/
def PewIs (w : World) (g B : Nat) (ns : List Seat) : Prop :=
  Blk w g 56 #[.pointer (headP ns), .pointer (lastP ns), .int .i64 ns.length] ∧ B ≤ g ∧ Chain w B ns ∧ (ns.map (·.1)).Nodup ∧ ns.length ≤ 1024 ∧ ∀ s ∈ ns, 0 ≤ s.2.1 ∧ -1 ≤ s.2.2.1
def May (g : Nat) (ns : List Seat) : Nat → Prop := fun k => k = g ∨ ∃ s ∈ ns, s.1 = k

theorem PewIs.lt {w : World} {g B : Nat} {ns : List Seat} (h : PewIs w g B ns) : g < w.heap.size := h.1.lt
theorem PewIs.fr {w w' : World} {g B : Nat} {ns : List Seat} {S : Nat → Prop} (h : PewIs w g B ns) (hf : Fr S w w') (h1 : ¬ S g) (h2 : ∀ s ∈ ns, ¬ S s.1) : PewIs w' g B ns :=
  ⟨h.1.fr hf h1, h.2.1, h.2.2.1.fr hf h2, h.2.2.2⟩
theorem PewIs.no {w w' : World} {g B : Nat} {ns : List Seat} (h : PewIs w g B ns) (hf : Fr No w w') : PewIs w' g B ns := h.fr hf (fun h => h) (fun _ _ h => h)
/-- of the frame, all that was there before B -/
theorem PewIs.new_ {a w w' : World} {g B : Nat} {ns : List Seat} (h : PewIs w g B ns) (ha : Fr No a w) (hB : a.heap.size ≤ B) (hf : Fr (May g ns) w w') : Fr No a w' :=
  ha.then_ hf fun i hi e => by
    rcases e with e | ⟨s, hs, e⟩
    · have := h.2.1; omega
    · have := (h.2.2.1.lt s hs).2.1; omega
/-- a block of another type is not written -/
theorem PewIs.blk {w w' : World} {g B : Nat} {ns : List Seat} {b : Nat} {t : TypeId} {cs : Array Value} (h : PewIs w g B ns) (hb : Blk w b t cs) (h1 : t ≠ 56) (h2 : 58 ≠ t) (hf : Fr (May g ns) w w') : Blk w' b t cs := by
  refine hb.fr hf fun e => ?_
  rcases e with e | ⟨s, hs, e⟩
  · exact hb.ne_ h.1 h1 e
  · exact h.2.2.1.ne hb h2 s hs e
theorem PewIs.own {w w' : World} {g B : Nat} {ns : List Seat} {E : TypeId} {B' : Nat} {v : Value} {xs : List Tr} (h : PewIs w g B ns) (ho : Own3 E B' w v xs) (h1 : E ≠ 56) (h2 : E ≠ 58) (hf : Fr (May g ns) w w') : Own3 E B' w' v xs :=
  ho.fr hf fun k hk e => by
    rcases e with e | ⟨s, hs, e⟩
    · exact ho.blk_ne h.1 h1 (by rw [hk, e])
    · obtain ⟨_, _, cs, hb⟩ := h.2.2.1.lt s hs
      exact ho.blk_ne hb h2 (by rw [hk, e])

theorem two_new {w w3 : World} (hz : w3.heap.size = w.heap.size) (o1 : Obj) (t : TypeId) (cs : Array Value) : Blk ((w3.alloc o1).alloc (.cells cs t)) (w.heap.size + 1) t cs := by
  have h := Blk.new (w3.alloc o1) t cs
  rw [show (w3.alloc o1).heap.size = w.heap.size + 1 by simp [hz]] at h
  exact h

def trV (x : Tr) : Value := .agg #[.int .i64 x.1, .int .i64 x.2.1, .int .i64 x.2.2]

/- New, Len -/
set_option maxHeartbeats 400000 in
theorem new_any (w : World) : Calls Try.prog 8 #[] w fun e w' => e = .returned (.pointer (some ⟨w.heap.size, 0, none⟩)) ∧ PewIs w' w.heap.size w.heap.size [] ∧ Fr No w w' := by
  go_enter Try.func8, Try.ntmps8
  go_wp2
  go_ret
  exact ⟨rfl, ⟨Blk.new _ _ _, Nat.le_refl _, trivial, List.nodup_nil, by simp, by simp⟩, (Fr.refl _ _).alloc _⟩
set_option maxHeartbeats 400000 in
theorem len_nil (w : World) : Calls Try.prog 13 #[.pointer none] w fun e w' => e = .returned (.int .i64 0) ∧ w = w' := by
  go_enter Try.func13, Try.ntmps13
  go_wp2
  go_ret
  exact ⟨rfl, rfl⟩
set_option maxHeartbeats 400000 in
theorem len_any {w : World} {g B : Nat} {ns : List Seat} (h : PewIs w g B ns) : Calls Try.prog 13 #[.pointer (some ⟨g, 0, none⟩)] w fun e w' => e = .returned (.int .i64 ns.length) ∧ w = w' := by
  have c2 : w.cell? ⟨g, 2, none⟩ = some (.int .i64 ns.length) := h.1.cell 2
  go_enter Try.func13, Try.ntmps13
  go_wp2
  go_ret
  exact ⟨rfl, rfl⟩

/- Add -/
def Told (r : Int) (w : World) (e : Ending) (w' : World) : Prop := e = .returned (.int .i64 r) ∧ Fr No w w'
set_option maxHeartbeats 1000000 in
theorem add_bad (p : Option Addr) (a b c : Int) (w : World) (h : a < 0 ∨ b < -1) : Calls Try.prog 10 #[.pointer p, .agg #[.int .i64 a, .int .i64 b, .int .i64 c]] w (Told 1 w) := by
  by_cases h0 : a < 0
  · clear h
    go_enter Try.func10, Try.ntmps10
    go_wp2
    go_ret
    exact ⟨rfl, (Fr.refl _ _).alloc _⟩
  · have h0' : 0 ≤ a := by omega
    have h1 : b < -1 := by omega
    clear h
    go_enter Try.func10, Try.ntmps10
    go_wp2
    go_ret
    exact ⟨rfl, (Fr.refl _ _).alloc _⟩
set_option maxHeartbeats 1000000 in
theorem add_nil (a b c : Int) (w : World) (h0 : 0 ≤ a) (h1 : -1 ≤ b) : Calls Try.prog 10 #[.pointer none, .agg #[.int .i64 a, .int .i64 b, .int .i64 c]] w (Told 7 w) := by
  go_enter Try.func10, Try.ntmps10
  go_wp2
  go_ret
  exact ⟨rfl, (Fr.refl _ _).alloc _⟩
set_option maxHeartbeats 1000000 in
theorem add_full {w : World} {g B : Nat} {ns : List Seat} (h : PewIs w g B ns) (hn : ns.length = 1024) (a b c : Int) (h0 : 0 ≤ a) (h1 : -1 ≤ b) : Calls Try.prog 10 #[.pointer (some ⟨g, 0, none⟩), .agg #[.int .i64 a, .int .i64 b, .int .i64 c]] w (Told 5 w) := by
  have c2 : w.cell? ⟨g, 2, none⟩ = some (.int .i64 1024) := (h.1.cell 2).trans (by rw [hn]; rfl)
  have hg := h.lt
  clear hn
  go_enter Try.func10, Try.ntmps10
  go_wp2
  go_ret
  exact ⟨rfl, (Fr.refl _ _).alloc _⟩

def Added (g B : Nat) (ns : List Seat) (x : Tr) (w : World) (e : Ending) (w' : World) : Prop := e = .returned (.int .i64 0) ∧ (∃ b, w.heap.size ≤ b ∧ PewIs w' g B (ns ++ [(b, x)])) ∧ Fr (May g ns) w w'
set_option maxHeartbeats 1000000 in
theorem add_first {w : World} {g B : Nat} (h : PewIs w g B []) (hB : B ≤ w.heap.size) (a b c : Int) (h0 : 0 ≤ a) (h1 : -1 ≤ b) : Calls Try.prog 10 #[.pointer (some ⟨g, 0, none⟩), .agg #[.int .i64 a, .int .i64 b, .int .i64 c]] w (Added g B [] (a, b, c) w) := by
  have c1 : w.cell? ⟨g, 1, none⟩ = some (.pointer none) := h.1.cell 1
  have c2 : w.cell? ⟨g, 2, none⟩ = some (.int .i64 0) := h.1.cell 2
  have c0 : w.cell? ⟨g, 0, none⟩ = some (.pointer none) := h.1.cell 0
  have z0 := h.1.frozen 0
  have z1 := h.1.frozen 1
  have z2 := h.1.frozen 2
  have hg := h.lt
  have hne : w.heap.size ≠ g := by omega
  have hne1 : w.heap.size + 1 ≠ g := by omega
  go_enter Try.func10, Try.ntmps10
  go_wp2
  go_ret
  refine ⟨rfl, ⟨w.heap.size + 1, by omega, ?_, h.2.1, ⟨two_new (by simp [World.setCell]) _ _ _, by omega, trivial⟩, by simp, by simp, by simpa using ⟨h0, h1⟩⟩, ?_⟩
  · exact (((((h.1.set_ 0 _).set_ 1 _).set_ 2 _).alloc _).alloc _)
  · exact ((((((Fr.refl (Only g) w).setOnly 0 _).setOnly 1 _).setOnly 2 _).alloc _).alloc _).mono fun i _ e => .inl e

set_option maxHeartbeats 1000000 in
theorem add_more {w : World} {g B : Nat} {ms : List Seat} {s : Seat} (h : PewIs w g B (ms ++ [s])) (hn : ms.length < 1023) (hB : B ≤ w.heap.size) (a b c : Int) (h0 : 0 ≤ a) (h1 : -1 ≤ b) : Calls Try.prog 10 #[.pointer (some ⟨g, 0, none⟩), .agg #[.int .i64 a, .int .i64 b, .int .i64 c]] w (Added g B (ms ++ [s]) (a, b, c) w) := by
  have hl := h.2.2.1.last
  have h4 := Lib.hid (h.2.2.1.ne h.1 (by decide))
  have c1 : w.cell? ⟨g, 1, none⟩ = some (.pointer (some ⟨s.1, 0, none⟩)) := (h.1.cell 1).trans (by rw [lastP_snoc]; rfl)
  have c2 : w.cell? ⟨g, 2, none⟩ = some (.int .i64 ((ms.length : Int) + 1)) := (h.1.cell 2).trans (by simp)
  have cn : w.cell? ⟨s.1, 3, none⟩ = some (.pointer none) := hl.cell 3
  have z1 := h.1.frozen 1
  have z2 := h.1.frozen 2
  have z3 := hl.frozen 3
  have hg := h.lt
  have hs := hl.lt
  have hsg : s.1 ≠ g := hl.ne_ h.1 (by decide)
  have hgs : g ≠ s.1 := hsg.symm
  have hne : w.heap.size ≠ g := by omega
  have hne1 : w.heap.size + 1 ≠ g := by omega
  have hne2 : w.heap.size ≠ s.1 := by omega
  have hne3 : w.heap.size + 1 ≠ s.1 := by omega
  go_enter Try.func10, Try.ntmps10
  go_wp2
  go_ret
  have hfr : Fr (fun k => k = s.1 ∨ k = g) w (((((w.setCell ⟨s.1, 3, none⟩ (.pointer (some ⟨w.heap.size + 1, 0, none⟩))).setCell ⟨g, 1, none⟩ (.pointer (some ⟨w.heap.size + 1, 0, none⟩))).setCell ⟨g, 2, none⟩ (.int .i64 ((ms.length : Int) + 1 + 1))).alloc (.cells #[.int .i64 a, .int .i64 b, .int .i64 c] 28)).alloc (.cells #[.int .i64 a, .int .i64 b, .int .i64 c, .pointer none] 58)) :=
    (((((Fr.refl _ w).setCell (p := ⟨s.1, 3, none⟩) (fun _ => .inl rfl) _).setCell (p := ⟨g, 1, none⟩) (fun _ => .inr rfl) _).setCell (p := ⟨g, 2, none⟩) (fun _ => .inr rfl) _).alloc _).alloc _
  have hnew := two_new (w := w) (w3 := ((w.setCell ⟨s.1, 3, none⟩ (.pointer (some ⟨w.heap.size + 1, 0, none⟩))).setCell ⟨g, 1, none⟩ (.pointer (some ⟨w.heap.size + 1, 0, none⟩))).setCell ⟨g, 2, none⟩ (.int .i64 ((ms.length : Int) + 1 + 1))) (by simp [World.setCell]) (.cells #[.int .i64 a, .int .i64 b, .int .i64 c] 28) 58 #[.int .i64 a, .int .i64 b, .int .i64 c, .pointer none]
  have hbg := (((((h.1.far (p := ⟨s.1, 3, none⟩) hgs (.pointer (some ⟨w.heap.size + 1, 0, none⟩))).set_ 1 (.pointer (some ⟨w.heap.size + 1, 0, none⟩))).set_ 2 (.int .i64 ((ms.length : Int) + 1 + 1))).alloc (.cells #[.int .i64 a, .int .i64 b, .int .i64 c] 28)).alloc (.cells #[.int .i64 a, .int .i64 b, .int .i64 c, .pointer none] 58))
  have hbs := (((((hl.set_ 3 (.pointer (some ⟨w.heap.size + 1, 0, none⟩))).far (p := ⟨g, 1, none⟩) hsg (.pointer (some ⟨w.heap.size + 1, 0, none⟩))).far (p := ⟨g, 2, none⟩) hsg (.int .i64 ((ms.length : Int) + 1 + 1))).alloc (.cells #[.int .i64 a, .int .i64 b, .int .i64 c] 28)).alloc (.cells #[.int .i64 a, .int .i64 b, .int .i64 c, .pointer none] 58))
  obtain ⟨_, hBg, hch, hnd, hle, hok⟩ := h
  rw [List.map_append, List.nodup_append] at hnd
  refine ⟨rfl, ⟨w.heap.size + 1, by omega, ?_, hBg, Chain.snoc hnew (by omega) hch (fun t ht => hfr.block t.1 (hch.lt t (by simp [ht])).1 ?_) hbs, ?_, ?_, ?_⟩, ?_⟩
  · have e1 : headP (ms ++ [s] ++ [(w.heap.size + 1, (a, b, c))]) = headP (ms ++ [s]) := by rw [headP_snoc, if_neg (by simp)]
    have e2 : lastP (ms ++ [s] ++ [(w.heap.size + 1, (a, b, c))]) = some ⟨w.heap.size + 1, 0, none⟩ := lastP_snoc _ _
    have e3 : (((ms ++ [s] ++ [(w.heap.size + 1, (a, b, c))]).length : Nat) : Int) = (ms.length : Int) + 1 + 1 := by simp; omega
    rw [e1, e2, e3]
    exact hbg
  · rintro (e | e)
    · exact hnd.2.2 t.1 (List.mem_map_of_mem ht) s.1 (by simp) e
    · have := h4.out t (by simp [ht])
      exact this e
  · rw [List.map_append, List.nodup_append]
    refine ⟨by rw [List.map_append, List.nodup_append]; exact hnd, by simp, ?_⟩
    intro x hx y hy e
    obtain ⟨t, ht, rfl⟩ := List.mem_map.1 hx
    simp at hy
    have := (hch.lt t ht).1
    omega
  · simp; omega
  · intro t ht
    rcases List.mem_append.1 ht with ht | ht
    · exact hok t ht
    · simp at ht; subst ht; exact ⟨h0, h1⟩
  · refine hfr.mono fun i _ e => ?_
    rcases e with e | e
    · exact .inr ⟨s, by simp, e.symm⟩
    · exact .inl e
theorem add_room {w : World} {g B : Nat} {ns : List Seat} (h : PewIs w g B ns) (hn : ns.length < 1024) (hB : B ≤ w.heap.size) (a b c : Int) (h0 : 0 ≤ a) (h1 : -1 ≤ b) : Calls Try.prog 10 #[.pointer (some ⟨g, 0, none⟩), .agg #[.int .i64 a, .int .i64 b, .int .i64 c]] w (Added g B ns (a, b, c) w) := by
  by_cases hnil : ns = []
  · subst hnil
    exact add_first h hB a b c h0 h1
  · obtain ⟨ms, s, rfl, _⟩ := lastP_some ns hnil
    exact add_more h (by simp at hn; omega) hB a b c h0 h1
end Go.Proofs.Ytbmobikhfcmgjaa
