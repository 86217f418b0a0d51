/- The path of two traces, one behind the other; append of all of a slice that came in. -/
import Derived.Test.YtmamolfbboffhaaN
namespace Go.Proofs.Ytmamolfbboffhaa
open Go.RowKit

theorem mulZ_step {d q t p z : Int × Int} (n : Int) (hd : Dir d) (hq : Dir q) (ht : Dir t) :
    (z.1 + (mulZ d (p.1 + (mulZ q t).1 * n, p.2 + (mulZ q t).2 * n)).1, z.2 + (mulZ d (p.1 + (mulZ q t).1 * n, p.2 + (mulZ q t).2 * n)).2) =
      ((z.1 + (mulZ d p).1) + (mulZ (mulZ d q) t).1 * n, (z.2 + (mulZ d p).2) + (mulZ (mulZ d q) t).2 * n) ∧ mulZ d (mulZ q t) = mulZ (mulZ d q) t := by
  unfold Dir at hd hq ht
  rcases hd with rfl | rfl | rfl | rfl <;> rcases hq with rfl | rfl | rfl | rfl <;> rcases ht with rfl | rfl | rfl | rfl <;>
    (constructor <;> simp [mulZ] <;> omega)
/-- a state turned and moved to another -/
def moved (s : Wk) (r : Wk) : Wk := ((s.1.1 + (mulZ s.2 r.1).1, s.1.2 + (mulZ s.2 r.1).2), mulZ s.2 r.2)
theorem moved_step {s r : Wk} (hd : Dir s.2) (hq : Dir r.2) (e : Ev) : stepZ (moved s r) e = moved s (stepZ r e) := by
  unfold stepZ
  split
  · rfl
  · obtain ⟨h1, h2⟩ := mulZ_step (p := r.1) (z := s.1) (1 + e.g % 4) hd hq (tz_dir (e.k % 4))
    exact Prod.ext h1.symm h2.symm
theorem st_left (a b : List Ev) {k : Nat} (h : k ≤ a.length) : st (a ++ b) k = st a k := by
  unfold st
  rw [List.take_append_of_le_length h]
theorem st_right (a b : List Ev) : ∀ {k : Nat}, k ≤ b.length → st (a ++ b) (a.length + k) = moved (st a a.length) (st b k)
  | 0, _ => by
    rw [Nat.add_zero, st_left a b (Nat.le_refl _), st_zero]
    unfold moved s0
    have := (st_ok a a.length (Nat.le_refl _)).1
    unfold Dir at this
    generalize st a a.length = s at *
    obtain ⟨⟨x, y⟩, d⟩ := s
    rcases this with h | h | h | h <;> (simp only at h; subst h; simp [mulZ])
  | k + 1, h => by
    have hl : a.length + k < (a ++ b).length := by simp; omega
    rw [← Nat.add_assoc, st_succ hl, st_right a b (show k ≤ b.length by omega), st_succ (show k < b.length by omega)]
    rw [List.getElem_append_right (by omega)]
    simp only [Nat.add_sub_cancel_left]
    exact moved_step (st_ok a a.length (Nat.le_refl _)).1 (st_ok b k (by omega)).1 _

section
variable {α : Type} {S : Shape α} {P : Program} {T E : TypeId} {z : Value} {bytes : Nat} {ops : Array Oper} {o : Oper} {a : Act} {w : World} {Q : Exit → Act → World → Prop}
theorem wpList_apdIn {rest : List Oper} (hT : ElSl P T E z S.size bytes) (hgd : o.guard = none) (s x : Operand)
    (ho : o.op = .call { callee := .builtin .append, args := #[s, x], argTypes := #[T, T] })
    (B : Nat) (v : Value) (xs ys : List α) (hs : a.eval s = v) (hown : OwnS S E B w v xs) (A : Option Addr) (n c : Nat) (hx : a.eval x = .slice A n c) (hn : ys.length = n) (hc : SlS S w A ys)
    (hl : xs.length + ys.length ≤ 1000000000) (hbt : bytes ≤ 1000) (hB : B ≤ w.heap.size)
    (h : ∀ v' w', ApdS S E B w v (xs ++ ys) v' w' → wpList P ops Q rest (a.put o.dst v') w') : wpList P ops Q (o :: rest) a w := by
  rcases A with _ | ad
  · obtain ⟨i0, hi, hz0, hz1, hz2⟩ := info_parts hT.hi
    subst hn
    have hy : ys = [] := by
      rcases ys with _ | ⟨y, ys⟩
      · rfl
      · obtain ⟨b, off, h, _⟩ := hc (by simp)
        cases h
    subst hy
    have hrun : (Builtin.append_ #[T, T] o.type #[v, .slice none ([] : List α).length c]).run P w = .ok v w := by
      rcases hown.2 with ⟨rfl, hn⟩ | ⟨g, cap, cur, rfl, _, _, hnc, _⟩
      · simp [Builtin.append_, run_underlying hT.ht, sizeOf, typeInfo, hi, Builtin.lenOf, Builtin.firstCells]
      · simp [Builtin.append_, run_underlying hT.ht, sizeOf, typeInfo, hi, Builtin.lenOf, Builtin.firstCells, hnc, storeCells]
    refine wpList_plain hgd fun _ hK => ?_
    unfold Oper.wp execOp
    simp only [ho, resolve, invoke, builtin, Sem.run_bind, Sem.run_pure, Result.andThen_ok, List.map_toArray, List.map_cons, List.map_nil, hs, hx, hrun]
    exact hK _ _ (h v w ⟨by simpa using hown, World.grownBy.refl w _, .inl rfl⟩)
  · exact wpList_apdAll hT hgd s x ho B v xs ys hs hown ad n c hx hn (fun _ => hc) hl hbt hB h
end
theorem el37 : ElSl Try.prog 37 54 (.agg #[.int .i64 0, .int .i64 0, .int .i64 0, .int .i64 0, .int .i64 0, .int .i64 0, .bool false, .bool false]) evS.size 56 := ⟨Try.underlying37, by kernel_rfl, rfl, by decide⟩
theorem path_len {w : World} {A : Option Addr} (c : Nat) {n : Nat} {l : List Ev} (hn : l.length = n) (hA : SlS evS w A l) (hl : l.length ≤ 2000) : Calls Try.prog 15 #[.slice A n c] w (Pathed l w) := by subst hn; exact path_any c hA hl
end Go.Proofs.Ytmamolfbboffhaa
