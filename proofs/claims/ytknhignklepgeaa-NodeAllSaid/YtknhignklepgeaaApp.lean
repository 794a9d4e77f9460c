/- append of a list of nodes behind another. -/
import Derived.Test.YtknhignklepgeaaFind
import Derived.Laws.OwnMore
namespace Go.Proofs.Ytknhignklepgeaa
open Go.RowKit

theorem cellsN_one : ∀ (cs : List Nc), ∀ u ∈ cellsN cs, u.oneCell' = true
  | [], u, hu => by cases hu
  | c :: cs, u, hu => by
    simp only [cellsN, List.mem_cons] at hu
    rcases hu with rfl | rfl | rfl | hu
    · rfl
    · rfl
    · rfl
    · exact cellsN_one cs u hu
theorem rowN_append {W0 w : World} {v u : Value} {L M : List El} (hv : RowN W0 w v L) (hu : RowN W0 w u M) (hl : L.length + M.length < 4000) (hb : W0.heap.size ≤ w.heap.size) (ty : TypeId) :
    ∃ v' w', (Builtin.append_ #[24, 24] ty #[v, u]).run Try.prog w = .ok v' w' ∧ RowN W0 w' v' (L ++ M) ∧ Grow w v w' v' := by
  obtain ⟨i0, hi, hz0, hz1, hz2⟩ := info_parts info26'
  obtain ⟨cs, hcs, ho, hk⟩ := hv
  obtain ⟨ds, hds, hp, hm⟩ := hu
  have l1 : cs.length = L.length := by rw [← hcs]; simp
  have l2 : ds.length = M.length := by rw [← hds]; simp
  have hall : ∀ c, c ∈ cs ++ ds → KidsV W0 c.ao c.cap c.e.kids := fun c hc => by
    rcases List.mem_append.1 hc with h | h
    · exact hk c h
    · exact hm c h
  rcases hp.2 with ⟨rfl, h0⟩ | ⟨g, cap, cur, rfl, q1, q2, q3, q4, q5, q6⟩
  · have hd : ds = [] := List.eq_nil_of_length_eq_zero h0
    subst hd
    obtain rfl : M = [] := by rw [← hds]; rfl
    refine ⟨v, w, run_append_owned_none w W0.heap.size 24 ty 26 i0 3 Try.underlying24 hi v cs.length (cellsN cs) ho, ?_, Grow.refl _ _⟩
    rw [List.append_nil]
    exact ⟨cs, hcs, ho, hk⟩
  · obtain ⟨v', w', hr, h2, h3, _, h5⟩ := run_append_own_at (P := Try.prog) w W0.heap.size 24 ty 26 i0 (.agg #[.int .i64 0, .int .i64 0, .slice none 0 0]) 3 40 Try.underlying24 hi hz0 hz1 hz2 rfl (by decide) v cs.length (cellsN cs) ho ⟨g, 0, none⟩ ds.length cap (cellsN ds) (cellsN_length ds)
      (fun j x hj => hp.cells (g := g) rfl j x hj) (cellsN_one ds) (by unfold maxLen; omega) (by omega) hb
    refine ⟨v', w', hr, ⟨cs ++ ds, by rw [List.map_append, hcs, hds], ?_, hall⟩, h3, ?_⟩
    · rw [List.length_append, cellsN_append]; exact h2
    · rcases h5 with e | e
      · exact .inl e
      · exact .inr ⟨_, e, Nat.le_refl _⟩
/-- The same at a step of a region that draws its order. -/
theorem stepN_append {ops : Array Oper} {o : Oper} {a : Act} {w : World} {K : Act → World → Prop} {Q : Exit → Act → World → Prop} {E : Prop} (hgd : o.guard = none) (s x : Operand)
    (ho : o.op = .call { callee := .builtin .append, args := #[s, x], argTypes := #[24, 24] }) (W0 : World) (v u : Value) (L M : List El) (hs : a.eval s = v) (hx : a.eval x = u) (hv : RowN W0 w v L) (hu : RowN W0 w u M) (hl : L.length + M.length < 4000) (hb : W0.heap.size ≤ w.heap.size)
    (h : ∀ v' w', RowN W0 w' v' (L ++ M) → Grow w v w' v' → K (a.put o.dst v') w') : if Region.wanted o (yielded ops a.tmps) = true then Oper.wp Try.prog o a w K Q else E := by
  have hw : Region.wanted o (yielded ops a.tmps) = true := by simp [Region.wanted, hgd]
  rw [if_pos hw]
  obtain ⟨v', w', hr, h1, h2⟩ := rowN_append hv hu hl hb o.type
  unfold Oper.wp execOp
  simp only [ho, resolve, invoke, builtin, Sem.run_bind, Sem.run_pure, Result.andThen_ok, List.map_toArray, List.map_cons, List.map_nil, hs, hx, hr]
  exact h v' w' h1 h2
end Go.Proofs.Ytknhignklepgeaa
