/- The list of ScopeAll, in memory. -/
import Derived.Test.YtjobdofnehajpaaAllMath
namespace Go.Proofs.Ytjobdofnehajpaa
open Go.RowKit

def cellsE : List En → List Value
  | [] => []
  | e :: E => .string e.name :: .int .i64 e.deep :: .int .i64 e.tok :: cellsE E
theorem cellsE_length : ∀ E : List En, (cellsE E).length = E.length * 3
  | [] => rfl
  | e :: E => by simp [cellsE, cellsE_length E]; omega
theorem cellsE_append : ∀ A B : List En, cellsE (A ++ B) = cellsE A ++ cellsE B
  | [], _ => rfl
  | e :: A, B => by simp [cellsE, cellsE_append A B]
theorem cellsE_take : ∀ (E : List En) (n : Nat), (cellsE E).take (n * 3) = cellsE (E.take n)
  | [], n => by simp [cellsE]
  | e :: E, 0 => by simp [cellsE]
  | e :: E, n + 1 => by
    rw [show (n + 1) * 3 = n * 3 + 1 + 1 + 1 by omega]
    simp [cellsE, cellsE_take E n]
theorem cellsE_at : ∀ (E : List En) (q : Nat) (_ : q < E.length), (cellsE E)[q * 3]? = some (.string (E.getD q En.z).name) ∧ (cellsE E)[q * 3 + 1]? = some (.int .i64 (E.getD q En.z).deep) ∧ (cellsE E)[q * 3 + 2]? = some (.int .i64 (E.getD q En.z).tok)
  | e :: E, 0, _ => ⟨rfl, rfl, rfl⟩
  | e :: E, q + 1, h => by
    have := cellsE_at E q (by simpa using h)
    rw [show (q + 1) * 3 = q * 3 + 3 by omega]
    simpa [cellsE] using this
abbrev RowE (w : World) (base : Nat) (v : Value) (E : List En) : Prop := w.ownsRow base 31 3 v E.length (cellsE E)
theorem owns_same3 {w w' : World} {base n sz : Nat} {e : TypeId} {v : Value} {xs : List Value} (h : w.ownsRow base e sz v n xs) (hb : ∀ g, v.ownBlock = some g → w'.heap[g]? = w.heap[g]?) : w'.ownsRow base e sz v n xs := by
  refine ⟨h.1, ?_⟩
  rcases h.2 with h0 | ⟨g, cap, cur, hv, q1, q2, q3⟩
  · exact .inl h0
  · subst hv; exact .inr ⟨g, cap, cur, rfl, q1, (hb g rfl).trans q2, q3⟩
theorem own_heap3 {w : World} {base n sz : Nat} {e : TypeId} {v : Value} {xs : List Value} (h : w.ownsRow base e sz v n xs) (g : Nat) (hg : v.ownBlock = some g) : g < w.heap.size := by
  rcases h.2 with ⟨h0, _⟩ | ⟨g', cap, cur, hv, _, q2, _⟩
  · rw [h0] at hg; cases hg
  · rw [hv] at hg
    cases hg
    exact (Array.getElem?_eq_some_iff.1 q2).1
theorem own_below3 {w w' : World} {base n sz : Nat} {e : TypeId} {v : Value} {xs : List Value} (h : w.ownsRow base e sz v n xs) (hb : Below w.heap.size w w') : w'.ownsRow base e sz v n xs := owns_same3 h (fun g hg => hb.block g (own_heap3 h g hg))
theorem row_slice {w : World} {base : Nat} {v : Value} {E : List En} (h : RowE w base v E) : ∃ ao cap, v = .slice ao E.length cap ∧ cap ≤ 9223372036854775807 ∧ E.length ≤ cap := by
  rcases h.2 with ⟨rfl, h0⟩ | ⟨g, cap, cur, rfl, _, _, h3, h4, _⟩
  · exact ⟨none, 0, by rw [h0], by omega, by omega⟩
  · exact ⟨_, cap, rfl, by simpa [maxLen] using h4, h3⟩
theorem row_at {w : World} {base : Nat} {ao : Option Addr} {cap : Nat} {E : List En} (h : RowE w base (.slice ao E.length cap) E) (q : Nat) (hq : q < E.length) :
    ∃ g, ao = some ⟨g, 0, none⟩ ∧ w.cell? ⟨g, q * 3, none⟩ = some (.string (E.getD q En.z).name) ∧ w.cell? ⟨g, q * 3 + 1, none⟩ = some (.int .i64 (E.getD q En.z).deep) ∧ w.cell? ⟨g, q * 3 + 2, none⟩ = some (.int .i64 (E.getD q En.z).tok) := by
  rcases h.2 with ⟨_, h0⟩ | ⟨g, cap', cur, hv, _⟩
  · omega
  · injection hv with e1 e2 e3
    subst e1 e3
    obtain ⟨c0, c1, c2⟩ := cellsE_at E q hq
    have d0 := h.cells (g := g) rfl _ _ c0
    have d1 := h.cells (g := g) rfl _ _ c1
    have d2 := h.cells (g := g) rfl _ _ c2
    rw [add_at] at d0 d1 d2
    exact ⟨g, rfl, d0, d1, d2⟩
theorem row_drop {w : World} {base : Nat} {ao : Option Addr} {cap : Nat} {E : List En} {e : En} (h : RowE w base (.slice ao (E ++ [e]).length cap) (E ++ [e])) : RowE w base (.slice ao E.length cap) E := by
  rcases h.2 with ⟨_, h0⟩ | ⟨g, cap', cur, hv, q1, q2, q3, q4, q5, q6⟩
  · exact absurd h0 (by simp)
  · injection hv with e1 e2 e3
    subst e1 e3
    refine ⟨cellsE_length E, .inr ⟨g, cap, cur, rfl, q1, q2, by simp at q3; omega, q4, q5, ?_⟩⟩
    have r : (cellsE (E ++ [e])).take (E.length * 3) = cellsE E := by rw [cellsE_take]; simp
    rw [← r, ← q6, List.take_take]
    congr 1
    rw [List.length_append, List.length_singleton]
    omega
/-- What was there ahead of the call, the row of v, the operation's own block. -/
def FO (n0 : Nat) (v : Value) (o : Nat) : Nat → Prop := fun k => Fv n0 v k ∨ k = o
theorem row_fo {w w' : World} {base n0 o : Nat} {v : Value} {E : List En} (h : RowE w base v E) (hf : Fo (FO n0 v o) w w') : RowE w' base v E :=
  owns_same3 h (fun g hg => hf.block g (own_heap3 h g hg) (.inl (.inr hg)))
theorem fo_lt {w w1 : World} {base o : Nat} {v : Value} {E : List En} (h : RowE w1 base v E) (hB : Below w.heap.size w w1) (ho : o < w1.heap.size) : ∀ b, FO w.heap.size v o b → b < w1.heap.size := fun b hb => by
  rcases hb with (hb | hb) | hb
  · have := hB.size; omega
  · exact own_heap3 h b hb
  · omega
theorem fv3_lt {w w1 : World} {base : Nat} {v : Value} {E : List En} (h : RowE w1 base v E) (hB : Below w.heap.size w w1) : ∀ b, Fv w.heap.size v b → b < w1.heap.size := fun b hb => by
  rcases hb with hb | hb
  · have := hB.size; omega
  · exact own_heap3 h b hb
theorem Tidy.push {ms : List Mp} (h : Tidy ms) : Tidy (ms ++ [[]]) := by
  refine ⟨fun m hm => ?_, fun m hm => ?_⟩
  · rcases List.mem_append.1 hm with hm | hm
    · exact h.nd m hm
    · simp at hm; subst hm; exact List.nodup_nil
  · rcases List.mem_append.1 hm with hm | hm
    · exact h.ok m hm
    · simp at hm; subst hm; intro p hp; cases hp
theorem Tidy.pop {ms : List Mp} {m : Mp} (h : Tidy (ms ++ [m])) : Tidy ms := ⟨fun m' hm => h.nd m' (List.mem_append_left _ hm), fun m' hm => h.ok m' (List.mem_append_left _ hm)⟩
theorem Tidy.add {ms : List Mp} {m : Mp} (h : Tidy (ms ++ [m])) (x : ByteArray) (t : Int) (hn : look m x = none) (h0 : 0 ≤ t) (h1 : t < 1000) : Tidy (ms ++ [m ++ [(x, ⟨t, t + 1, 3⟩)]]) := by
  refine ⟨fun m' hm => ?_, fun m' hm => ?_⟩
  · rcases List.mem_append.1 hm with hm | hm
    · exact h.nd m' (List.mem_append_left _ hm)
    · rw [List.mem_singleton] at hm
      subst hm
      have hnd := h.nd m (by simp)
      rw [List.map_append, List.nodup_append]
      refine ⟨hnd, by simp, fun a ha b hb e => ?_⟩
      simp at hb
      subst hb e
      obtain ⟨⟨y, d⟩, hp, rfl⟩ := List.mem_map.1 ha
      rw [mem_look m _ d hp hnd] at hn
      cases hn
  · rcases List.mem_append.1 hm with hm | hm
    · exact h.ok m' (List.mem_append_left _ hm)
    · rw [List.mem_singleton] at hm
      subst hm
      intro p hp
      rcases List.mem_append.1 hp with hp | hp
      · exact h.ok m (by simp) p hp
      · rw [List.mem_singleton] at hp
        subst hp; exact ⟨rfl, h0, h1⟩
theorem ents_push (ms : List Mp) : ents (ms ++ [[]]) = ents ms := by rw [ents_snoc]; simp
theorem ents_add (ms : List Mp) (m : Mp) (x : ByteArray) (d : Dc) : ents (ms ++ [m ++ [(x, d)]]) = ents (ms ++ [m]) ++ [⟨x, (ms.length : Int) + 1, d.f⟩] := by rw [ents_snoc, ents_snoc]; simp
theorem beq_toList (a b : ByteArray) : (a.toList == b.toList) = (a == b) := by
  rw [ByteArray.toList_eq, ByteArray.toList_eq]
  by_cases h : a = b
  · subst h; rw [self_beq]; simp
  · have h1 : (a == b) = false := by
      have : ¬ (a == b) = true := fun e => h ((MapKept.bytes_beq _ _).1 e)
      simpa using this
    rw [h1]
    have : ¬ a.data = b.data := fun e => h (by cases a; cases b; cases e; rfl)
    simpa using this
def vlen : Value → Nat
  | .slice _ n _ => n
  | _ => 0
theorem fv_slice {n0 n n' cap : Nat} {lo : Option Addr} {k : Nat} (h : Fv n0 (.slice lo n cap) k) : Fv n0 (.slice lo n' cap) k := by cases lo <;> exact h
end Go.Proofs.Ytjobdofnehajpaa
