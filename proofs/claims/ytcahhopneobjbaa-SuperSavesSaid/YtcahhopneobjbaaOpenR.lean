/- A slice of slices of bytes that came in, in this seat's words. -/
import Derived.Test.YtcahhopneobjbaaOpen
import Derived.Deep.Matrix
namespace Go.Proofs.Ytcahhopneobjbaa
open Go.ChangeShapes Go.WideShapes Go.ChangeAt Go.RowKit

/-- Rows of bytes behind one another. -/
def RdR (w : World) (ao : Option Addr) (rows : List (List Int)) : Prop :=
  ∀ i (h : i < rows.length), ∃ a ro rc, ao = some a ∧ w.cell? (a.add i) = some (.slice ro rows[i].length rc) ∧ rows[i].length ≤ rc ∧ rc ≤ 9223372036854775807 ∧ (ro = none → rc = 0) ∧ Rd .u8 w ro rows[i] ∧ Byt rows[i]
theorem RdR.below {w w' : World} {ao : Option Addr} {rows : List (List Int)} (h : RdR w ao rows) (hb : Below w.heap.size w w') : RdR w' ao rows := by
  intro i hi
  obtain ⟨a, ro, rc, ha, hc, h1, h2, h3, h4, h5⟩ := h i hi
  exact ⟨a, ro, rc, ha, by rw [hb.cell (World.block_lt_of_cell? _ _ hc)]; exact hc, h1, h2, h3, h4.below hb, h5⟩
theorem opened_rows {H : Type} {enc : TypeId × Value → H} {W : World} {base : Nat} {t e q : TypeId} {v : Value} {d : DataW H} {p : List MemPlace} (ht : Try.prog.underlying t = some (.slice e)) (he : Try.prog.underlying e = some (.slice q)) (hq : Try.prog.underlying q = some (.int .u8))
    (hc : Try.prog.cellsOf e = 1) (hc2 : Try.prog.cellsOf q = 1)
    (hv : Value.okWide Try.prog W .any base t v) (h0 : DataW.Trod enc Try.prog W 0 (fun _ => true) true t v d p) :
    ∃ a len cap zs, v = .slice a len cap ∧ len = zs.length ∧ len ≤ cap ∧ cap ≤ 9223372036854775807 ∧ (a = none → cap = 0) ∧ RdR W a zs := by
  obtain ⟨a0, len0, cap0, rfl⟩ := okWide_slice ht hv
  obtain ⟨fuel, hf⟩ := h0
  rcases Go.Deep.open_int_rows ht he hq hc hc2 hf with ⟨hcs, _⟩ | ⟨x, l, c, A, L, C, Z, hcs, _, hl, hm, _, hcell⟩
  · simp [Value.cells] at hcs
    obtain ⟨rfl, rfl, rfl⟩ := hcs
    exact ⟨none, 0, 0, [], rfl, rfl, by simp, by simp, fun _ => rfl, fun _ h => absurd h (by simp)⟩
  · simp [Value.cells] at hcs
    obtain ⟨rfl, rfl, rfl⟩ := hcs
    refine ⟨_, _, _, (List.range len0).map (fun r => (Z r).take (L r)), rfl, by simp, hl, hm, (fun e => by cases e), fun i hi => ?_⟩
    have hi' : i < len0 := by simpa using hi
    obtain ⟨k1, k2, k3, k4, k5, k6, k7⟩ := hcell i (by omega)
    have el : ((List.range len0).map (fun r => (Z r).take (L r)))[i] = (Z i).take (L i) := by simp
    have ell : ((Z i).take (L i)).length = L i := by rw [List.length_take]; omega
    rw [el, ell]
    refine ⟨x, A i, C i, rfl, k1, k2, by simpa [maxLen] using k3, k6, fun j hj => ?_, byt_wf (fun n hn => k5 n (List.mem_of_mem_take hn))⟩
    rw [ell] at hj
    cases hA : A i with
    | none => have := k6 hA; omega
    | some a' =>
      refine ⟨a', rfl, ?_⟩
      rw [(k7 a' hA).2 j (by omega), List.getElem_take]
      simp [List.getD_eq_getElem?_getD, List.getElem?_eq_getElem (show j < (Z i).length by omega)]
end Go.Proofs.Ytcahhopneobjbaa
