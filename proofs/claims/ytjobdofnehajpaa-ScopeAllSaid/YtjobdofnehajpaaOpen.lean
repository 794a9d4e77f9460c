/- What an argument that came in holds, in this seat's words. -/
import Derived.Test.YtjobdofnehajpaaDeepMath
import Derived.Deep.Grids
import Derived.Deep.Strs
import Derived.Deep.SlicePairs
import Derived.ProofKit
import Derived.OpenShut
import Derived.ChangeOld
import Derived.Below
namespace Go.Proofs.Ytjobdofnehajpaa
open Go.ChangeShapes Go.WideShapes Go.ChangeAt Go.RowKit

theorem opened_ints {H : Type} {enc : TypeId × Value → H} {W : World} {base : Nat} {t e : TypeId} {k : IntKind} {v : Value} {d : DataW H} {p : List MemPlace} (ht : Try.prog.underlying t = some (.slice e)) (he : Try.prog.underlying e = some (.int k)) (hc : Try.prog.cellsOf e = 1)
    (hv : Value.okWide Try.prog W .any base t v) (h0 : DataW.Trod enc Try.prog W 0 (fun _ => true) true t v d p) :
    ∃ a len cap zs, v = .slice a len cap ∧ len = zs.length ∧ len ≤ cap ∧ cap ≤ 9223372036854775807 ∧ (a = none → cap = 0) ∧ Rd k W a zs ∧ ∀ n ∈ zs, (Lit.int k n).wf = true := by
  obtain ⟨a0, len0, cap0, rfl⟩ := okWide_slice ht hv
  obtain ⟨fuel, hf⟩ := h0
  rcases open_ints ht he hc hf with ⟨hcs, _⟩ | ⟨x, l, c, zs, hcs, _, hl, hm, hz, _, hcell, hwz⟩
  · simp [Value.cells] at hcs
    obtain ⟨rfl, rfl, rfl⟩ := hcs
    exact ⟨none, 0, 0, [], rfl, row_parts (k := k) (w := W) (.inl ⟨rfl, rfl, rfl, rfl⟩)⟩
  · simp [Value.cells] at hcs
    obtain ⟨rfl, rfl, rfl⟩ := hcs
    exact ⟨_, _, _, zs.take len0, rfl, row_parts (k := k) (w := W) (.inr ⟨_, rfl, hl, hm, by simpa using hz, hcell, hwz⟩)⟩
theorem opened_bools {H : Type} {enc : TypeId × Value → H} {W : World} {base : Nat} {t e : TypeId} {v : Value} {d : DataW H} {p : List MemPlace} (ht : Try.prog.underlying t = some (.slice e)) (he : Try.prog.underlying e = some .bool) (hc : Try.prog.cellsOf e = 1)
    (hv : Value.okWide Try.prog W .any base t v) (h0 : DataW.Trod enc Try.prog W 0 (fun _ => true) true t v d p) :
    ∃ a len cap zs, v = .slice a len cap ∧ len = zs.length ∧ len ≤ cap ∧ cap ≤ 9223372036854775807 ∧ (a = none → cap = 0) ∧ RdB W a zs := by
  obtain ⟨a0, len0, cap0, rfl⟩ := okWide_slice ht hv
  obtain ⟨fuel, hf⟩ := h0
  rcases Go.Deep.open_bools ht he hc hf with ⟨hcs, _⟩ | ⟨x, l, c, B, hcs, _, hl, hm, _, hcell⟩
  · simp [Value.cells] at hcs
    obtain ⟨rfl, rfl, rfl⟩ := hcs
    exact ⟨none, 0, 0, [], rfl, rfl, by simp, by simp, fun _ => rfl, RdB.nil⟩
  · simp [Value.cells] at hcs
    obtain ⟨rfl, rfl, rfl⟩ := hcs
    refine ⟨_, _, _, (List.range len0).map B, rfl, by simp, hl, hm, (fun e => by cases e), fun i hi => ⟨_, rfl, ?_⟩⟩
    have hi' : i < len0 := by simpa using hi
    rw [hcell i (by omega)]
    simp
/-- Texts behind one another. -/
def RdS (w : World) (ao : Option Addr) (xs : List ByteArray) : Prop :=
  ∀ i (h : i < xs.length), ∃ a, ao = some a ∧ w.cell? (a.add i) = some (.string xs[i])
theorem RdS.below {w w' : World} {ao : Option Addr} {xs : List ByteArray} (h : RdS w ao xs) (hb : Below w.heap.size w w') : RdS w' ao xs := by
  intro i hi
  obtain ⟨a, ha, hc⟩ := h i hi
  exact ⟨a, ha, by rw [hb.cell (World.block_lt_of_cell? _ _ hc)]; exact hc⟩
/-- Numbers with a text each, behind one another. -/
def RdP (w : World) (ao : Option Addr) (xs : List (Int × ByteArray)) : Prop :=
  ∀ i (h : i < xs.length), ∃ a, ao = some a ∧ w.cell? (a.add (i * 2)) = some (.int .i64 xs[i].1) ∧ w.cell? (a.add (i * 2 + 1)) = some (.string xs[i].2)
theorem RdP.below {w w' : World} {ao : Option Addr} {xs : List (Int × ByteArray)} (h : RdP w ao xs) (hb : Below w.heap.size w w') : RdP w' ao xs := by
  intro i hi
  obtain ⟨a, ha, hc, hd⟩ := h i hi
  exact ⟨a, ha, by rw [hb.cell (World.block_lt_of_cell? _ _ hc)]; exact hc, by rw [hb.cell (World.block_lt_of_cell? _ _ hd)]; exact hd⟩
theorem opened_strs {H : Type} {enc : TypeId × Value → H} {W : World} {base : Nat} {t e : TypeId} {v : Value} {d : DataW H} {p : List MemPlace} (ht : Try.prog.underlying t = some (.slice e)) (he : Try.prog.underlying e = some .string) (hc : Try.prog.cellsOf e = 1)
    (hv : Value.okWide Try.prog W .any base t v) (h0 : DataW.Trod enc Try.prog W 0 (fun _ => true) true t v d p) :
    ∃ a len cap zs, v = .slice a len cap ∧ len = zs.length ∧ len ≤ cap ∧ cap ≤ 9223372036854775807 ∧ (a = none → cap = 0) ∧ RdS W a zs := by
  obtain ⟨a0, len0, cap0, rfl⟩ := okWide_slice ht hv
  obtain ⟨fuel, hf⟩ := h0
  rcases Go.Deep.open_strs ht he hc hf with ⟨hcs, _⟩ | ⟨x, l, c, m, Sx, hcs, _, hl, hm, hmm, _, hcell⟩
  · simp [Value.cells] at hcs
    obtain ⟨rfl, rfl, rfl⟩ := hcs
    exact ⟨none, 0, 0, [], rfl, rfl, by simp, by simp, fun _ => rfl, fun _ h => absurd h (by simp)⟩
  · simp [Value.cells] at hcs
    obtain ⟨rfl, rfl, rfl⟩ := hcs
    refine ⟨_, _, _, (List.range len0).map Sx, rfl, by simp, hl, hm, (fun e => by cases e), fun i hi => ⟨_, rfl, ?_⟩⟩
    have hi' : i < len0 := by simpa using hi
    rw [(hcell i (by rw [hmm]; simp; omega)).1]
    simp
theorem opened_pairs {H : Type} {enc : TypeId × Value → H} {W : World} {base : Nat} {t e : TypeId} {f0 f1 : Field} {v : Value} {d : DataW H} {p : List MemPlace} (ht : Try.prog.underlying t = some (.slice e)) (he : Try.prog.underlying e = some (.struct #[f0, f1]))
    (ce : Try.prog.cellsOf e = 2) (o0 : f0.offset = 0) (o1 : f1.offset = 1) (c0 : Try.prog.cellsOf f0.type = 1) (c1 : Try.prog.cellsOf f1.type = 1) (h0 : Try.prog.underlying f0.type = some (.int .i64)) (h1 : Try.prog.underlying f1.type = some .string)
    (hv : Value.okWide Try.prog W .any base t v) (h2 : DataW.Trod enc Try.prog W 0 (fun _ => true) true t v d p) :
    ∃ a len cap zs, v = .slice a len cap ∧ len = zs.length ∧ len ≤ cap ∧ cap ≤ 9223372036854775807 ∧ (a = none → cap = 0) ∧ RdP W a zs := by
  obtain ⟨a0, len0, cap0, rfl⟩ := okWide_slice ht hv
  obtain ⟨fuel, hf⟩ := h2
  rcases Go.Deep.open_slice_pairs ht he ce o0 o1 c0 c1 hf with ⟨hcs, _⟩ | ⟨x, l, c, m, n, V0, V1, D0, D1, P0, P1, hcs, _, hl, hm, hmm, _, hcell⟩
  · simp [Value.cells] at hcs
    obtain ⟨rfl, rfl, rfl⟩ := hcs
    exact ⟨none, 0, 0, [], rfl, rfl, by simp, by simp, fun _ => rfl, fun _ h => absurd h (by simp)⟩
  · simp [Value.cells] at hcs
    obtain ⟨rfl, rfl, rfl⟩ := hcs
    have each : ∀ i, i < len0 → ∃ q : Int × ByteArray, W.cell? (x.add (i * 2)) = some (.int .i64 q.1) ∧ W.cell? (x.add (i * 2 + 1)) = some (.string q.2) := fun i hi => by
      obtain ⟨k0, k1, k2, k3⟩ := hcell i (by rw [hmm]; simp; omega)
      obtain ⟨z, g0, _⟩ := DataW.trod_int h0 k2
      obtain ⟨y, g1, _⟩ := DataW.trod_string h1 k3
      simp at g0 g1
      exact ⟨(z, y), by rw [k0, g0], by rw [k1, g1]⟩
    obtain ⟨q, hq⟩ := Go.Deep.choose_lt each
    refine ⟨_, _, _, (List.range len0).map q, rfl, by simp, hl, hm, (fun e => by cases e), fun i hi => ⟨_, rfl, ?_⟩⟩
    have hi' : i < len0 := by simpa using hi
    have := hq i hi'
    simpa using this
end Go.Proofs.Ytjobdofnehajpaa
