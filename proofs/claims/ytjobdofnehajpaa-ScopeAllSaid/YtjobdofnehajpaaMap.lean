/- A map from names to declarations, as plain data. -/
import Derived.Test.YtjobdofnehajpaaCore
import Derived.Test.YtjobdofnehajpaaChecked
import Derived.Maps.Own
namespace Go.Proofs.Ytjobdofnehajpaa
open Go.RowKit

structure Dc where
  f : Int
  t : Int
  k : Int
def Dc.v (d : Dc) : Value := .agg #[.int .i64 d.f, .int .i64 d.t, .int .i64 d.k]
def Dc.z : Dc := ⟨0, 0, 0⟩
abbrev Mp := List (ByteArray × Dc)
def look (m : Mp) (s : ByteArray) : Option Dc := (m.find? (fun p => s == p.1)).map (·.2)
def ent (e : MapEntry) : Value × Value := (e.key, e.val)
def enc (p : ByteArray × Dc) : Value × Value := (.string p.1, p.2.v)
def MapAt (w : World) (g : Nat) (m : Mp) : Prop := ∃ es clk, w.heap[g]? = some (.map es clk) ∧ es.toList.map ent = m.map enc

theorem findNow_is (s : ByteArray) : ∀ (es : List MapEntry) (m : Mp) (i : Nat), es.map ent = m.map enc → ∃ j, Instr.findNow .string (.string s) es i = some ((look m s).map (fun d => (j, d.v)))
  | [], [], i, _ => ⟨i, rfl⟩
  | e :: es, p :: m, i, h => by
    simp only [List.map_cons, List.cons.injEq] at h
    obtain ⟨h1, h2⟩ := h
    obtain ⟨hk, hv⟩ := Prod.mk.inj h1
    unfold Instr.findNow
    rw [hk]
    unfold look
    by_cases e : (s == p.1) = true
    · refine ⟨i, ?_⟩
      simp [Instr.sameNow, e, hv]
    · obtain ⟨j, hj⟩ := findNow_is s es m (i + 1) h2
      refine ⟨j, ?_⟩
      have e' : (s == p.1) = false := by simpa using e
      rw [show (Instr.sameNow .string (.string s) (.string p.1)) = some (s == p.1) from rfl, e']
      simp only [List.find?_cons, e']
      exact hj
theorem zeroDc (w : World) : (zeroValue 34).run Try.prog w = .ok Dc.z.v w := by kernel_rfl
theorem run_lookup {w : World} {g : Nat} {m : Mp} (h : MapAt w g m) (s : ByteArray) :
    (Instr.lookup 48 (.map (some g)) (.string s) true).run Try.prog w = .ok (.tuple #[((look m s).getD Dc.z).v, .bool (look m s).isSome]) w := by
  obtain ⟨es, clk, hb, he⟩ := h
  obtain ⟨j, hj⟩ := findNow_is s es.toList m 0 he
  have hd := Try.underlying9
  have hk : MapKept.IsKey .string (.string s) := trivial
  cases hl : look m s with
  | none =>
    rw [hl] at hj
    simp [Instr.lookup, run_underlying Try.underlying48, MapKept.run_getObj_map hb, MapKept.run_checkKey hd hk, MapKept.run_findKey hd hj, Result.andThen, Dc.v, Dc.z]
  | some d =>
    rw [hl] at hj
    simp [Instr.lookup, run_underlying Try.underlying48, MapKept.run_getObj_map hb, MapKept.run_checkKey hd hk, MapKept.run_findKey hd hj, Result.andThen]
theorem run_update {w : World} {g : Nat} {m : Mp} (h : MapAt w g m) (s : ByteArray) (d : Dc) (hn : look m s = none) :
    ∃ w', (Instr.mapUpdate 48 (.map (some g)) (.string s) d.v).run Try.prog w = .ok () w' ∧ MapAt w' g (m ++ [(s, d)]) ∧ w.grownBy w' (some g) := by
  obtain ⟨es, clk, hb, he⟩ := h
  obtain ⟨j, hj⟩ := findNow_is s es.toList m 0 he
  rw [hn] at hj
  have hd := Try.underlying9
  have hk : MapKept.IsKey .string (.string s) := trivial
  refine ⟨{ w with heap := w.heap.setIfInBounds g (.map (es.push { key := .string s, val := d.v, born := clk }) (clk + 1)) }, ?_, ⟨_, _, (MapKept.heap_set hb).1, ?_⟩, ⟨rfl, rfl, rfl, by simp, fun i _ hi => (MapKept.heap_set hb).2 i (fun e => hi (by rw [e]))⟩⟩
  · simp [Instr.mapUpdate, run_underlying Try.underlying48, MapKept.run_getObj_map hb, MapKept.run_checkKey hd hk, MapKept.run_findKey hd hj, MapKept.run_setObj_map _ hb, Result.andThen]
  · simp [he, ent, enc]
end Go.Proofs.Ytjobdofnehajpaa
