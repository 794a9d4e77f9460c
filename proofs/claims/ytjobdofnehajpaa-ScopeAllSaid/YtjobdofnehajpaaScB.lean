/- Find. -/
import Derived.Test.YtjobdofnehajpaaSc
namespace Go.Proofs.Ytjobdofnehajpaa
open Go.RowKit

def findUp (ms : List Mp) (name : ByteArray) : Nat → Option Dc
  | 0 => none
  | k + 1 => (look (ms.getD k []) name).or (findUp ms name k)
def findD (ms : List Mp) (name : ByteArray) : Option Dc := findUp ms name ms.length
theorem findUp_snoc (ms : List Mp) (m : Mp) (name : ByteArray) : ∀ k, k ≤ ms.length → findUp (ms ++ [m]) name k = findUp ms name k
  | 0, _ => rfl
  | k + 1, h => by
    unfold findUp
    rw [findUp_snoc ms m name k (by omega)]
    congr 2
    rw [List.getD_eq_getElem?_getD, List.getD_eq_getElem?_getD, List.getElem?_append_left (by omega)]
theorem findD_snoc (ms : List Mp) (m : Mp) (name : ByteArray) : findD (ms ++ [m]) name = (look m name).or (findD ms name) := by
  unfold findD
  rw [List.length_append, List.length_singleton, findUp, findUp_snoc ms m name _ (Nat.le_refl _)]
  congr 2
  simp
/-- A scope, in memory. -/
theorem ScAt.at {w : World} {s : Nat} {F : Nat → Prop} {ms : List Mp} (h : ScAt w s F ms) (k : Nat) (hk : k < ms.length) :
    ∃ A cap g, w.cell? ⟨s, 0, none⟩ = some (.slice (some ⟨A, 0, none⟩) ms.length cap) ∧ w.cell? ⟨A, k, none⟩ = some (.map (some g)) ∧ MapAt w g (ms.getD k []) := by
  obtain ⟨ao, cap, gs, h1, h2, h3, _⟩ := h.h
  have hl : gs.length = ms.length := by simpa using h2.1
  have c0 := blk_cell h1 0
  rw [show (#[.slice ao ms.length cap] : Array Value)[0]? = some (.slice ao ms.length cap) from rfl] at c0
  rcases h2.2 with ⟨e, h0⟩ | ⟨A, cap', cur, hv, _⟩
  · omega
  · injection hv with e1 e2 e3
    subst e1 e3
    have hg : k < gs.length := by omega
    refine ⟨A, cap, gs[k], c0, ?_, h3 k _ _ (List.getElem?_eq_getElem hg) (by rw [List.getD_eq_getElem?_getD, List.getElem?_eq_getElem hk]; rfl)⟩
    have := h2.cells (g := A) rfl k (.map (some gs[k])) (by simp [hg])
    rwa [add_at] at this
theorem find_nil (w : World) (name : ByteArray) : Calls Try.prog 13 #[.pointer none, .string name] w fun e w' => e = .returned (.tuple #[Dc.z.v, .bool false]) ∧ Below w.heap.size w w' := by
  have Hd := Lib.hid deep_nil
  go_enter Try.func13, Try.ntmps13
  go_wp2_with (with_reducible refine halt_call ?_)
  refine Halted.run ((Hd.out _).mono ?_); rintro e w' ⟨rfl, rfl⟩
  go_wp2
  refine wp_loop_rounds 1 ?_
  repeat any_goals (rw [rounds_succ]; go_wp2)
  all_goals go_returns
  all_goals exact ⟨rfl, (Below.refl _ _).alloc (Nat.le_refl _) _⟩
set_option maxHeartbeats 1000000 in
theorem find_any (w : World) (s : Nat) (F : Nat → Prop) (ms : List Mp) (name : ByteArray) (h : ScAt w s F ms) (hlen : ms.length < 100000) :
    Calls Try.prog 13 #[.pointer (some ⟨s, 0, none⟩), .string name] w fun e w' => e = .returned (.tuple #[((findD ms name).getD Dc.z).v, .bool (findD ms name).isSome]) ∧ Below w.heap.size w w' := by
  have b0 : Below w.heap.size w (w.alloc (.cells #[.int .i64 0, .int .i64 0, .int .i64 0] 34)) := (Below.refl _ _).alloc (Nat.le_refl _) _
  have c4 : ∀ i, (w.alloc (.cells #[.int .i64 0, .int .i64 0, .int .i64 0] 34)).cell? ⟨w.heap.size, i, none⟩ = (#[.int .i64 0, .int .i64 0, .int .i64 0] : Array Value)[i]? := fun i => World.cell?_alloc_new w _ _ i
  have z4 : (w.alloc (.cells #[.int .i64 0, .int .i64 0, .int .i64 0] 34)).heap[w.heap.size]? = some (.cells #[.int .i64 0, .int .i64 0, .int .i64 0] 34 (0, 0)) := blk_new _ _
  have g4 : (w.alloc (.cells #[.int .i64 0, .int .i64 0, .int .i64 0] 34)).heap.size = w.heap.size + 1 := by simp
  have Hd := Lib.hid (deep_any _ s F _ (h.below b0))
  have H := Lib.hid (h.below b0)
  have B0 := Lib.hid b0; have Z4 := Lib.hid z4
  have hw : IntKind.i64.wrap ((ms.length : Int) - 1) = ms.length - 1 := IntWalk.i64_in _ (by omega)
  clear h b0 c4 z4
  go_enter Try.func13, Try.ntmps13
  go_wp2_with (with_reducible refine halt_call ?_)
  refine Halted.run (Hd.out.mono ?_); rintro e w' ⟨rfl, rfl⟩
  go_wp2
  generalize w.alloc (.cells #[.int .i64 0, .int .i64 0, .int .i64 0] 34) = w1 at *
  go_loopw [6] (fun v wx => ∃ k : Nat, k ≤ ms.length ∧ v = .int .i64 ((k : Int) - 1) ∧ findD ms name = findUp ms name k ∧ Below w1.heap.size w1 wx) (fun v _ => (intOf v + 1).toNat)
  case atStart => exact ⟨ms.length, Nat.le_refl _, rfl, rfl, Below.refl _ _⟩
  case round =>
    obtain ⟨k, hk, rfl, hf, hB⟩ := hrel
    have hZ : wr.heap[w.heap.size]? = some (.cells #[.int .i64 0, .int .i64 0, .int .i64 0] 34 (0, 0)) := (hB.block _ (by omega)).trans Z4.out
    have lz : w.heap.size < wr.heap.size := by have := hB.size; omega
    have f4 := blk_free hZ
    have z0 := blk_cell hZ 0; have z1 := blk_cell hZ 1; have z2 := blk_cell hZ 2
    cases k with
    | zero =>
      have HB := Lib.hid (below_step B0.out hB)
      have HF := Lib.hid hf
      have q := blk_set (blk_set (blk_set hZ 0 (.int .i64 0)) 1 (.int .i64 0)) 2 (.int .i64 0)
      have B3 : Below w.heap.size w (((wr.setCell ⟨w.heap.size, 0, none⟩ (.int .i64 0)).setCell ⟨w.heap.size, 1, none⟩ (.int .i64 0)).setCell ⟨w.heap.size, 2, none⟩ (.int .i64 0)) := by have := HB.out; go_grown
      clear hB hf hZ
      go_wp2
      generalize ((wr.setCell ⟨w.heap.size, 0, none⟩ (.int .i64 0)).setCell ⟨w.heap.size, 1, none⟩ (.int .i64 0)).setCell ⟨w.heap.size, 2, none⟩ (.int .i64 0) = wz at *
      have y0 : wz.cell? ⟨w.heap.size, 0, none⟩ = some (.int .i64 0) := blk_cell q 0
      have y1 : wz.cell? ⟨w.heap.size, 1, none⟩ = some (.int .i64 0) := blk_cell q 1
      have y2 : wz.cell? ⟨w.heap.size, 2, none⟩ = some (.int .i64 0) := blk_cell q 2
      refine bodyPost_ret (by simp [results, Try.results13, y0, y1, y2, go_sem]; try rfl) rfl ?_
      rw [HF.out]
      exact ⟨rfl, B3⟩
    | succ k =>
      obtain ⟨A, cap, g, c0, cg, hm⟩ := (H.out.below hB).at k (by omega)
      have hlk := run_lookup hm name
      have ls := World.block_lt_of_cell? _ _ c0; have la := World.block_lt_of_cell? _ _ cg
      have ls' : s < wr.heap.size + 1 := Nat.lt_succ_of_lt ls; have la' : A < wr.heap.size + 1 := Nat.lt_succ_of_lt la
      have hw2 : IntKind.i64.wrap ((k : Int) - 1) = k - 1 := IntWalk.i64_in _ (by omega)
      have ek : (((k + 1 : Nat) : Int) - 1) = k := by omega
      rw [ek]
      have HB := Lib.hid hB
      have HF := Lib.hid hf
      clear hB hf hm
      cases hl : look (ms.getD k []) name with
      | none =>
        rw [hl] at hlk
        rw [show ((none : Option Dc).getD Dc.z).v = .agg #[.int .i64 0, .int .i64 0, .int .i64 0] from rfl, show (none : Option Dc).isSome = false from rfl] at hlk
        go_wp2
        refine ⟨⟨k, by omega, rfl, ?_, ?_⟩, by simp [intOf]⟩
        · rw [HF.out, findUp, hl]; rfl
        · exact HB.out.alloc HB.out.size _
      | some d =>
        rw [hl] at hlk
        obtain ⟨d1, d2, d3⟩ := d
        rw [show ((some (Dc.mk d1 d2 d3) : Option Dc).getD Dc.z).v = .agg #[.int .i64 d1, .int .i64 d2, .int .i64 d3] from rfl, show (some (Dc.mk d1 d2 d3) : Option Dc).isSome = true from rfl] at hlk
        have q := blk_set (blk_set (blk_set hZ 0 (.int .i64 d1)) 1 (.int .i64 d2)) 2 (.int .i64 d3)
        have B3 : Below w.heap.size w (((wr.setCell ⟨w.heap.size, 0, none⟩ (.int .i64 d1)).setCell ⟨w.heap.size, 1, none⟩ (.int .i64 d2)).setCell ⟨w.heap.size, 2, none⟩ (.int .i64 d3)) := by have := below_step B0.out HB.out; go_grown
        clear hZ
        go_wp2
        generalize ((wr.setCell ⟨w.heap.size, 0, none⟩ (.int .i64 d1)).setCell ⟨w.heap.size, 1, none⟩ (.int .i64 d2)).setCell ⟨w.heap.size, 2, none⟩ (.int .i64 d3) = wz at *
        have y0 : wz.cell? ⟨w.heap.size, 0, none⟩ = some (.int .i64 d1) := blk_cell q 0
        have y1 : wz.cell? ⟨w.heap.size, 1, none⟩ = some (.int .i64 d2) := blk_cell q 1
        have y2 : wz.cell? ⟨w.heap.size, 2, none⟩ = some (.int .i64 d3) := blk_cell q 2
        have lz' : w.heap.size < wz.heap.size := World.block_lt_of_cell? _ _ y0
        refine bodyPost_ret (by simp [results, Try.results13, y0, y1, y2, lz', go_sem]; try rfl) rfl ?_
        rw [HF.out, findUp, hl]
        exact ⟨rfl, B3.alloc B3.size _⟩
end Go.Proofs.Ytjobdofnehajpaa
