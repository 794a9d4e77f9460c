/- Add. -/
import Derived.Test.YtjobdofnehajpaaScD
namespace Go.Proofs.Ytjobdofnehajpaa
open Go.RowKit

theorem Fo.alloc {F : Nat → Prop} {w w' : World} (h : Fo F w w') (o : Obj) : Fo F w (w'.alloc o) := h.trans (Fo.of_below ((Below.refl _ _).alloc (Nat.le_refl _) o))
set_option maxHeartbeats 1000000 in
theorem add_any (w : World) (s : Nat) (F : Nat → Prop) (ms : List Mp) (m : Mp) (name : ByteArray) (d : Dc) (h : ScAt w s F (ms ++ [m])) (hlen : ms.length < 100000) :
    Calls Try.prog 12 #[.pointer (some ⟨s, 0, none⟩), .string name, d.v] w fun e w' => e = .returned (.bool (!(look m name).isSome)) ∧ ScAt w' s F (ms ++ [if (look m name).isSome then m else m ++ [(name, d)]]) ∧ Fo F w w' := by
  obtain ⟨d1, d2, d3⟩ := d
  have b0 : Below w.heap.size w (w.alloc (.cells #[.int .i64 d1, .int .i64 d2, .int .i64 d3] 34)) := (Below.refl _ _).alloc (Nat.le_refl _) _
  have Hh := Lib.hid (here_any _ s F ms m name (h.below b0) hlen)
  have H0 := Lib.hid (h.below b0); have B0 := Lib.hid b0
  have z0 : (w.alloc (.cells #[.int .i64 d1, .int .i64 d2, .int .i64 d3] 34)).heap[w.heap.size]? = some (.cells #[.int .i64 d1, .int .i64 d2, .int .i64 d3] 34 (0, 0)) := blk_new _ _
  have g0 : (w.alloc (.cells #[.int .i64 d1, .int .i64 d2, .int .i64 d3] 34)).heap.size = w.heap.size + 1 := by simp
  have Z0 := Lib.hid z0
  rw [show (Dc.mk d1 d2 d3).v = .agg #[.int .i64 d1, .int .i64 d2, .int .i64 d3] from rfl]
  clear h b0 z0
  go_enter Try.func12, Try.ntmps12
  go_wp2_with (with_reducible refine halt_call ?_)
  refine Halted.run (Hh.out.mono ?_); rintro e w1 ⟨rfl, hb1⟩
  have H1 := Lib.hid (H0.out.below hb1); have B1 := Lib.hid (below_step B0.out hb1)
  have Z1 := Lib.hid ((hb1.block _ (by rw [g0]; omega)).trans Z0.out)
  have g1 : w.heap.size < w1.heap.size := by have := hb1.size; omega
  clear Hh H0 B0 Z0 hb1 g0
  have e1 : ∃ x1 x2 x3, ((look m name).getD Dc.z).v = .agg #[.int .i64 x1, .int .i64 x2, .int .i64 x3] := ⟨_, _, _, rfl⟩
  obtain ⟨x1, x2, x3, e1⟩ := e1
  rw [e1]
  have b2 : Below w1.heap.size w1 (w1.alloc (.cells #[.int .i64 x1, .int .i64 x2, .int .i64 x3] 34)) := (Below.refl _ _).alloc (Nat.le_refl _) _
  cases hl : look m name with
  | some d' =>
    rw [show (some d' : Option Dc).isSome = true from rfl]
    have H2 := Lib.hid (H1.out.below b2); have B2 := Lib.hid (below_step B1.out b2)
    clear H1 B1 b2 Z1
    go_wp2
    all_goals go_ret
    all_goals exact ⟨rfl, H2.out, Fo.of_below B2.out⟩
  | none =>
    rw [show (none : Option Dc).isSome = false from rfl]
    have H2 := Lib.hid (H1.out.below b2); have B2 := Lib.hid (below_step B1.out b2)
    have Z2 := Lib.hid ((b2.block _ g1).trans Z1.out)
    have Hd := Lib.hid (deep_any _ s F _ H2.out)
    rw [List.length_append, List.length_singleton] at Hd
    clear H1 B1 b2 Z1 e1
    go_wp2_with (with_reducible refine halt_call ?_)
    refine Halted.run (Hd.out.mono ?_); rintro e w' ⟨rfl, rfl⟩
    generalize w1.alloc (.cells #[.int .i64 x1, .int .i64 x2, .int .i64 x3] 34) = w2 at *
    have hk : ((ms.length : Int) + 1 == 0) = false := by simp; omega
    obtain ⟨A, cap, g, w3, c0, cg, hr, hs3, hf3⟩ := (H2.out.below (Below.refl _ _).drew).added name ⟨d1, d2, d3⟩ hl
    rw [show (Dc.mk d1 d2 d3).v = .agg #[.int .i64 d1, .int .i64 d2, .int .i64 d3] from rfl] at hr
    have y0 : w2.cell? ⟨w.heap.size, 0, none⟩ = some (.int .i64 d1) := blk_cell Z2.out 0
    have y1 : w2.cell? ⟨w.heap.size, 1, none⟩ = some (.int .i64 d2) := blk_cell Z2.out 1
    have y2 : w2.cell? ⟨w.heap.size, 2, none⟩ = some (.int .i64 d3) := blk_cell Z2.out 2
    have hw : IntKind.i64.wrap ((ms.length : Int) + 1 - 1) = ms.length := by rw [show (ms.length : Int) + 1 - 1 = (ms.length : Int) by omega]; exact IntWalk.i64_in _ (by omega)
    have Hs3 := Lib.hid hs3; have Hf3 := Lib.hid hf3
    clear hs3 hf3 Hd H2 Z2
    go_wp2
    go_region
    all_goals go_wp2
    all_goals go_ret
    all_goals exact ⟨rfl, Hs3.out, (Fo.of_below B2.out.drew).trans Hf3.out⟩
end Go.Proofs.Ytjobdofnehajpaa
