/- Scopes in memory, as plain data: one map each. -/
import Derived.Test.YtjobdofnehajpaaMap
import Derived.BigQuiet
import Derived.Handy
import Derived.Maps.OwnOps
namespace Go.Proofs.Ytjobdofnehajpaa
open Go.RowKit

structure ScAt (w : World) (s : Nat) (F : Nat → Prop) (ms : List Mp) : Prop where
  h : ∃ (ao : Option Addr) (cap : Nat) (gs : List Nat), w.heap[s]? = some (.cells #[.slice ao ms.length cap] 47 (0, 0)) ∧ w.ownsRow 0 48 1 (.slice ao ms.length cap) ms.length (gs.map (fun g => Value.map (some g))) ∧
    (∀ (i g : Nat) (m : Mp), gs[i]? = some g → ms[i]? = some m → MapAt w g m) ∧ gs.Nodup ∧ (∀ a, ao = some a → ¬ F a.block) ∧ ∀ g, g ∈ gs → ¬ F g
  s : ¬ F s
theorem ScAt.lt {w : World} {s : Nat} {F : Nat → Prop} {ms : List Mp} (h : ScAt w s F ms) : s < w.heap.size := by
  obtain ⟨ao, cap, gs, h1, _⟩ := h.h
  exact (Array.getElem?_eq_some_iff.1 h1).1
theorem MapAt.lt {w : World} {g : Nat} {m : Mp} (h : MapAt w g m) : g < w.heap.size := by
  obtain ⟨es, clk, h1, _⟩ := h
  exact (Array.getElem?_eq_some_iff.1 h1).1
theorem MapAt.same {w w' : World} {g : Nat} {m : Mp} (h : MapAt w g m) (hb : w'.heap[g]? = w.heap[g]?) : MapAt w' g m := by
  obtain ⟨es, clk, h1, h2⟩ := h
  exact ⟨es, clk, hb.trans h1, h2⟩
theorem MapAt.below {w w' : World} {g : Nat} {m : Mp} (h : MapAt w g m) (hb : Below w.heap.size w w') : MapAt w' g m := h.same (hb.block _ h.lt)
/-- Blocks that are F's are as they were. -/
structure Fo (F : Nat → Prop) (w w' : World) : Prop where
  os : w'.os = w.os
  tape : w'.tape = w.tape
  output : w'.output = w.output
  size : w.heap.size ≤ w'.heap.size
  block : ∀ k, k < w.heap.size → F k → w'.heap[k]? = w.heap[k]?
theorem Fo.refl (F : Nat → Prop) (w : World) : Fo F w w := ⟨rfl, rfl, rfl, Nat.le_refl _, fun _ _ _ => rfl⟩
theorem Fo.trans {F : Nat → Prop} {a b c : World} (h : Fo F a b) (k : Fo F b c) : Fo F a c :=
  ⟨k.os.trans h.os, k.tape.trans h.tape, k.output.trans h.output, Nat.le_trans h.size k.size, fun i hi hf => (k.block i (Nat.lt_of_lt_of_le hi h.size) hf).trans (h.block i hi hf)⟩
theorem Fo.of_below {F : Nat → Prop} {w w' : World} (h : Below w.heap.size w w') : Fo F w w' := ⟨h.os, h.tape, h.output, h.size, fun i hi _ => h.block i hi⟩
theorem Fo.of_grown {F : Nat → Prop} {w w' : World} {g : Nat} (h : w.grownBy w' (some g)) (hg : ¬ F g) : Fo F w w' := ⟨h.os, h.tape, h.output, h.size, fun i hi hf => h.block i hi (fun e => by cases e; exact hg hf)⟩
theorem Fo.below {F : Nat → Prop} {w0 w w' : World} (h0 : Below w0.heap.size w0 w) (h : Fo F w w') (hF : ∀ k, k < w0.heap.size → F k) : Below w0.heap.size w0 w' :=
  ⟨h.os.trans h0.os, h.tape.trans h0.tape, h.output.trans h0.output, Nat.le_trans h0.size h.size, fun k hk => (h.block k (Nat.lt_of_lt_of_le hk h0.size) (hF k hk)).trans (h0.block k hk)⟩
theorem owns_same {w w' : World} {base n : Nat} {e : TypeId} {v : Value} {xs : List Value} (h : w.ownsRow base e 1 v n xs) (hb : ∀ g, v.ownBlock = some g → w'.heap[g]? = w.heap[g]?) : w'.ownsRow base e 1 v n xs := by
  refine ⟨h.1, ?_⟩
  rcases h.2 with h0 | ⟨g, cap, cur, hv, q1, q2, q3⟩
  · exact .inl h0
  · subst hv; exact .inr ⟨g, cap, cur, rfl, q1, (hb g rfl).trans q2, q3⟩
theorem ScAt.below {w w' : World} {s : Nat} {F : Nat → Prop} {ms : List Mp} (h : ScAt w s F ms) (hb : Below w.heap.size w w') : ScAt w' s F ms := by
  obtain ⟨ao, cap, gs, h1, h2, h3, h4, h5, h6⟩ := h.h
  refine ⟨⟨ao, cap, gs, (hb.block s h.lt).trans h1, owns_same h2 (fun g hg => ?_), fun i g m hg hm => (h3 i g m hg hm).below hb, h4, h5, h6⟩, h.s⟩
  rcases h2.2 with ⟨e, _⟩ | ⟨g', cap', cur, hv, _, q2, _⟩
  · rw [e] at hg; cases hg
  · rw [hv] at hg
    cases hg
    exact hb.block _ (Array.getElem?_eq_some_iff.1 q2).1

theorem deep_nil (w : World) : Calls Try.prog 15 #[.pointer none] w fun e w' => e = .returned (.int .i64 0) ∧ w = w' := by
  go_enter Try.func15, Try.ntmps15
  go_wp2
  go_ret
  exact ⟨rfl, rfl⟩
theorem deep_any (w : World) (s : Nat) (F : Nat → Prop) (ms : List Mp) (h : ScAt w s F ms) : Calls Try.prog 15 #[.pointer (some ⟨s, 0, none⟩)] w fun e w' => e = .returned (.int .i64 ms.length) ∧ w = w' := by
  obtain ⟨ao, cap, gs, h1, _⟩ := h.h
  have c0 := blk_cell h1 0
  rw [show (#[.slice ao ms.length cap] : Array Value)[0]? = some (.slice ao ms.length cap) from rfl] at c0
  clear h h1
  go_enter Try.func15, Try.ntmps15
  go_wp2
  go_ret
  exact ⟨rfl, rfl⟩
theorem here_nil (w : World) (name : ByteArray) : Calls Try.prog 14 #[.pointer none, .string name] w fun e w' => e = .returned (.tuple #[Dc.z.v, .bool false]) ∧ Below w.heap.size w w' := by
  have Hd := Lib.hid deep_nil
  go_enter Try.func14, Try.ntmps14
  go_wp2_with (with_reducible refine halt_call ?_)
  refine Halted.run ((Hd.out _).mono ?_); rintro e w' ⟨rfl, rfl⟩
  go_wp2
  go_returns
  exact ⟨rfl, (Below.refl _ _).alloc (Nat.le_refl _) _⟩
/-- What the innermost scope is, in memory. -/
theorem ScAt.last {w : World} {s : Nat} {F : Nat → Prop} {ms : List Mp} {m : Mp} (h : ScAt w s F (ms ++ [m])) :
    ∃ A cap g, w.cell? ⟨s, 0, none⟩ = some (.slice (some ⟨A, 0, none⟩) (ms.length + 1) cap) ∧ w.cell? ⟨A, ms.length, none⟩ = some (.map (some g)) ∧ MapAt w g m := by
  obtain ⟨ao, cap, gs, h1, h2, h3, _⟩ := h.h
  have hl : gs.length = ms.length + 1 := by simpa using h2.1
  have c0 := blk_cell h1 0
  rw [show (#[.slice ao (ms ++ [m]).length cap] : Array Value)[0]? = some (.slice ao (ms ++ [m]).length cap) from rfl, List.length_append, List.length_singleton] at c0
  rcases h2.2 with ⟨e, h0⟩ | ⟨A, cap', cur, hv, _⟩
  · exact absurd h0 (by simp)
  · injection hv with e1 e2 e3
    subst e1 e3
    have hg : ms.length < gs.length := by omega
    refine ⟨A, cap, gs[ms.length], c0, ?_, h3 ms.length _ m (List.getElem?_eq_getElem hg) (by simp)⟩
    have := h2.cells (g := A) rfl ms.length (.map (some gs[ms.length])) (by simp [hg])
    rwa [add_at] at this
theorem here_any (w : World) (s : Nat) (F : Nat → Prop) (ms : List Mp) (m : Mp) (name : ByteArray) (h : ScAt w s F (ms ++ [m])) (hlen : ms.length < 100000) :
    Calls Try.prog 14 #[.pointer (some ⟨s, 0, none⟩), .string name] w fun e w' => e = .returned (.tuple #[((look m name).getD Dc.z).v, .bool (look m name).isSome]) ∧ Below w.heap.size w w' := by
  have b0 : Below w.heap.size w (w.alloc (.cells #[.int .i64 0, .int .i64 0, .int .i64 0] 34)) := (Below.refl _ _).alloc (Nat.le_refl _) _
  have h' := h.below b0
  have Hd := Lib.hid (deep_any _ s F _ h')
  obtain ⟨A, cap, g, c0, cg, hm⟩ := h.last
  have ls := World.block_lt_of_cell? _ _ c0; have la := World.block_lt_of_cell? _ _ cg
  have ls' : s < w.heap.size + 1 := Nat.lt_succ_of_lt ls; have la' : A < w.heap.size + 1 := Nat.lt_succ_of_lt la
  have hlk := run_lookup (hm.below b0.drew) name
  have hlk2 := run_lookup (hm.below ((b0.alloc b0.size (.cells #[.int .i64 0, .int .i64 0, .int .i64 0] 34)).drew)) name
  generalize ((look m name).getD Dc.z) = d at *
  generalize (look m name).isSome = has at *
  obtain ⟨d1, d2, d3⟩ := d
  rw [show (Dc.mk d1 d2 d3).v = .agg #[.int .i64 d1, .int .i64 d2, .int .i64 d3] from rfl] at *
  have hw : IntKind.i64.wrap ((ms.length : Int) + 1 - 1) = ms.length := by rw [show (ms.length : Int) + 1 - 1 = (ms.length : Int) by omega]; exact IntWalk.i64_in _ (by omega)
  have h0 : ((ms.length : Int) + 1 == 0) = false := by simp; omega
  rw [List.length_append, List.length_singleton] at Hd
  clear h h' hm
  go_enter Try.func14, Try.ntmps14
  go_wp2_with (with_reducible refine halt_call ?_)
  refine Halted.run (Hd.out.mono ?_); rintro e w' ⟨rfl, rfl⟩
  go_wp2
  go_big_region
  all_goals go_wp2
  all_goals go_returns
  all_goals exact ⟨rfl, by go_grown⟩
end Go.Proofs.Ytjobdofnehajpaa
