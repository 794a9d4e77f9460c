/- The walk of KindWays. -/
import Derived.Test.YtnpoleeflannjaaBegun
namespace Go.Proofs.Ytnpoleeflannjaa
open Go.RowKit

/-- A row of kinds at block B. -/
structure KRow (B n : Nat) (F T : Nat → Int) (W : World) : Prop where
  hs : B < W.heap.size
  k1 : ∀ i, i < n → W.cell? ⟨B, i * 2, none⟩ = some (.int .i64 (F i))
  k2 : ∀ i, i < n → W.cell? ⟨B, i * 2 + 1, none⟩ = some (.int .i64 (T i))
theorem KRow.below {B n : Nat} {F T : Nat → Int} {W W' : World} (h : KRow B n F T W) (hb : Below W.heap.size W W') : KRow B n F T W' :=
  ⟨Nat.lt_of_lt_of_le h.hs hb.size, fun i hi => (hb.cell (by exact h.hs)).trans (h.k1 i hi), fun i hi => (hb.cell (by exact h.hs)).trans (h.k2 i hi)⟩
/-- Two kinds in two blocks from B on. -/
structure K2 (B : Nat) (a b c d : Int) (W : World) : Prop where
  hs : B + 2 ≤ W.heap.size
  k1 : W.cell? ⟨B, 0, none⟩ = some (.int .i64 a)
  k2 : W.cell? ⟨B, 1, none⟩ = some (.int .i64 b)
  k3 : W.cell? ⟨B + 1, 0, none⟩ = some (.int .i64 c)
  k4 : W.cell? ⟨B + 1, 1, none⟩ = some (.int .i64 d)
theorem K2.below {B : Nat} {a b c d : Int} {W W' : World} (h : K2 B a b c d W) (hb : Below W.heap.size W W') : K2 B a b c d W' := by
  obtain ⟨h0, h1, h2, h3, h4⟩ := h
  have hs := hb.size
  refine ⟨by omega, ?_, ?_, ?_, ?_⟩ <;> rw [hb.cell (by simp; omega)] <;> assumption

theorem K2.new (w : World) (a b c d : Int) : K2 w.heap.size a b c d ((w.alloc (KO a b)).alloc (KO c d)) := by
  refine ⟨by simp, ?_, ?_, ?_, ?_⟩
  · rw [World.cell?_alloc_old _ _ _ (by simp), World.cell?_alloc_new]; rfl
  · rw [World.cell?_alloc_old _ _ _ (by simp), World.cell?_alloc_new]; rfl
  · have := World.cell?_alloc_new (w.alloc (KO a b)) #[.int .i64 c, .int .i64 d] 24 0
    rwa [World.size_alloc] at this
  · have := World.cell?_alloc_new (w.alloc (KO a b)) #[.int .i64 c, .int .i64 d] 24 1
    rwa [World.size_alloc] at this
theorem free_new (w : World) (o : Obj) (C : Array Value) (t : TypeId) (i : Nat) : ((w.alloc (.cells C t)).alloc o).frozen? ⟨w.heap.size, i, none⟩ = false := by
  rw [World.frozen?_alloc_old _ _ _ (by simp), World.frozen?_alloc_new]
theorem K2.set {B : Nat} {a b c d a' b' : Int} {W : World} (h : K2 B a b c d W) : K2 B a' b' c d ((W.setCell ⟨B, 0, none⟩ (.int .i64 a')).setCell ⟨B, 1, none⟩ (.int .i64 b')) := by
  obtain ⟨h0, h1, h2, h3, h4⟩ := h
  refine ⟨by simpa using h0, ?_, ?_, ?_, ?_⟩
  · rw [World.cell?_setCell_other _ _ _ _ (by simp), World.cell?_setCell_same _ _ _ h1]
  · rw [World.cell?_setCell_same _ _ _ (by rw [World.cell?_setCell_other _ _ _ _ (by simp)]; exact h2)]
  · rw [World.cell?_setCell_other _ _ _ _ (by simp), World.cell?_setCell_other _ _ _ _ (by simp)]; exact h3
  · rw [World.cell?_setCell_other _ _ _ _ (by simp), World.cell?_setCell_other _ _ _ _ (by simp)]; exact h4
/-- What the test of a round reads; and what stays from round to round. -/
structure KW (B P : Nat) (F T : Nat → Int) (c d : Int) (w W : World) : Prop where
  q : K2 P (-2) 0 c d W
  k : KRow B 3 F T W
  b : Below w.heap.size w W
theorem KW.below {B P : Nat} {F T : Nat → Int} {c d : Int} {w W W' : World} (h : KW B P F T c d w W) (hb : Below W.heap.size W W') : KW B P F T c d w W' :=
  ⟨h.q.below hb, h.k.below hb, below_step h.b hb⟩
theorem KW.below' {B P m : Nat} {F T : Nat → Int} {c d : Int} {w W W' : World} (h : KW B P F T c d w W) (hb : Below m W W') (hm : W.heap.size ≤ m) : KW B P F T c d w W' :=
  h.below (hb.mono hm)
theorem KW.drew {B P : Nat} {F T : Nat → Int} {c d : Int} {w W : World} (h : KW B P F T c d w W) : KW B P F T c d w W.drew :=
  h.below (Below.refl _ _).drew
theorem kw_S {B P : Nat} {F T : Nat → Int} {c d : Int} {w W : World} (h : KW B P F T c d w W) : KW B P F T c d w W ∧ W.cell? ⟨P, 0, none⟩ = some (.int .i64 (-2)) ∧ W.cell? ⟨P, 1, none⟩ = some (.int .i64 0) ∧ W.cell? ⟨P + 1, 0, none⟩ = some (.int .i64 c) ∧ W.cell? ⟨P + 1, 1, none⟩ = some (.int .i64 d) :=
  ⟨h, h.q.k1, h.q.k2, h.q.k3, h.q.k4⟩
theorem is_x (c d : Int) (x : Bool) (hx : (c != -2) = x) (w : World) : Calls Try.prog 9 #[K c d] w fun e w' => e = .returned (.bool x) ∧ Below w.heap.size w w' := hx ▸ is_b c d w
theorem fields_x (c d : Int) (x : Bool) (hx : decide (0 ≤ c) = x) (w : World) : Calls Try.prog 10 #[K c d] w fun e w' => e = .returned (.bool x) ∧ Below w.heap.size w w' := hx ▸ fields_b c d w
theorem is_0 (w : World) : Calls Try.prog 9 #[K (-2) 0] w fun e w' => e = .returned (.bool false) ∧ Below w.heap.size w w' := is_b _ _ w

set_option maxRecDepth 100000 in
set_option maxHeartbeats 3200000 in
theorem kindWays_walk (n f t : Int) (w : World) :
    Calls Try.prog 4 #[.int .i64 n, .int .i64 f, .int .i64 t] w fun e w' => e = .returned (.bool true) ∧ Below w.heap.size w w' := by
  have hmf : ∀ (fn : Fn) (first cap : Array Value) (w : World), (Instr.makeFunc fn first cap).run Try.prog w = .ok (.func fn first cap) w := fun _ _ _ _ => rfl
  have Hmf := Lib.hid hmf
  clear hmf
  go_enter Try.func4, Try.ntmps4
  go_wp2_with (with_reducible refine halt_call ?_)
  refine Halted.run ((begun_any _).mono ?_)
  rintro e w1 ⟨rfl, hB1⟩
  go_wp2_with (with_reducible refine halt_call ?_)
  refine Halted.run ((none_b _).mono ?_)
  rintro e w2 ⟨rfl, hb⟩
  replace hB1 := below_step hB1 hb
  clear hb
  go_wp2_with (with_reducible refine halt_call ?_)
  refine Halted.run ((world_any _ _).mono ?_)
  rintro e w3 ⟨rfl, hb⟩
  replace hB1 := below_step hB1 hb
  clear hb
  go_wp2_with (with_reducible refine halt_call ?_)
  refine Halted.run ((struct_any _ _ _).mono ?_)
  rintro e w4 ⟨rfl, hb⟩
  replace hB1 := below_step hB1 hb
  clear hb
  go_wp2
  have hrow : KRow w4.heap.size 3 (fun k => match k with | 0 => -2 | 1 => wF n | _ => sF f t) (fun k => match k with | 0 => 0 | 1 => wT n | _ => sT f t)
      (w4.alloc (.cells #[.int .i64 (-2), .int .i64 0, .int .i64 (wF n), .int .i64 (wT n), .int .i64 (sF f t), .int .i64 (sT f t)] 24)) := by
    refine ⟨by simp, ?_, ?_⟩ <;> intro i hi <;> rw [World.cell?_alloc_new] <;>
      (rcases (show i = 0 ∨ i = 1 ∨ i = 2 by omega) with rfl | rfl | rfl <;> rfl)
  replace hB1 := below_next hB1 (.cells #[.int .i64 (-2), .int .i64 0, .int .i64 (wF n), .int .i64 (wT n), .int .i64 (sF f t), .int .i64 (sT f t)] 24)
  generalize (w4.alloc (.cells #[.int .i64 (-2), .int .i64 0, .int .i64 (wF n), .int .i64 (wT n), .int .i64 (sF f t), .int .i64 (sT f t)] 24)) = W at hrow hB1 ⊢
  generalize w4.heap.size = B at hrow ⊢
  generalize (fun k : Nat => match k with | 0 => (-2 : Int) | 1 => wF n | _ => sF f t) = F at hrow
  generalize (fun k : Nat => match k with | 0 => (0 : Int) | 1 => wT n | _ => sT f t) = T at hrow
  go_loopw [24] (fun i wr => ∃ k : Nat, k ≤ 3 ∧ i = .int .i64 k ∧ KRow B 3 F T wr ∧ Below w.heap.size w wr) (fun i _ => 3 - (intOf i).toNat)
  case atStart => exact ⟨0, by omega, rfl, hrow, hB1⟩
  case round =>
    clear hrow hB1
    obtain ⟨k, hk3, rfl, hk, hB⟩ := hrel
    by_cases hlt : k < 3
    · have c1 := hk.k1 k hlt
      have c2 := hk.k2 k hlt
      generalize F k = c at c1
      generalize T k = d at c2
      obtain ⟨x, hx⟩ : ∃ x, (c != -2) = x := ⟨_, rfl⟩
      obtain ⟨y, hy⟩ : ∃ y, decide (0 ≤ c) = y := ⟨_, rfl⟩
      have Hx := Lib.hid hx
      have Hy := Lib.hid hy
      have Hk := Lib.hid hk
      have HB := Lib.hid hB
      clear hx hy hk hB
      go_wp2
      have hmf := Hmf.out
      go_region
      all_goals go_wp2_with (with_reducible refine halt_call ?_)
      clear hmf
      refine Halted.run ((none_b _).mono ?_)
      rintro e w5 ⟨rfl, hb⟩
      have hQ := K2.new wr c d c d
      replace hQ : K2 wr.heap.size c d c d w5 := by
        refine K2.below ?_ hb
        exact ⟨hQ.hs, hQ.k1, hQ.k2, hQ.k3, hQ.k4⟩
      have hf0 := hb.frozen (p := ⟨wr.heap.size, 0, none⟩) (by simp; omega)
      have hf1 := hb.frozen (p := ⟨wr.heap.size, 1, none⟩) (by simp; omega)
      have hg0 : w5.frozen? ⟨wr.heap.size, 0, none⟩ = false := hf0.trans (free_new wr _ _ _ 0)
      have hg1 : w5.frozen? ⟨wr.heap.size, 1, none⟩ = false := hf1.trans (free_new wr _ _ _ 1)
      have hs5 := hb.size
      have hbel : Below wr.heap.size wr w5 := ((((Below.refl _ _).alloc (Nat.le_refl _) (KO c d)).alloc (by simp) (KO c d)).drew).trans ⟨hb.os, hb.tape, hb.output, hb.size, fun k hk => hb.block k (by simp; omega)⟩
      obtain ⟨q0, q1, q2, q3, q4⟩ := id hQ
      clear hf0 hf1 hb
      go_wp2
      have hQ2 := K2.set (a' := -2) (b' := 0) hQ
      have hbel2 := (hbel.setCell (p := ⟨wr.heap.size, 0, none⟩) (Nat.le_refl _) (.int .i64 (-2))).setCell (p := ⟨wr.heap.size, 1, none⟩) (Nat.le_refl _) (.int .i64 0)
      have hk2 : KRow B 3 F T ((w5.setCell ⟨wr.heap.size, 0, none⟩ (.int .i64 (-2))).setCell ⟨wr.heap.size, 1, none⟩ (.int .i64 0)) := by
        exact Hk.out.below hbel2
      have hB2 : Below w.heap.size w ((w5.setCell ⟨wr.heap.size, 0, none⟩ (.int .i64 (-2))).setCell ⟨wr.heap.size, 1, none⟩ (.int .i64 0)) :=
        below_step HB.out hbel2
      generalize (w5.setCell ⟨wr.heap.size, 0, none⟩ (.int .i64 (-2))).setCell ⟨wr.heap.size, 1, none⟩ (.int .i64 0) = w6 at hQ2 hk2 hB2 ⊢
      generalize wr.heap.size = P at hQ2 ⊢
      clear hQ q0 q1 q2 q3 q4 hg0 hg1 hs5 hbel hbel2 Hk HB
      have hW : KW B P F T c d w w6 := ⟨hQ2, hk2, hB2⟩
      clear hQ2 hk2 hB2
      go_region_held3 (fun W => KW B P F T c d w W ∧ W.cell? ⟨P, 0, none⟩ = some (.int .i64 (-2)) ∧ W.cell? ⟨P, 1, none⟩ = some (.int .i64 0) ∧ W.cell? ⟨P + 1, 0, none⟩ = some (.int .i64 c) ∧ W.cell? ⟨P + 1, 1, none⟩ = some (.int .i64 d)) ((first | assumption | (refine kw_S ?_; repeat (first | assumption | (with_reducible refine KW.drew ?_) | (refine KW.below' ?_ (by assumption) (by simp)))))) (first | (go_at_call 9; (first | (with_reducible refine (is_0 _).mono ?_) | (with_reducible refine (is_x c d x Hx.out _).mono ?_)); rintro e w' ⟨rfl, hb⟩) | (go_at_call 10; (with_reducible refine (fields_x c d y Hy.out _).mono ?_); rintro e w' ⟨rfl, hb⟩))
      go_wp2
      go_roundw
      case rel =>
        refine (fun (h : KW B P F T c d w _) => ⟨k + 1, by omega, by go_num, h.k, h.b⟩) ?_
        repeat (first | assumption | (with_reducible refine KW.drew ?_) | (refine KW.below' ?_ (by assumption) (by simp)))
      case measure => simp [intOf]; omega
    · go_wp2
      go_ret
      exact ⟨rfl, hB⟩
end Go.Proofs.Ytnpoleeflannjaa
