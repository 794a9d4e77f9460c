/- The first look of the statements on kinds. -/
import Derived.Test.YtnpoleeflannjaaLeaf
import Derived.Deep.DeepCutAuto
namespace Go.Proofs.Ytnpoleeflannjaa
open Go.RowKit

theorem world_one : wF 1 = -1 ∧ wT 1 = 1 := ⟨rfl, rfl⟩
theorem struct_23 : sF 2 3 = 2 ∧ sT 2 3 = 3 := ⟨rfl, rfl⟩

/-- What the last test reads: three kinds in three blocks from B on. -/
def Three (B : Nat) (W : World) : Prop :=
  B + 3 ≤ W.heap.size ∧ W.cell? ⟨B, 0, none⟩ = some (.int .i64 (-2)) ∧ W.cell? ⟨B, 1, none⟩ = some (.int .i64 0) ∧
  W.cell? ⟨B + 1, 0, none⟩ = some (.int .i64 (-1)) ∧ W.cell? ⟨B + 1, 1, none⟩ = some (.int .i64 1) ∧
  W.cell? ⟨B + 1 + 1, 0, none⟩ = some (.int .i64 2) ∧ W.cell? ⟨B + 1 + 1, 1, none⟩ = some (.int .i64 3)
theorem Three.below {B : Nat} {W W' : World} (h : Three B W) (hb : Below W.heap.size W W') : Three B W' := by
  obtain ⟨h0, h1, h2, h3, h4, h5, h6⟩ := h
  have hs := hb.size
  refine ⟨by omega, ?_, ?_, ?_, ?_, ?_, ?_⟩ <;> rw [hb.cell (by simp; omega)] <;> assumption
theorem Three.alloc {B : Nat} {W : World} (h : Three B W) (o : Obj) : Three B (W.alloc o) := h.below ((Below.refl _ _).alloc (Nat.le_refl _) _)
theorem three_S {B : Nat} {w' : World} (h : Three B w') : Three B w' ∧ w'.cell? ⟨B, 0, none⟩ = some (.int .i64 (-2)) ∧ w'.cell? ⟨B, 1, none⟩ = some (.int .i64 0) ∧ w'.cell? ⟨B + 1, 0, none⟩ = some (.int .i64 (-1)) ∧ w'.cell? ⟨B + 1, 1, none⟩ = some (.int .i64 1) ∧ w'.cell? ⟨B + 1 + 1, 0, none⟩ = some (.int .i64 2) ∧ w'.cell? ⟨B + 1 + 1, 1, none⟩ = some (.int .i64 3) := ⟨h, h.2⟩
theorem Three.drew {B : Nat} {W : World} (h : Three B W) : Three B W.drew := h

theorem is_none (w : World) : Calls Try.prog 9 #[K (-2) 0] w fun e w' => e = .returned (.bool false) ∧ w.alloc (KO (-2) 0) = w' := is_any _ _ _
theorem is_one (w : World) : Calls Try.prog 9 #[K (-1) 1] w fun e w' => e = .returned (.bool true) ∧ w.alloc (KO (-1) 1) = w' := is_any _ _ _
theorem fields_one (w : World) : Calls Try.prog 10 #[K (-1) 1] w fun e w' => e = .returned (.bool false) ∧ w.alloc (KO (-1) 1) = w' := fields_any _ _ _
theorem fields_23 (w : World) : Calls Try.prog 10 #[K 2 3] w fun e w' => e = .returned (.bool true) ∧ w.alloc (KO 2 3) = w' := fields_any _ _ _
theorem struct_23' (w : World) : Calls Try.prog 8 #[.int .i64 2, .int .i64 3] w fun e w' => e = .returned (K 2 3) ∧ Below w.heap.size w w' := struct_any _ _ _
theorem eq_23 (w : World) : Calls Try.prog 11 #[K 2 3, K 2 3] w fun e w' => e = .returned (.bool true) ∧ (w.alloc (KO 2 3)).alloc (KO 2 3) = w' := eq_any _ _ _ _ _
theorem eq_13 (w : World) : Calls Try.prog 11 #[K (-1) 1, K 2 3] w fun e w' => e = .returned (.bool false) ∧ (w.alloc (KO (-1) 1)).alloc (KO 2 3) = w' := eq_any _ _ _ _ _

set_option maxRecDepth 100000 in
set_option maxHeartbeats 1600000 in
theorem begun_any (w : World) :
    Calls Try.prog 6 #[] w fun e w' => e = .returned (.bool true) ∧ Below w.heap.size w w' := by
  have hmf : ∀ (fn : Fn) (first cap : Array Value) (w : World), (Instr.makeFunc fn first cap).run Try.prog w = .ok (.func fn first cap) w := fun _ _ _ _ => rfl
  go_enter Try.func6, Try.ntmps6
  go_wp2_with (with_reducible refine halt_call ?_)
  refine Halted.run ((none_any _).mono ?_)
  rintro e w' ⟨rfl, rfl⟩
  go_wp2_with (with_reducible refine halt_call ?_)
  refine Halted.run ((world_any _ _).mono ?_)
  rintro e w2 ⟨rfl, hB2⟩
  rw [world_one.1, world_one.2]
  go_wp2_with (with_reducible refine halt_call ?_)
  refine Halted.run ((struct_any _ _ _).mono ?_)
  rintro e w3 ⟨rfl, hB3⟩
  rw [struct_23.1, struct_23.2]
  have hB : Below w.heap.size w w3 := below_then (below_then ((Below.refl _ _).alloc (Nat.le_refl _) _) (by simp) hB2) (by have := hB2.size; simp at this; omega) hB3
  have HB := Lib.hid hB
  clear hB hB2 hB3
  go_wp2
  have hT : Three w3.heap.size (((w3.alloc (KO (-2) 0)).alloc (KO (-1) 1)).alloc (KO 2 3)) := by
    have h := fun i => three_new w3 #[.int .i64 (-2), .int .i64 0] #[.int .i64 (-1), .int .i64 1] #[.int .i64 2, .int .i64 3] 24 i
    exact ⟨by simp, (h 0).1, (h 1).1, (h 0).2.1, (h 1).2.1, (h 0).2.2, (h 1).2.2⟩
  have hBW : Below w.heap.size w (((w3.alloc (KO (-2) 0)).alloc (KO (-1) 1)).alloc (KO 2 3)) :=
    below_then HB.out HB.out.size ((((Below.refl _ _).alloc (Nat.le_refl _) _).alloc (by simp) _).alloc (by simp; omega) _)
  generalize hWW : ((w3.alloc (KO (-2) 0)).alloc (KO (-1) 1)).alloc (KO 2 3) = W at hT hBW ⊢
  generalize w3.heap.size = B at hT ⊢
  have HBW := Lib.hid hBW
  have hT' := hT
  unfold Three at hT
  obtain ⟨hs, c1, c2, c3, c4, c5, c6⟩ := hT
  clear hBW hWW HB
  go_region
  all_goals go_wp2
  clear hs c1 c2 c3 c4 c5 c6
  clear hmf
  go_region_held3 (fun w' => Three B w' ∧ w'.cell? ⟨B, 0, none⟩ = some (.int .i64 (-2)) ∧ w'.cell? ⟨B, 1, none⟩ = some (.int .i64 0) ∧ w'.cell? ⟨B + 1, 0, none⟩ = some (.int .i64 (-1)) ∧ w'.cell? ⟨B + 1, 1, none⟩ = some (.int .i64 1) ∧ w'.cell? ⟨B + 1 + 1, 0, none⟩ = some (.int .i64 2) ∧ w'.cell? ⟨B + 1 + 1, 1, none⟩ = some (.int .i64 3)) ((first | assumption | (refine three_S ?_; repeat (first | assumption | (with_reducible refine Three.alloc ?_ _) | (with_reducible refine Three.drew ?_) | (refine Three.below ?_ (by assumption)))))) (first | (go_at_call 9; (first | (with_reducible refine (is_none _).mono ?_) | (with_reducible refine (is_one _).mono ?_)); rintro e w' ⟨rfl, rfl⟩) | (go_at_call 10; (first | (with_reducible refine (fields_one _).mono ?_) | (with_reducible refine (fields_23 _).mono ?_)); rintro e w' ⟨rfl, rfl⟩) | (go_at_call 8; refine (struct_23' _).mono ?_; rintro e w' ⟨rfl, hbx⟩) | (go_at_call 11; (first | (with_reducible refine (eq_23 _).mono ?_) | (with_reducible refine (eq_13 _).mono ?_)); rintro e w' ⟨rfl, rfl⟩))
  go_wp2
  go_ret
  exact ⟨rfl, by repeat (first | exact HBW.out | (with_reducible refine below_next ?_ _) | (with_reducible refine below_drew' ?_) | (refine below_step ?_ (by assumption)))⟩
end Go.Proofs.Ytnpoleeflannjaa
