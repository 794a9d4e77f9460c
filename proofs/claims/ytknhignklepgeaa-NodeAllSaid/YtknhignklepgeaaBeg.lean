/- begun. -/
import Derived.Test.YtknhignklepgeaaNam
import Derived.Deep.RegionHeld
namespace Go.Proofs.Ytknhignklepgeaa
open Go.RowKit

set_option maxHeartbeats 4000000 in
theorem clo21_any (w : World) (k t : Int) (ao : Option Addr) (cap gb n : Nat) (F : Fo) (hn : n < 2000) (h : w.heap[gb]? = some (.cells #[.int .i64 n] 3 (0, 0))) :
    Calls Try.prog 21 #[nodeV k t ao F.els.length cap, .pointer (some ⟨gb, 0, none⟩)] w fun r w' => r = .returned (.bool true) ∧ w'.heap[gb]? = some (.cells #[.int .i64 ((n + 1 : Nat) : Int)] 3 (0, 0)) ∧ Grow2 gb w (.slice none 0 0) w' (.slice none 0 0) := by
  have lg := (Array.getElem?_eq_some_iff.1 h).1
  have b0 : Below w.heap.size w (w.alloc (.cells #[.int .i64 k, .int .i64 t, .slice ao F.els.length cap] 26)) := (Below.refl _ _).alloc (Nat.le_refl _) _
  have z1 := (b0.block gb lg).trans h
  have c1 := blk_cell z1 0
  have f1 := blk_free z1 0
  have H := Lib.hid h
  clear z1 b0 h
  unfold nodeV
  go_enter Try.func21, Try.ntmps21
  go_wp2
  go_ret
  have b2 : Below (w.setCell ⟨gb, 0, none⟩ (.int .i64 ((n : Int) + 1))).heap.size (w.setCell ⟨gb, 0, none⟩ (.int .i64 ((n : Int) + 1))) ((w.setCell ⟨gb, 0, none⟩ (.int .i64 ((n : Int) + 1))).alloc (.cells #[.int .i64 k, .int .i64 t, .slice ao F.els.length cap] 26)) := (Below.refl _ _).alloc (Nat.le_refl _) _
  have s2 := World.size_setCell w ⟨gb, 0, none⟩ (.int .i64 ((n : Int) + 1))
  refine ⟨rfl, (b2.block gb (by rw [s2]; exact lg)).trans (blk_set H.out 0 _), b2.os, b2.tape, b2.output, ?_, fun q hq hqg _ => ?_, .inl rfl⟩
  · have := b2.size; rw [s2] at this; exact this
  · exact (b2.block q (by rw [s2]; exact hq)).trans (Below.heap_setCell _ _ _ _ (by show q ≠ gb; exact hqg))
theorem clo21 (W0 : World) (gb : Nat) (hgb : W0.heap.size ≤ gb) :
    Clo W0 21 [.pointer (some ⟨gb, 0, none⟩)] gb (fun w L v => v = .slice none 0 0 ∧ w.heap[gb]? = some (.cells #[.int .i64 L.length] 3 (0, 0))) stepA (fun _ => true) where
  call := fun w L v k t F ao cap _ _ hl hT => by
    obtain ⟨rfl, hT⟩ := hT
    refine (clo21_any w k t ao cap gb L.length F hl hT).mono ?_
    rintro r w' ⟨rfl, hs, hg⟩
    refine ⟨rfl, _, ⟨rfl, ?_⟩, hg⟩
    rw [List.length_append]; exact hs
  below := fun w w' L v hT hb => ⟨hT.1, (hb.block gb (Array.getElem?_eq_some_iff.1 hT.2).1).trans hT.2⟩
  own := fun w L v hT => ⟨fun g hg => by rw [hT.1] at hg; exact absurd hg (by simp [Value.ownBlock]), (Array.getElem?_eq_some_iff.1 hT.2).1⟩
  gb := hgb
  enter := fun args w => enter_of Try.func21 (by kernel_rfl) rfl args w
  one := fun e => Nat.le_refl _
def F0 : Fo := .cons 20 0 .nil (.cons 21 2 .nil .nil)
set_option maxHeartbeats 4000000 in
theorem begun_any (w : World) : Calls Try.prog 6 #[] w fun r w' => r = .returned (.bool true) ∧ Below w.heap.size w w' := by
  have b1 : Below w.heap.size w ((w.alloc (.cells #[.int .i64 20, .int .i64 0, .slice none 0 0, .int .i64 21, .int .i64 2, .slice none 0 0] 26)).alloc (.cells #[.int .i64 24, .int .i64 1, .slice (some ⟨w.heap.size, 0, none⟩) 2 2] 26)) := ((Below.refl _ _).alloc (Nat.le_refl _) _).alloc (by simp) _
  have z0 : ((w.alloc (.cells #[.int .i64 20, .int .i64 0, .slice none 0 0, .int .i64 21, .int .i64 2, .slice none 0 0] 26)).alloc (.cells #[.int .i64 24, .int .i64 1, .slice (some ⟨w.heap.size, 0, none⟩) 2 2] 26)).heap[w.heap.size]? = some (.cells #[.int .i64 20, .int .i64 0, .slice none 0 0, .int .i64 21, .int .i64 2, .slice none 0 0] 26 (0, 0)) :=
    (((Below.refl _ _).alloc (Nat.le_refl _) _).block _ (by simp)).trans (blk_new w (.cells #[.int .i64 20, .int .i64 0, .slice none 0 0, .int .i64 21, .int .i64 2, .slice none 0 0] 26))
  have z1 : ((w.alloc (.cells #[.int .i64 20, .int .i64 0, .slice none 0 0, .int .i64 21, .int .i64 2, .slice none 0 0] 26)).alloc (.cells #[.int .i64 24, .int .i64 1, .slice (some ⟨w.heap.size, 0, none⟩) 2 2] 26)).heap[w.heap.size + 1]? = some (.cells #[.int .i64 24, .int .i64 1, .slice (some ⟨w.heap.size, 0, none⟩) 2 2] 26 (0, 0)) := by
    have := blk_new (w.alloc (.cells #[.int .i64 20, .int .i64 0, .slice none 0 0, .int .i64 21, .int .i64 2, .slice none 0 0] 26)) (.cells #[.int .i64 24, .int .i64 1, .slice (some ⟨w.heap.size, 0, none⟩) 2 2] 26)
    rw [World.size_alloc] at this
    exact this
  have s1 : ((w.alloc (.cells #[.int .i64 20, .int .i64 0, .slice none 0 0, .int .i64 21, .int .i64 2, .slice none 0 0] 26)).alloc (.cells #[.int .i64 24, .int .i64 1, .slice (some ⟨w.heap.size, 0, none⟩) 2 2] 26)).heap.size = w.heap.size + 2 := by simp
  go_enter Try.func6, Try.ntmps6
  go_wp2_with (with_reducible refine halt_call ?_)
  generalize (w.alloc (.cells #[.int .i64 20, .int .i64 0, .slice none 0 0, .int .i64 21, .int .i64 2, .slice none 0 0] 26)).alloc (.cells #[.int .i64 24, .int .i64 1, .slice (some ⟨w.heap.size, 0, none⟩) 2 2] 26) = w1 at *
  have hk1 : KidsV w1 (some ⟨w.heap.size, 0, none⟩) 2 F0 := by
    refine ⟨Nat.le_refl _, by decide, ⟨w.heap.size, 0, none⟩, .inr rfl, ?_⟩
    refine ⟨by rw [add_at]; exact blk_cell z0 0, by rw [add_at]; exact blk_cell z0 1, ⟨none, 0, ⟨0, 0, none⟩, by rw [add_at]; exact blk_cell z0 2, Nat.le_refl _, by decide, .inl rfl, trivial⟩, by rw [add_at]; exact blk_cell z0 3, by rw [add_at]; exact blk_cell z0 4, ⟨none, 0, ⟨0, 0, none⟩, by rw [add_at]; exact blk_cell z0 5, Nat.le_refl _, by decide, .inl rfl, trivial⟩, trivial⟩
  have b2 : Below w1.heap.size w1 (w1.alloc (.cells #[.int .i64 0] 3)) := (Below.refl _ _).alloc (Nat.le_refl _) _
  have hw := walkClo_any (clo21 w1 (w.heap.size + 1 + 1) (by rw [s1]; exact Nat.le_refl _)) F0 (w1.alloc (.cells #[.int .i64 0] 3)) 24 1 (some ⟨w.heap.size, 0, none⟩) 2 [] (.slice none 0 0) b2 hk1 (by decide) ⟨rfl, by have := blk_new w1 (.cells #[.int .i64 0] 3); rw [s1] at this; exact this⟩
  have hlen : ([] ++ gE stepA (fun _ => true) ⟨24, 1, F0⟩).length = 3 := rfl
  have HW := Lib.hid hw; have HL := Lib.hid hlen; have HK1 := Lib.hid hk1; have B1 := Lib.hid b1; have B2 := Lib.hid b2; have Z0 := Lib.hid z0; have Z1 := Lib.hid z1; have S1 := Lib.hid s1
  clear hw hlen hk1 b1 b2 z0 z1 s1
  refine Halted.run (HW.out.mono ?_); rintro r w3 ⟨rfl, v3, ⟨-, hp⟩, hg⟩
  rw [HL.out] at hp
  have b3 := Grow2.below B2.out hg (by rw [S1.out]; exact Nat.le_refl _) (fun g h => by cases h)
  have hz0 := (b3.block _ (Array.getElem?_eq_some_iff.1 Z0.out).1).trans Z0.out
  have hz1 := (b3.block _ (Array.getElem?_eq_some_iff.1 Z1.out).1).trans Z1.out
  have HP := Lib.hid hp; have B3 := Lib.hid b3; have HZ0 := Lib.hid hz0; have HZ1 := Lib.hid hz1; have HK3 := Lib.hid (HK1.out.below b3)
  clear hp hg b3 hz0 hz1 HK1 HW HL B2 Z0 Z1
  have hcells : ∀ W, Below w3.heap.size w3 W → W.cell? ⟨w.heap.size + 1, 0, none⟩ = some (.int .i64 24) ∧ W.cell? ⟨w.heap.size + 1, 1, none⟩ = some (.int .i64 1) ∧ W.cell? ⟨w.heap.size + 1, 2, none⟩ = some (.slice (some ⟨w.heap.size, 0, none⟩) 2 2) ∧ W.cell? ⟨w.heap.size + 1 + 1, 0, none⟩ = some (.int .i64 3) ∧
      W.cell? ⟨w.heap.size, 0, none⟩ = some (.int .i64 20) ∧ W.cell? ⟨w.heap.size, 1, none⟩ = some (.int .i64 0) ∧ W.cell? ⟨w.heap.size, 2, none⟩ = some (.slice none 0 0) := fun W hb => by
    obtain ⟨q0, q1, q2⟩ := tri_cells ((hb.block _ (Array.getElem?_eq_some_iff.1 HZ1.out).1).trans HZ1.out)
    have q4 := (hb.block _ (Array.getElem?_eq_some_iff.1 HZ0.out).1).trans HZ0.out
    exact ⟨q0, q1, q2, blk_cell ((hb.block _ (Array.getElem?_eq_some_iff.1 HP.out).1).trans HP.out) 0, blk_cell q4 0, blk_cell q4 1, blk_cell q4 2⟩
  have hcount : ∀ W, Below w3.heap.size w3 W → Calls Try.prog 10 #[.agg #[.int .i64 24, .int .i64 1, .slice (some ⟨w.heap.size, 0, none⟩) 2 2]] W fun r w' => r = .returned (.int .i64 3) ∧ Below w3.heap.size w3 w' := fun W hb =>
    (count_any F0 W 24 1 _ 2 (HK3.out.below hb) (by decide)).mono (fun r w' h => ⟨h.1, below_step hb h.2⟩)
  have hdeep : ∀ W, Below w3.heap.size w3 W → Calls Try.prog 12 #[.agg #[.int .i64 24, .int .i64 1, .slice (some ⟨w.heap.size, 0, none⟩) 2 2]] W fun r w' => r = .returned (.int .i64 2) ∧ Below w3.heap.size w3 w' := fun W hb =>
    (deep_any F0 W 24 1 _ 2 (HK3.out.below hb) (by decide)).mono (fun r w' h => ⟨h.1, below_step hb h.2⟩)
  have hfind : ∀ W, Below w3.heap.size w3 W → Calls Try.prog 19 #[.agg #[.int .i64 24, .int .i64 1, .slice (some ⟨w.heap.size, 0, none⟩) 2 2], .int .i64 2] W fun r w' => (∃ vo vc, r = .returned (.slice vo 1 vc)) ∧ Below w3.heap.size w3 w' := fun W hb =>
    (find_any w3 W 24 1 _ 2 2 F0 hb HK3.out (by decide)).mono (fun r w' h => by
      obtain ⟨v, rfl, hr, hb2, _⟩ := h
      obtain ⟨vo, vc, rfl⟩ := hr.form
      exact ⟨⟨vo, vc, rfl⟩, below_step hb hb2⟩)
  have heq : ∀ W, Below w3.heap.size w3 W → Calls Try.prog 8 #[.agg #[.int .i64 24, .int .i64 1, .slice (some ⟨w.heap.size, 0, none⟩) 2 2], .agg #[.int .i64 24, .int .i64 1, .slice (some ⟨w.heap.size, 0, none⟩) 2 2]] W fun r w' => r = .returned (.bool true) ∧ Below w3.heap.size w3 w' := fun W hb =>
    (eq_any F0 F0 W 24 1 24 1 _ _ 2 2 (HK3.out.below hb) (HK3.out.below hb)).mono (fun r w' h => ⟨h.1, below_step hb h.2⟩)
  have hne : ∀ W, Below w3.heap.size w3 W → Calls Try.prog 8 #[.agg #[.int .i64 24, .int .i64 1, .slice (some ⟨w.heap.size, 0, none⟩) 2 2], .agg #[.int .i64 20, .int .i64 0, .slice none 0 0]] W fun r w' => r = .returned (.bool false) ∧ Below w3.heap.size w3 w' := fun W hb =>
    (eq_any F0 .nil W 24 1 20 0 _ none 2 0 (HK3.out.below hb) ⟨Nat.le_refl _, by decide, ⟨0, 0, none⟩, .inl rfl, trivial⟩).mono (fun r w' h => ⟨h.1, below_step hb h.2⟩)
  have hn1 : ∀ W, Below w3.heap.size w3 W → Calls Try.prog 14 #[.int .i64 24] W fun r w' => r = .returned (.string { data := #[98, 105, 110, 97, 114, 121] }) ∧ Below w3.heap.size w3 w' := fun W hb =>
    (name_any 24 W).mono (fun r w' h => ⟨h.1, below_step hb h.2⟩)
  have hn0 : ∀ W, Below w3.heap.size w3 W → Calls Try.prog 14 #[.int .i64 0] W fun r w' => r = .returned (.string { data := #[] }) ∧ Below w3.heap.size w3 w' := fun W hb =>
    (name_any 0 W).mono (fun r w' h => ⟨h.1, below_step hb h.2⟩)
  have b0 : Below w3.heap.size w3 w3.drew := (Below.refl _ _).drew
  have HCELLS := Lib.hid hcells; have HCOUNT := Lib.hid hcount; have HDEEP := Lib.hid hdeep; have HFIND := Lib.hid hfind; have HEQ := Lib.hid heq; have HNE := Lib.hid hne; have HN1 := Lib.hid hn1; have HN0 := Lib.hid hn0; have B00 := Lib.hid b0
  have hb3 := Lib.hid (below_step B1.out B3.out)
  clear hcells hcount hdeep hfind heq hne hn1 hn0 b0 HK3 HP HZ0 HZ1 B1 B3 S1
  clear w1
  go_wp2_with fail
  go_region_held (fun W => W.cell? ⟨w.heap.size + 1, 0, none⟩ = some (.int .i64 24) ∧ W.cell? ⟨w.heap.size + 1, 1, none⟩ = some (.int .i64 1) ∧ W.cell? ⟨w.heap.size + 1, 2, none⟩ = some (.slice (some ⟨w.heap.size, 0, none⟩) 2 2) ∧ W.cell? ⟨w.heap.size + 1 + 1, 0, none⟩ = some (.int .i64 3) ∧
      W.cell? ⟨w.heap.size, 0, none⟩ = some (.int .i64 20) ∧ W.cell? ⟨w.heap.size, 1, none⟩ = some (.int .i64 0) ∧ W.cell? ⟨w.heap.size, 2, none⟩ = some (.slice none 0 0))
    ((first | assumption | exact HCELLS.out _ B00.out | exact HCELLS.out _ hb10 | exact HCELLS.out _ hb9 | exact HCELLS.out _ hb8 | exact HCELLS.out _ hb7 | exact HCELLS.out _ hb6 | exact HCELLS.out _ hb5 | exact HCELLS.out _ hb4))
    ((first
      | (go_at_call 10; with_reducible refine (HCOUNT.out _ B00.out).mono ?_; rintro r w4 ⟨rfl, hb4⟩)
      | (go_at_call 12; with_reducible refine (HDEEP.out _ hb4).mono ?_; rintro r w5 ⟨rfl, hb5⟩)
      | (go_at_call 19; with_reducible refine (HFIND.out _ hb5).mono ?_; rintro r w6 ⟨⟨vo, vc, rfl⟩, hb6⟩)
      | (go_at_call 8; with_reducible refine (HEQ.out _ hb6).mono ?_; rintro r w7 ⟨rfl, hb7⟩)
      | (go_at_call 8; with_reducible refine (HNE.out _ hb7).mono ?_; rintro r w8 ⟨rfl, hb8⟩)
      | (go_at_call 14; with_reducible refine (HN1.out _ hb8).mono ?_; rintro r w9 ⟨rfl, hb9⟩)
      | (go_at_call 14; with_reducible refine (HN0.out _ hb9).mono ?_; rintro r w10 ⟨rfl, hb10⟩)))
  all_goals go_wp2
  all_goals go_ret
  all_goals exact ⟨rfl, below_step hb3.out hb10⟩
end Go.Proofs.Ytknhignklepgeaa
