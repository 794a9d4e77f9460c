/- Count, Deep, and the law's own. -/
import Derived.Test.YtknhignklepgeaaTree
namespace Go.Proofs.Ytknhignklepgeaa
open Go.RowKit

def cTo (F : Fo) (i : Nat) : Nat := (F.els.take i).foldl (fun s e => s + (1 + cF e.kids)) 0
theorem cTo_succ (F : Fo) (i : Nat) (h : i < F.els.length) : cTo F (i + 1) = cTo F i + (1 + cF F.els[i].kids) := by
  unfold cTo
  rw [List.take_succ_eq_append_getElem h, List.foldl_append]; rfl
theorem cTo_all (F : Fo) : cTo F F.els.length = cF F := by
  unfold cTo
  rw [List.take_length, cF_fold]; omega
theorem cTo_le (F : Fo) : ∀ i, i ≤ F.els.length → cTo F i ≤ cF F := by
  have key : ∀ d i, i + d = F.els.length → cTo F i ≤ cF F := by
    intro d
    induction d with
    | zero => intro i hi; rw [show i = F.els.length by omega, cTo_all]; omega
    | succ d ih =>
      intro i hi
      have := ih (i + 1) (by omega)
      rw [cTo_succ F i (by omega)] at this
      omega
  exact fun i hi => key (F.els.length - i) i (by omega)
theorem below_lay {w0 w w1 : World} {o : Obj} (h0 : Below w0.heap.size w0 w) (h : Below (w.alloc o).heap.size (w.alloc o) w1) : Below w0.heap.size w0 w1 := below_step (h0.alloc h0.size o) h
set_option maxHeartbeats 1000000 in
theorem count_any (F : Fo) : ∀ (w : World) (k t : Int) (ao : Option Addr) (cap : Nat), KidsV w ao cap F → cF F < 1000000 →
    Calls Try.prog 10 #[nodeV k t ao F.els.length cap] w fun e w' => e = .returned (.int .i64 (1 + cF F)) ∧ Below w.heap.size w w' := by
  refine Fo.ind (Q := fun F => ∀ (w : World) (k t : Int) (ao : Option Addr) (cap : Nat), KidsV w ao cap F → cF F < 1000000 →
    Calls Try.prog 10 #[nodeV k t ao F.els.length cap] w fun e w' => e = .returned (.int .i64 (1 + cF F)) ∧ Below w.heap.size w w') (fun F IH w k t ao cap hk hc => ?_) F
  have b0 : Below w.heap.size w (w.alloc (.cells #[.int .i64 k, .int .i64 t, .slice ao F.els.length cap] 26)) := (Below.refl _ _).alloc (Nat.le_refl _) _
  have HK := Lib.hid (hk.below b0); have B0 := Lib.hid b0; have HIH := Lib.hid IH
  have hl1 := hk.1; have hl2 := hk.2.1
  clear hk b0 IH
  unfold nodeV
  go_enter Try.func10, Try.ntmps10
  go_wp2
  generalize w.alloc (.cells #[.int .i64 k, .int .i64 t, .slice ao F.els.length cap] 26) = w1 at *
  go_loopw [3, 9] (fun c i wx => ∃ j : Nat, j ≤ F.els.length ∧ i = .int .i64 j ∧ c = .int .i64 (1 + cTo F j) ∧ Below w1.heap.size w1 wx) (fun _ i _ => F.els.length - (intOf i).toNat)
  case atStart => exact ⟨0, Nat.zero_le _, rfl, by simp [cTo], Below.refl _ _⟩
  case round =>
    obtain ⟨j, hj, rfl, rfl, hB⟩ := hrel
    by_cases hlt : j < F.els.length
    · obtain ⟨a, ha, c0, c1, ao', cap', c2, hk'⟩ := (HK.out.below hB).nth j hlt
      have hs := cTo_succ F j hlt
      have hle := cTo_le F (j + 1) (by omega)
      have hmem : F.els[j] ∈ F.els := List.getElem_mem _
      have IHj := HIH.out _ hmem
      generalize F.els[j] = e at *
      obtain ⟨ek, et, eks⟩ := e
      replace hs : cTo F (j + 1) = cTo F j + (1 + cF eks) := hs
      subst ha
      have Hc := Lib.hid (IHj (wr.alloc (.cells #[.int .i64 ek, .int .i64 et, .slice ao' eks.els.length cap'] 26)) ek et ao' cap' (hk'.below ((Below.refl _ _).alloc (Nat.le_refl _) _)) (by show cF eks < _; omega))
      have HB := Lib.hid hB; have Hs := Lib.hid hs
      have hw : IntKind.i64.wrap (1 + (cTo F j : Int) + (1 + (cF eks : Int))) = 1 + cTo F j + (1 + cF eks) := IntWalk.i64_in _ (by omega)
      clear hk' hB hs hmem IHj HK HIH B0
      unfold nodeV at Hc
      go_wp2_with (with_reducible refine halt_call ?_)
      refine Halted.run (Hc.out.mono ?_); rintro e w3 ⟨rfl, hb3⟩
      have HB3 := Lib.hid (below_lay HB.out hb3)
      clear hb3 HB Hc
      go_wp2
      refine ⟨⟨j + 1, by omega, by go_num, by rw [Hs.out]; congr 1; omega, HB3.out⟩, by simp [intOf]; omega⟩
    · have hje : j = F.els.length := by omega
      subst hje
      rw [cTo_all]
      have HB := Lib.hid (below_step B0.out hB)
      clear hB
      go_wp2
      go_ret
      exact ⟨rfl, HB.out⟩
set_option maxHeartbeats 1000000 in
theorem count2_any (F : Fo) : ∀ (w : World) (k t : Int) (ao : Option Addr) (cap : Nat), KidsV w ao cap F → cF F < 1000000 →
    Calls Try.prog 11 #[nodeV k t ao F.els.length cap] w fun e w' => e = .returned (.int .i64 (1 + cF F)) ∧ Below w.heap.size w w' := by
  refine Fo.ind (Q := fun F => ∀ (w : World) (k t : Int) (ao : Option Addr) (cap : Nat), KidsV w ao cap F → cF F < 1000000 →
    Calls Try.prog 11 #[nodeV k t ao F.els.length cap] w fun e w' => e = .returned (.int .i64 (1 + cF F)) ∧ Below w.heap.size w w') (fun F IH w k t ao cap hk hc => ?_) F
  have b0 : Below w.heap.size w (w.alloc (.cells #[.int .i64 k, .int .i64 t, .slice ao F.els.length cap] 26)) := (Below.refl _ _).alloc (Nat.le_refl _) _
  have z0 := blk_new w (.cells #[.int .i64 k, .int .i64 t, .slice ao F.els.length cap] 26)
  have g0 : w.heap.size < (w.alloc (.cells #[.int .i64 k, .int .i64 t, .slice ao F.els.length cap] 26)).heap.size := by simp
  have HK := Lib.hid (hk.below b0); have B0 := Lib.hid b0; have HIH := Lib.hid IH; have Z0 := Lib.hid z0
  have hl1 := hk.1; have hl2 := hk.2.1
  clear hk b0 IH z0
  unfold nodeV
  go_enter Try.func11, Try.ntmps11
  go_wp2
  generalize w.alloc (.cells #[.int .i64 k, .int .i64 t, .slice ao F.els.length cap] 26) = w1 at *
  go_loopw [3, 4] (fun c i wx => ∃ j : Nat, j ≤ F.els.length ∧ i = .int .i64 j ∧ c = .int .i64 (1 + cTo F j) ∧ Below w1.heap.size w1 wx) (fun _ i _ => F.els.length - (intOf i).toNat)
  case atStart => exact ⟨0, Nat.zero_le _, rfl, by simp [cTo], Below.refl _ _⟩
  case round =>
    obtain ⟨j, hj, rfl, rfl, hB⟩ := hrel
    have z2 : wr.cell? ⟨w.heap.size, 2, none⟩ = some (.slice ao F.els.length cap) := blk_cell ((hB.block _ g0).trans Z0.out) 2
    by_cases hlt : j < F.els.length
    · obtain ⟨a, ha, c0, c1, ao', cap', c2, hk'⟩ := (HK.out.below hB).nth j hlt
      have hs := cTo_succ F j hlt
      have hle := cTo_le F (j + 1) (by omega)
      have hmem : F.els[j] ∈ F.els := List.getElem_mem _
      have IHj := HIH.out _ hmem
      generalize F.els[j] = e at *
      obtain ⟨ek, et, eks⟩ := e
      replace hs : cTo F (j + 1) = cTo F j + (1 + cF eks) := hs
      subst ha
      have Hc := Lib.hid (IHj wr ek et ao' cap' hk' (by show cF eks < _; omega))
      have HB := Lib.hid hB; have Hs := Lib.hid hs
      have hw : IntKind.i64.wrap (1 + (cTo F j : Int) + (1 + (cF eks : Int))) = 1 + cTo F j + (1 + cF eks) := IntWalk.i64_in _ (by omega)
      clear hk' hB hs hmem IHj HK HIH B0
      unfold nodeV at Hc
      go_wp2_with (with_reducible refine halt_call ?_)
      refine Halted.run (Hc.out.mono ?_); rintro e w3 ⟨rfl, hb3⟩
      have HB3 := Lib.hid (below_step HB.out hb3)
      clear hb3 HB Hc
      go_wp2
      refine ⟨⟨j + 1, by omega, by go_num, by rw [Hs.out]; congr 1; omega, HB3.out⟩, by simp [intOf]; omega⟩
    · have hje : j = F.els.length := by omega
      subst hje
      rw [cTo_all]
      have HB := Lib.hid (below_step B0.out hB)
      clear hB
      go_wp2
      go_ret
      exact ⟨rfl, HB.out⟩
def dTo (F : Fo) (i : Nat) : Nat := (F.els.take i).foldl (fun s e => max s (dF e.kids + 1)) 0
theorem dTo_succ (F : Fo) (i : Nat) (h : i < F.els.length) : dTo F (i + 1) = max (dTo F i) (dF F.els[i].kids + 1) := by
  unfold dTo
  rw [List.take_succ_eq_append_getElem h, List.foldl_append]; rfl
theorem dTo_all (F : Fo) : dTo F F.els.length = dF F := by
  unfold dTo
  rw [List.take_length, dF_fold]; omega
theorem mx_nat (a b : Nat) : mxI (a : Int) ((b : Int) + 1) = ((max a (b + 1) : Nat) : Int) := by
  unfold mxI
  split <;> omega
theorem dF_mem (F : Fo) : ∀ e, e ∈ F.els → dF e.kids < dF F := by
  induction F with
  | nil => intro e he; cases he
  | cons k t kids rest _ ih =>
    intro e he
    rcases List.mem_cons.1 he with rfl | he
    · show dF kids < max (dF kids + 1) (dF rest); omega
    · have := ih e he
      show dF e.kids < max (dF kids + 1) (dF rest); omega
theorem dTo_le (F : Fo) (i : Nat) (hi : i ≤ F.els.length) : dTo F i ≤ dF F := by
  have key : ∀ d i, i + d = F.els.length → dTo F i ≤ dF F := by
    intro d
    induction d with
    | zero => intro i hi; rw [show i = F.els.length by omega, dTo_all]; omega
    | succ d ih =>
      intro i hi
      have := ih (i + 1) (by omega)
      rw [dTo_succ F i (by omega)] at this
      omega
  exact key (F.els.length - i) i (by omega)
attribute [local go_sem high] run_max_mx
set_option maxHeartbeats 1000000 in
theorem deep_any (F : Fo) : ∀ (w : World) (k t : Int) (ao : Option Addr) (cap : Nat), KidsV w ao cap F → dF F < 1000000 →
    Calls Try.prog 12 #[nodeV k t ao F.els.length cap] w fun e w' => e = .returned (.int .i64 ((dF F : Int) + 1)) ∧ Below w.heap.size w w' := by
  refine Fo.ind (Q := fun F => ∀ (w : World) (k t : Int) (ao : Option Addr) (cap : Nat), KidsV w ao cap F → dF F < 1000000 →
    Calls Try.prog 12 #[nodeV k t ao F.els.length cap] w fun e w' => e = .returned (.int .i64 ((dF F : Int) + 1)) ∧ Below w.heap.size w w') (fun F IH w k t ao cap hk hc => ?_) F
  have b0 : Below w.heap.size w (w.alloc (.cells #[.int .i64 k, .int .i64 t, .slice ao F.els.length cap] 26)) := (Below.refl _ _).alloc (Nat.le_refl _) _
  have z0 := blk_new w (.cells #[.int .i64 k, .int .i64 t, .slice ao F.els.length cap] 26)
  have g0 : w.heap.size < (w.alloc (.cells #[.int .i64 k, .int .i64 t, .slice ao F.els.length cap] 26)).heap.size := by simp
  have HK := Lib.hid (hk.below b0); have B0 := Lib.hid b0; have HIH := Lib.hid IH; have Z0 := Lib.hid z0
  have hl1 := hk.1; have hl2 := hk.2.1
  clear hk b0 IH z0
  unfold nodeV
  go_enter Try.func12, Try.ntmps12
  go_wp2
  generalize w.alloc (.cells #[.int .i64 k, .int .i64 t, .slice ao F.els.length cap] 26) = w1 at *
  go_loopw [3, 9] (fun c i wx => ∃ j : Nat, j ≤ F.els.length ∧ i = .int .i64 j ∧ c = .int .i64 (dTo F j) ∧ Below w1.heap.size w1 wx) (fun _ i _ => F.els.length - (intOf i).toNat)
  case atStart => exact ⟨0, Nat.zero_le _, rfl, by simp [dTo], Below.refl _ _⟩
  case round =>
    obtain ⟨j, hj, rfl, rfl, hB⟩ := hrel
    have z2 : wr.cell? ⟨w.heap.size, 2, none⟩ = some (.slice ao F.els.length cap) := blk_cell ((hB.block _ g0).trans Z0.out) 2
    by_cases hlt : j < F.els.length
    · obtain ⟨a, ha, c0, c1, ao', cap', c2, hk'⟩ := (HK.out.below hB).nth j hlt
      have hs := dTo_succ F j hlt
      have hmem : F.els[j] ∈ F.els := List.getElem_mem _
      have hle := dF_mem F _ hmem
      have IHj := HIH.out _ hmem
      generalize F.els[j] = e at *
      obtain ⟨ek, et, eks⟩ := e
      replace hs : dTo F (j + 1) = max (dTo F j) (dF eks + 1) := hs
      replace hle : dF eks < dF F := hle
      subst ha
      have Hc := Lib.hid (IHj (wr.alloc (.cells #[.int .i64 ek, .int .i64 et, .slice ao' eks.els.length cap'] 26)) ek et ao' cap' (hk'.below ((Below.refl _ _).alloc (Nat.le_refl _) _)) (by show dF eks < _; omega))
      have HB := Lib.hid hB; have Hs := Lib.hid hs
      have Hm := Lib.hid (mx_nat (dTo F j) (dF eks))
      clear hk' hB hs hmem IHj HK HIH B0
      unfold nodeV at Hc
      go_wp2_with (with_reducible refine halt_call ?_)
      refine Halted.run (Hc.out.mono ?_); rintro e w3 ⟨rfl, hb3⟩
      have HB3 := Lib.hid (below_lay HB.out hb3)
      clear hb3 HB Hc
      go_wp2
      refine ⟨⟨j + 1, by omega, by go_num, by rw [Hs.out]; exact congrArg _ Hm.out, HB3.out⟩, by simp [intOf]; omega⟩
    · have hje : j = F.els.length := by omega
      subst hje
      rw [dTo_all]
      have HB := Lib.hid (below_step B0.out hB)
      clear hB
      go_wp2
      go_ret
      exact ⟨rfl, HB.out⟩
set_option maxHeartbeats 1000000 in
theorem deep2_any (F : Fo) : ∀ (w : World) (k t : Int) (ao : Option Addr) (cap : Nat), KidsV w ao cap F → dF F < 1000000 →
    Calls Try.prog 13 #[nodeV k t ao F.els.length cap] w fun e w' => e = .returned (.int .i64 ((dF F : Int) + 1)) ∧ Below w.heap.size w w' := by
  refine Fo.ind (Q := fun F => ∀ (w : World) (k t : Int) (ao : Option Addr) (cap : Nat), KidsV w ao cap F → dF F < 1000000 →
    Calls Try.prog 13 #[nodeV k t ao F.els.length cap] w fun e w' => e = .returned (.int .i64 ((dF F : Int) + 1)) ∧ Below w.heap.size w w') (fun F IH w k t ao cap hk hc => ?_) F
  have b0 : Below w.heap.size w (w.alloc (.cells #[.int .i64 k, .int .i64 t, .slice ao F.els.length cap] 26)) := (Below.refl _ _).alloc (Nat.le_refl _) _
  have z0 := blk_new w (.cells #[.int .i64 k, .int .i64 t, .slice ao F.els.length cap] 26)
  have g0 : w.heap.size < (w.alloc (.cells #[.int .i64 k, .int .i64 t, .slice ao F.els.length cap] 26)).heap.size := by simp
  have HK := Lib.hid (hk.below b0); have B0 := Lib.hid b0; have HIH := Lib.hid IH; have Z0 := Lib.hid z0
  have hl1 := hk.1; have hl2 := hk.2.1
  clear hk b0 IH z0
  unfold nodeV
  go_enter Try.func13, Try.ntmps13
  go_wp2
  generalize w.alloc (.cells #[.int .i64 k, .int .i64 t, .slice ao F.els.length cap] 26) = w1 at *
  go_loopw [3, 4] (fun c i wx => ∃ j : Nat, j ≤ F.els.length ∧ i = .int .i64 j ∧ c = .int .i64 (dTo F j) ∧ Below w1.heap.size w1 wx) (fun _ i _ => F.els.length - (intOf i).toNat)
  case atStart => exact ⟨0, Nat.zero_le _, rfl, by simp [dTo], Below.refl _ _⟩
  case round =>
    obtain ⟨j, hj, rfl, rfl, hB⟩ := hrel
    have z2 : wr.cell? ⟨w.heap.size, 2, none⟩ = some (.slice ao F.els.length cap) := blk_cell ((hB.block _ g0).trans Z0.out) 2
    by_cases hlt : j < F.els.length
    · obtain ⟨a, ha, c0, c1, ao', cap', c2, hk'⟩ := (HK.out.below hB).nth j hlt
      have hs := dTo_succ F j hlt
      have hmem : F.els[j] ∈ F.els := List.getElem_mem _
      have hle := dF_mem F _ hmem
      have IHj := HIH.out _ hmem
      generalize F.els[j] = e at *
      obtain ⟨ek, et, eks⟩ := e
      replace hs : dTo F (j + 1) = max (dTo F j) (dF eks + 1) := hs
      replace hle : dF eks < dF F := hle
      subst ha
      have Hc := Lib.hid (IHj wr ek et ao' cap' hk' (by show dF eks < _; omega))
      have HB := Lib.hid hB; have Hs := Lib.hid hs
      have Hm := Lib.hid (mx_nat (dTo F j) (dF eks))
      clear hk' hB hs hmem IHj HK HIH B0
      unfold nodeV at Hc
      go_wp2_with (with_reducible refine halt_call ?_)
      refine Halted.run (Hc.out.mono ?_); rintro e w3 ⟨rfl, hb3⟩
      have HB3 := Lib.hid (below_step HB.out hb3)
      clear hb3 HB Hc
      go_wp2
      refine ⟨⟨j + 1, by omega, by go_num, by rw [Hs.out]; exact congrArg _ Hm.out, HB3.out⟩, by simp [intOf]; omega⟩
    · have hje : j = F.els.length := by omega
      subst hje
      rw [dTo_all]
      have HB := Lib.hid (below_step B0.out hB)
      clear hB
      go_wp2
      go_ret
      exact ⟨rfl, HB.out⟩
end Go.Proofs.Ytknhignklepgeaa
