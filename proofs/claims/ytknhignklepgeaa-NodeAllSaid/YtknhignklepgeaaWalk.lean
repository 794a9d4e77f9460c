/- Walk, whatever closure goes along. -/
import Derived.Test.YtknhignklepgeaaClo2
namespace Go.Proofs.Ytknhignklepgeaa
open Go.RowKit

/-- A closure that turns its variable's list. -/
structure Clo (W0 : World) (N : Nat) (caps : List Value) (gb : Nat) (T : World → List El → Value → Prop) (step : El → List El) (go : El → Bool) : Prop where
  call : ∀ (w : World) (L : List El) (v : Value) (k t : Int) (F : Fo) (ao : Option Addr) (cap : Nat), Below W0.heap.size W0 w → KidsV W0 ao cap F → L.length < 2000 → T w L v →
    Calls Try.prog N (nodeV k t ao F.els.length cap :: caps).toArray w fun r w' => r = .returned (.bool (go ⟨k, t, F⟩)) ∧ ∃ v', T w' (L ++ step ⟨k, t, F⟩) v' ∧ Grow2 gb w v w' v'
  below : ∀ (w w' : World) (L : List El) (v : Value), T w L v → Below w.heap.size w w' → T w' L v
  own : ∀ (w : World) (L : List El) (v : Value), T w L v → (∀ g, v.ownBlock = some g → W0.heap.size ≤ g ∧ g < w.heap.size) ∧ gb < w.heap.size
  gb : W0.heap.size ≤ gb
  enter : ∀ (args : Array Value) (w : World), Sem.run Try.prog (callFunc N args) w = .ok (.enter N args) w
  one : ∀ e, (step e).length ≤ 1
def gF (step : El → List El) (go : El → Bool) : Fo → List El
  | .nil => []
  | .cons k t kids rest => (step ⟨k, t, kids⟩ ++ (if go ⟨k, t, kids⟩ then gF step go kids else [])) ++ gF step go rest
def gE (step : El → List El) (go : El → Bool) (e : El) : List El := step e ++ (if go e then gF step go e.kids else [])
theorem gF_flat (step : El → List El) (go : El → Bool) : ∀ F : Fo, gF step go F = F.els.flatMap (gE step go)
  | .nil => rfl
  | .cons k t kids rest => by rw [gF, Fo.els, List.flatMap_cons, gF_flat step go rest]; rfl
theorem gF_len (step : El → List El) (go : El → Bool) (h1 : ∀ e, (step e).length ≤ 1) : ∀ F : Fo, (gF step go F).length ≤ cF F
  | .nil => Nat.le_refl _
  | .cons k t kids rest => by
    have a1 := gF_len step go h1 kids
    have a2 := gF_len step go h1 rest
    have a3 := h1 ⟨k, t, kids⟩
    rw [gF, List.length_append, List.length_append]
    show _ ≤ 1 + cF kids + cF rest
    split
    · omega
    · show _ + 0 + _ ≤ _; omega
theorem gtake (step : El → List El) (go : El → Bool) (F : Fo) (i : Nat) (h : i < F.els.length) : (F.els.take (i + 1)).flatMap (gE step go) = (F.els.take i).flatMap (gE step go) ++ gE step go F.els[i] := by
  rw [List.take_succ_eq_append_getElem h, List.flatMap_append]; simp
theorem gflat_cTo (step : El → List El) (go : El → Bool) (h1 : ∀ e, (step e).length ≤ 1) (F : Fo) : ∀ i, i ≤ F.els.length → ((F.els.take i).flatMap (gE step go)).length ≤ cTo F i
  | 0, _ => by simp
  | i + 1, h => by
    rw [gtake step go F i (by omega), List.length_append, cTo_succ F i (by omega)]
    have a1 := gflat_cTo step go h1 F i (by omega)
    have a2 := gF_len step go h1 F.els[i].kids
    have a3 := h1 F.els[i]
    have e : gE step go F.els[i] = step F.els[i] ++ (if go F.els[i] then gF step go F.els[i].kids else []) := rfl
    rw [e, List.length_append]
    split
    · omega
    · show _ + (_ + 0) ≤ _; omega
set_option maxHeartbeats 4000000 in
theorem walkClo_any {W0 : World} {N : Nat} {caps : List Value} {gb : Nat} {T : World → List El → Value → Prop} {step : El → List El} {go : El → Bool} (C : Clo W0 N caps gb T step go) (F : Fo) :
    ∀ (w : World) (k t : Int) (ao : Option Addr) (cap : Nat) (L : List El) (v : Value), Below W0.heap.size W0 w → KidsV W0 ao cap F → L.length + cF F < 1900 → T w L v →
    Calls Try.prog 16 #[nodeV k t ao F.els.length cap, .func (.func N) #[] caps.toArray] w fun r w' => r = .returned (.tuple #[]) ∧ ∃ v', T w' (L ++ gE step go ⟨k, t, F⟩) v' ∧ Grow2 gb w v w' v' := by
  refine Fo.ind (Q := fun F => ∀ (w : World) (k t : Int) (ao : Option Addr) (cap : Nat) (L : List El) (v : Value), Below W0.heap.size W0 w → KidsV W0 ao cap F → L.length + cF F < 1900 → T w L v →
    Calls Try.prog 16 #[nodeV k t ao F.els.length cap, .func (.func N) #[] caps.toArray] w fun r w' => r = .returned (.tuple #[]) ∧ ∃ v', T w' (L ++ gE step go ⟨k, t, F⟩) v' ∧ Grow2 gb w v w' v') (fun F IH w k t ao cap L v hB0 hk hcl hT => ?_) F
  have b0 : Below w.heap.size w (w.alloc (.cells #[.int .i64 k, .int .i64 t, .slice ao F.els.length cap] 26)) := (Below.refl _ _).alloc (Nat.le_refl _) _
  have z0 := blk_new w (.cells #[.int .i64 k, .int .i64 t, .slice ao F.els.length cap] 26)
  have g0 : w.heap.size < (w.alloc (.cells #[.int .i64 k, .int .i64 t, .slice ao F.els.length cap] 26)).heap.size := by simp
  have hT1 := C.below _ _ _ _ hT b0
  obtain ⟨hv1, hg1⟩ := C.own _ _ _ hT
  have HC := Lib.hid (C.call _ L v k t F ao cap (below_step hB0 b0) hk (by omega) hT1)
  have HCC := Lib.hid C
  have henter := C.enter
  have HK := Lib.hid hk; have HIH := Lib.hid IH; have HB0 := Lib.hid (below_step hB0 b0); have B0 := Lib.hid b0; have Z0 := Lib.hid z0; have HV1 := Lib.hid hv1
  have hl1 := hk.1; have hl2 := hk.2.1
  clear hk IH hB0 b0 z0 hT hT1 hv1 C
  unfold nodeV at *
  go_enter Try.func16, Try.ntmps16
  go_wp2_with (with_reducible refine halt_call ?_)
  refine Halted.run (HC.out.mono ?_); rintro r w2 ⟨rfl, v2, hT2, hG2⟩
  have hz2 : w2.heap[w.heap.size]? = some (.cells #[.int .i64 k, .int .i64 t, .slice ao F.els.length cap] 26 (0, 0)) :=
    (hG2.block _ g0 (by omega) (fun e => by have := (HV1.out _ e).2; omega)).trans Z0.out
  obtain ⟨x0, x1, x2⟩ := tri_cells hz2
  have hB2 := Grow2.below HB0.out hG2 HCC.out.gb (fun g hg => (HV1.out g hg).1)
  have HT2 := Lib.hid hT2; have HG2 := Lib.hid ((Grow2.of_below (gb := gb) v B0.out).trans hG2); have HB2 := Lib.hid hB2
  have one := HCC.out.one ⟨k, t, F⟩
  clear hT2 hG2 hB2 hz2 HC HB0 B0 Z0 HV1 g0
  cases hgo : go ⟨k, t, F⟩ with
  | false =>
    have he : gE step go ⟨k, t, F⟩ = step ⟨k, t, F⟩ := by unfold gE; rw [hgo]; simp
    have He := Lib.hid he
    clear he
    go_wp2
    go_returns
    exact ⟨rfl, v2, by rw [He.out]; exact HT2.out, HG2.out⟩
  | true =>
    have he : L ++ gE step go ⟨k, t, F⟩ = (L ++ step ⟨k, t, F⟩) ++ (F.els.take F.els.length).flatMap (gE step go) := by
      have e : gE step go ⟨k, t, F⟩ = step ⟨k, t, F⟩ ++ (if go ⟨k, t, F⟩ then gF step go F else []) := rfl
      rw [e, hgo, if_pos rfl, List.take_length, gF_flat, List.append_assoc]
    have He := Lib.hid he
    clear he
    go_wp2
    go_loopw [13] (fun i wx => ∃ (j : Nat) (u : Value), j ≤ F.els.length ∧ i = .int .i64 j ∧ T wx ((L ++ step ⟨k, t, F⟩) ++ (F.els.take j).flatMap (gE step go)) u ∧ Grow2 gb w v wx u ∧ Below W0.heap.size W0 wx) (fun i _ => F.els.length - (intOf i).toNat)
    case atStart => exact ⟨0, v2, Nat.zero_le _, rfl, by simpa using HT2.out, HG2.out, HB2.out⟩
    case round =>
      clear x0 x1 x2 HT2 HG2 HB2
      obtain ⟨j, u, hj, rfl, hT3, hG3, hB3⟩ := hrel
      by_cases hlt : j < F.els.length
      · obtain ⟨a, ha, c0, c1, ao', cap', c2, hk'⟩ := HK.out.nth j hlt
        have hmem : F.els[j] ∈ F.els := List.getElem_mem _
        have IHj := HIH.out _ hmem
        have hft := gflat_cTo step go HCC.out.one F j hj
        have hct := cTo_succ F j hlt
        have hcl2 := cTo_le F (j + 1) (by omega)
        have htf := gtake step go F j hlt
        generalize F.els[j] = e at *
        obtain ⟨ek, et, eks⟩ := e
        subst ha
        replace hct : cTo F (j + 1) = cTo F j + (1 + cF eks) := hct
        have lift : ∀ {x : Addr} {u : Value}, W0.cell? x = some u → wr.cell? x = some u := fun hx => by rw [hB3.cell (World.block_lt_of_cell? _ _ hx)]; exact hx
        have c0 := lift c0; have c1 := lift c1; have c2 := lift c2
        have b4 : Below wr.heap.size wr (wr.alloc (.cells #[.int .i64 ek, .int .i64 et, .slice ao' eks.els.length cap'] 26)) := (Below.refl _ _).alloc (Nat.le_refl _) _
        have hcall := IHj _ ek et ao' cap' _ u (below_step hB3 b4) hk' (by
          rw [List.length_append, List.length_append]; show _ + cF eks < _; omega) (HCC.out.below _ _ _ _ hT3 b4)
        have HCall := Lib.hid hcall; have HTF := Lib.hid htf; have HG3 := Lib.hid (hG3.trans (Grow2.of_below u b4)); have HOW := Lib.hid (HCC.out.own _ _ _ hT3); have HB3 := Lib.hid (below_step hB3 b4)
        have HOW2 := Lib.hid (HCC.out.own _ _ _ (HCC.out.below _ _ _ _ hT3 b4))
        clear lift hcall htf IHj hk' hmem hft hct hcl2 hT3 hG3 hB3 b4
        unfold nodeV at HCall
        go_wp2_with (with_reducible refine halt_call ?_)
        refine Halted.run (HCall.out.mono ?_); rintro r w5 ⟨rfl, v5, hT5, hG5⟩
        have hB5 := Grow2.below HB3.out hG5 HCC.out.gb (fun g hg => (HOW2.out.1 g hg).1)
        have HT5 := Lib.hid hT5; have HG5 := Lib.hid (HG3.out.trans hG5); have HB5 := Lib.hid hB5
        clear hT5 hG5 hB5 HCall HG3 HB3
        go_wp2
        refine ⟨⟨j + 1, v5, by omega, by go_num, ?_, HG5.out, HB5.out⟩, by simp [intOf]; omega⟩
        rw [HTF.out, ← List.append_assoc]
        exact HT5.out
      · have hje : j = F.els.length := by omega
        subst hje
        have HT3 := Lib.hid hT3; have HG3 := Lib.hid hG3
        clear hT3 hG3 hB3
        go_wp2
        go_end0
        exact ⟨rfl, u, by rw [He.out]; exact HT3.out, HG3.out⟩
end Go.Proofs.Ytknhignklepgeaa
