/- NodeBuild. -/
import Derived.Test.YtknhignklepgeaaLst
import Derived.Deep.RegionHeld3
import Derived.Deep.RegionWith
import Derived.BigQuiet
namespace Go.Proofs.Ytknhignklepgeaa
open Go.RowKit

attribute [local go_sem high] run_max_mx
/-- Two trees in a slice. -/
def two (k t : Int) (F : Fo) (k' t' : Int) (F' : Fo) : Fo := .cons k t F (.cons k' t' F' .nil)
theorem two_kids {w : World} {b : Nat} {k t k' t' : Int} {F F' : Fo} {ao ao' : Option Addr} {cap cap' : Nat} (h : w.heap[b]? = some (.cells #[.int .i64 k, .int .i64 t, .slice ao F.els.length cap, .int .i64 k', .int .i64 t', .slice ao' F'.els.length cap'] 26 (0, 0)))
    (h1 : KidsV w ao cap F) (h2 : KidsV w ao' cap' F') : KidsV w (some ⟨b, 0, none⟩) 2 (two k t F k' t' F') := by
  obtain ⟨p1, p2, a1, p3, p4⟩ := h1
  obtain ⟨q1, q2, a2, q3, q4⟩ := h2
  refine ⟨Nat.le_refl _, by decide, ⟨b, 0, none⟩, .inr rfl, ?_⟩
  exact ⟨by rw [add_at]; exact blk_cell h 0, by rw [add_at]; exact blk_cell h 1, ⟨ao, cap, a1, by rw [add_at]; exact blk_cell h 2, p1, p2, p3, p4⟩, by rw [add_at]; exact blk_cell h 3, by rw [add_at]; exact blk_cell h 4, ⟨ao', cap', a2, by rw [add_at]; exact blk_cell h 5, q1, q2, q3, q4⟩, trivial⟩
/-- Four blocks laid. -/
theorem lay_four (w : World) (o1 o2 o3 o4 : Obj) : ((((w.alloc o1).alloc o2).alloc o3).alloc o4).heap[w.heap.size]? = some o1 ∧ ((((w.alloc o1).alloc o2).alloc o3).alloc o4).heap[w.heap.size + 1]? = some o2 ∧ ((((w.alloc o1).alloc o2).alloc o3).alloc o4).heap[w.heap.size + 1 + 1]? = some o3 ∧ ((((w.alloc o1).alloc o2).alloc o3).alloc o4).heap[w.heap.size + 1 + 1 + 1]? = some o4 ∧
    Below w.heap.size w ((((w.alloc o1).alloc o2).alloc o3).alloc o4) := by
  obtain ⟨p1, p2, p3, p4⟩ := lay_two w o1 o2
  obtain ⟨q1, q2, q3, q4⟩ := lay_two ((w.alloc o1).alloc o2) o3 o4
  rw [p4] at q1 q2
  exact ⟨(q3.block _ (by omega)).trans p1, (q3.block _ (by omega)).trans p2, q1, q2, below_step p3 q3⟩
theorem fE_len (tok : Int) (e : El) : (fE tok e).length ≤ 1 + cF e.kids := by
  have h1 : ∀ e, (stepT tok e).length ≤ 1 := fun e => by unfold stepT; split <;> simp
  have h2 := gF_len (stepT tok) (fun _ => true) h1 e.kids
  have h3 := h1 e
  unfold fE gE
  rw [if_pos rfl, List.length_append]
  omega
theorem RowN.drew {W0 w : World} {v : Value} {L : List El} (h : RowN W0 w v L) : RowN W0 w.drew v L := h.keep (fun _ _ => rfl)
theorem dF_le : ∀ F : Fo, dF F ≤ cF F
  | .nil => Nat.le_refl _
  | .cons k t kids rest => by
    have h1 := dF_le kids
    have h2 := dF_le rest
    show max (dF kids + 1) (dF rest) ≤ 1 + cF kids + cF rest
    omega
theorem mx_two (a b : Nat) : ((max (a + 1) (max (b + 1) 0) : Nat) : Int) = mxI ((a : Int) + 1) ((b : Int) + 1) := by
  unfold mxI
  split <;> omega
/-- A list of one node, laid in a block of its own. -/
theorem rowN_one {W0 w : World} {k t : Int} {ao : Option Addr} {n cap : Nat} {F : Fo} (hn : F.els.length = n) (hb : W0.heap.size ≤ w.heap.size) (hk : KidsV W0 ao cap F) : RowN W0 (w.alloc (.cells #[.int .i64 k, .int .i64 t, .slice ao n cap] 26)) (.slice (some ⟨w.heap.size, 0, none⟩) 1 1) [⟨k, t, F⟩] := by
  subst hn
  refine ⟨[⟨⟨k, t, F⟩, ao, cap⟩], rfl, ⟨rfl, .inr ⟨w.heap.size, 1, #[.int .i64 k, .int .i64 t, .slice ao F.els.length cap], rfl, hb, blk_new w _, Nat.le_refl _, by decide, rfl, rfl⟩⟩, fun c hc => ?_⟩
  rw [List.mem_singleton] at hc
  subst hc
  exact hk
set_option maxHeartbeats 4000000 in
theorem nodeBuild_walk (a0 : Option Addr) (len0 cap0 : Nat) (z : List Int) (b0 : Option Addr) (len1 cap1 : Nat) (y : List Int) (kind tok : Int) (w : World) (n0 : len0 = z.length) (l0 : len0 ≤ cap0) (c0 : cap0 ≤ 9223372036854775807) (r0 : Rd .i64 w a0 z)
    (n1 : len1 = y.length) (l1 : len1 ≤ cap1) (c1 : cap1 ≤ 9223372036854775807) (r1 : Rd .i64 w b0 y) :
    Calls Try.prog 5 #[.slice a0 len0 cap0, .slice b0 len1 cap1, .int .i64 kind, .int .i64 tok] w fun e w' => e = .returned (.bool true) ∧ Below w.heap.size w w' := by
  subst n0 n1
  obtain ⟨k, t, F, hsm, hcnt, hT⟩ := tree_made w a0 cap0 z l0 c0 r0
  obtain ⟨k', t', F', hsm', hcnt', hT'⟩ := tree_made w b0 cap1 y l1 c1 r1
  have HB := Lib.hid (begun_any w)
  have HT := Lib.hid hT; have HT' := Lib.hid hT'
  clear hT hT' r0 r1 hsm hsm'
  go_enter Try.func5, Try.ntmps5
  go_wp2_with (with_reducible refine halt_call ?_)
  refine Halted.run (HB.out.mono ?_); rintro r w1 ⟨rfl, hb1⟩
  have HC1 := Lib.hid (HT.out w1 hb1)
  clear HB hb1 HT
  go_wp2_with (with_reducible refine halt_call ?_)
  refine Halted.run (HC1.out.mono ?_); rintro r w2 ⟨ao, cap, rfl, hb2, hb2', hk⟩
  have HC2 := Lib.hid (HT'.out w2 hb2)
  have HK := Lib.hid hk.kids
  clear HC1 hb2 hk hb2' HT'
  go_wp2_with (with_reducible refine halt_call ?_)
  refine Halted.run (HC2.out.mono ?_); rintro r w3 ⟨ao', cap', rfl, hb3, hb3', hk'⟩
  have HK1 := Lib.hid (HK.out.below hb3')
  have HK' := Lib.hid hk'.kids; have HB3 := Lib.hid hb3
  clear HC2 hb3 hk' hb3' HK
  go_upto_region 6 with fail
  obtain ⟨z0, z1, z2, z3, hb4⟩ := lay_four w3 (.cells #[.int .i64 k, .int .i64 t, .slice ao F.els.length cap] 26) (.cells #[.int .i64 k', .int .i64 t', .slice ao' F'.els.length cap'] 26) (.cells #[.int .i64 k, .int .i64 t, .slice ao F.els.length cap, .int .i64 k', .int .i64 t', .slice ao' F'.els.length cap'] 26) (.cells #[.int .i64 kind, .int .i64 tok, .slice (some ⟨w3.heap.size + 1 + 1, 0, none⟩) 2 2] 26)
  generalize hw4 : (((w3.alloc (.cells #[.int .i64 k, .int .i64 t, .slice ao F.els.length cap] 26)).alloc (.cells #[.int .i64 k', .int .i64 t', .slice ao' F'.els.length cap'] 26)).alloc (.cells #[.int .i64 k, .int .i64 t, .slice ao F.els.length cap, .int .i64 k', .int .i64 t', .slice ao' F'.els.length cap'] 26)).alloc (.cells #[.int .i64 kind, .int .i64 tok, .slice (some ⟨w3.heap.size + 1 + 1, 0, none⟩) 2 2] 26) = w4 at *
  clear hw4
  have kn := HK1.out.below hb4
  have km := HK'.out.below hb4
  have kx := two_kids z2 kn km
  have HB4 := Lib.hid (below_step HB3.out hb4)
  have hcells : ∀ W, Below w4.heap.size w4 W →
      (W.cell? ⟨w3.heap.size, 0, none⟩ = some (.int .i64 k) ∧ W.cell? ⟨w3.heap.size, 1, none⟩ = some (.int .i64 t) ∧ W.cell? ⟨w3.heap.size, 2, none⟩ = some (.slice ao F.els.length cap)) ∧
      (W.cell? ⟨w3.heap.size + 1, 0, none⟩ = some (.int .i64 k') ∧ W.cell? ⟨w3.heap.size + 1, 1, none⟩ = some (.int .i64 t') ∧ W.cell? ⟨w3.heap.size + 1, 2, none⟩ = some (.slice ao' F'.els.length cap')) ∧
      (W.cell? ⟨w3.heap.size + 1 + 1 + 1, 0, none⟩ = some (.int .i64 kind) ∧ W.cell? ⟨w3.heap.size + 1 + 1 + 1, 1, none⟩ = some (.int .i64 tok) ∧ W.cell? ⟨w3.heap.size + 1 + 1 + 1, 2, none⟩ = some (.slice (some ⟨w3.heap.size + 1 + 1, 0, none⟩) 2 2)) := fun W hb => by
    exact ⟨tri_cells ((hb.block _ (Array.getElem?_eq_some_iff.1 z0).1).trans z0), tri_cells ((hb.block _ (Array.getElem?_eq_some_iff.1 z1).1).trans z1), tri_cells ((hb.block _ (Array.getElem?_eq_some_iff.1 z3).1).trans z3)⟩
  obtain ⟨c1', hc1, u1, u2⟩ : ∃ x : Int, x = 1 + (cF F : Int) ∧ 0 ≤ x ∧ x ≤ 41 := ⟨_, rfl, by omega, by omega⟩
  obtain ⟨c2', hc2, u3, u4⟩ : ∃ x : Int, x = 1 + (cF F' : Int) ∧ 0 ≤ x ∧ x ≤ 41 := ⟨_, rfl, by omega, by omega⟩
  have hd1 := dF_le F
  have hd2 := dF_le F'
  obtain ⟨d1', hd1', u5, u6⟩ : ∃ x : Int, x = (dF F : Int) + 1 ∧ 0 ≤ x ∧ x ≤ 41 := ⟨_, rfl, by omega, by omega⟩
  obtain ⟨d2', hd2', u7, u8⟩ : ∃ x : Int, x = (dF F' : Int) + 1 ∧ 0 ≤ x ∧ x ≤ 41 := ⟨_, rfl, by omega, by omega⟩
  have hX1 : (1 + (cF (two k t F k' t' F') : Int)) = c1' + c2' + 1 := by
    have : cF (two k t F k' t' F') = 1 + cF F + (1 + cF F' + 0) := rfl
    omega
  have hX2 : ((dF (two k t F k' t' F') : Int) + 1) = mxI d1' d2' + 1 := by
    have : dF (two k t F k' t' F') = max (dF F + 1) (max (dF F' + 1) 0) := rfl
    rw [this, mx_two, hd1', hd2']
  have hX3 : cF (two k t F k' t' F') ≤ 82 := by omega
  have hX4 := dF_le (two k t F k' t' F')
  have hmx : 0 ≤ mxI d1' d2' ∧ mxI d1' d2' ≤ 41 := by unfold mxI; split <;> omega
  have hcx : ∀ W, Below w4.heap.size w4 W → Calls Try.prog 10 #[.agg #[.int .i64 kind, .int .i64 tok, .slice (some ⟨w3.heap.size + 1 + 1, 0, none⟩) 2 2]] W fun r w' => r = .returned (.int .i64 (c1' + c2' + 1)) ∧ Below w4.heap.size w4 w' := fun W hb =>
    (count_any (two k t F k' t' F') W kind tok _ 2 (kx.below hb) (by omega)).mono (fun r w' h => ⟨by rw [h.1, hX1], below_step hb h.2⟩)
  have hcn : ∀ W, Below w4.heap.size w4 W → Calls Try.prog 10 #[.agg #[.int .i64 k, .int .i64 t, .slice ao F.els.length cap]] W fun r w' => r = .returned (.int .i64 c1') ∧ Below w4.heap.size w4 w' := fun W hb =>
    (count_any F W k t _ _ (kn.below hb) (by omega)).mono (fun r w' h => ⟨by rw [h.1, hc1], below_step hb h.2⟩)
  have hcm : ∀ W, Below w4.heap.size w4 W → Calls Try.prog 10 #[.agg #[.int .i64 k', .int .i64 t', .slice ao' F'.els.length cap']] W fun r w' => r = .returned (.int .i64 c2') ∧ Below w4.heap.size w4 w' := fun W hb =>
    (count_any F' W k' t' _ _ (km.below hb) (by omega)).mono (fun r w' h => ⟨by rw [h.1, hc2], below_step hb h.2⟩)
  have hdx : ∀ W, Below w4.heap.size w4 W → Calls Try.prog 12 #[.agg #[.int .i64 kind, .int .i64 tok, .slice (some ⟨w3.heap.size + 1 + 1, 0, none⟩) 2 2]] W fun r w' => r = .returned (.int .i64 (mxI d1' d2' + 1)) ∧ Below w4.heap.size w4 w' := fun W hb =>
    (deep_any (two k t F k' t' F') W kind tok _ 2 (kx.below hb) (by omega)).mono (fun r w' h => ⟨by rw [h.1, hX2], below_step hb h.2⟩)
  have hdn : ∀ W, Below w4.heap.size w4 W → Calls Try.prog 12 #[.agg #[.int .i64 k, .int .i64 t, .slice ao F.els.length cap]] W fun r w' => r = .returned (.int .i64 d1') ∧ Below w4.heap.size w4 w' := fun W hb =>
    (deep_any F W k t _ _ (kn.below hb) (by omega)).mono (fun r w' h => ⟨by rw [h.1, hd1'], below_step hb h.2⟩)
  have hdm : ∀ W, Below w4.heap.size w4 W → Calls Try.prog 12 #[.agg #[.int .i64 k', .int .i64 t', .slice ao' F'.els.length cap']] W fun r w' => r = .returned (.int .i64 d2') ∧ Below w4.heap.size w4 w' := fun W hb =>
    (deep_any F' W k' t' _ _ (km.below hb) (by omega)).mono (fun r w' h => ⟨by rw [h.1, hd2'], below_step hb h.2⟩)
  obtain ⟨LA, hLA, lA⟩ : ∃ L : List El, L = fE tok ⟨k, t, F⟩ ∧ L.length ≤ 41 := ⟨_, rfl, Nat.le_trans (fE_len _ _) hcnt⟩
  obtain ⟨LB, hLB, lB⟩ : ∃ L : List El, L = fE tok ⟨k', t', F'⟩ ∧ L.length ≤ 41 := ⟨_, rfl, Nat.le_trans (fE_len _ _) hcnt'⟩
  have hLX : fE tok ⟨kind, tok, two k t F k' t' F'⟩ = [⟨kind, tok, two k t F k' t' F'⟩] ++ LA ++ LB := by rw [hLA, hLB]; exact find_two k k' t' tok t F F' kind
  have hfx : ∀ W, Below w4.heap.size w4 W → Calls Try.prog 19 #[.agg #[.int .i64 kind, .int .i64 tok, .slice (some ⟨w3.heap.size + 1 + 1, 0, none⟩) 2 2], .int .i64 tok] W fun r w' => ∃ v, r = .returned v ∧ RowN w4 w' v ([⟨kind, tok, two k t F k' t' F'⟩] ++ LA ++ LB) ∧ Below W.heap.size W w' ∧ ∀ g, v.ownBlock = some g → W.heap.size ≤ g := fun W hb =>
    hLX ▸ find_any w4 W kind tok _ 2 tok (two k t F k' t' F') hb kx (by omega)
  have hfn : ∀ W, Below w4.heap.size w4 W → Calls Try.prog 19 #[.agg #[.int .i64 k, .int .i64 t, .slice ao F.els.length cap], .int .i64 tok] W fun r w' => ∃ v, r = .returned v ∧ RowN w4 w' v LA ∧ Below W.heap.size W w' ∧ ∀ g, v.ownBlock = some g → W.heap.size ≤ g := fun W hb =>
    hLA ▸ find_any w4 W k t _ _ tok F hb kn (by omega)
  have hfm : ∀ W, Below w4.heap.size w4 W → Calls Try.prog 19 #[.agg #[.int .i64 k', .int .i64 t', .slice ao' F'.els.length cap'], .int .i64 tok] W fun r w' => ∃ v, r = .returned v ∧ RowN w4 w' v LB ∧ Below W.heap.size W w' ∧ ∀ g, v.ownBlock = some g → W.heap.size ≤ g := fun W hb =>
    hLB ▸ find_any w4 W k' t' _ _ tok F' hb km (by omega)
  have b00 : Below w4.heap.size w4 w4.drew := (Below.refl _ _).drew
  have HCX := Lib.hid hcx; have HCN := Lib.hid hcn; have HCM := Lib.hid hcm; have HDX := Lib.hid hdx; have HDN := Lib.hid hdn; have HDM := Lib.hid hdm
  have HFX := Lib.hid hfx; have HFN := Lib.hid hfn; have HFM := Lib.hid hfm; have HCELLS := Lib.hid hcells; have B00 := Lib.hid b00; have HKX := Lib.hid kx
  clear hcx hcn hcm hdx hdn hdm hfx hfn hfm hcells b00 kn km kx z0 z1 z2 z3 hb4 HK1 HK' HB3 hX1 hX2 hX3 hX4 hc1 hc2 hd1 hd2 hd1' hd2' hcnt hcnt' hLA hLB hLX
  obtain ⟨hm1, hm2⟩ := hmx
  have v1 : IntKind.i64.wrap (c1' + c2') = c1' + c2' := IntWalk.i64_in _ (by omega)
  have v2 : IntKind.i64.wrap (c1' + c2' + 1) = c1' + c2' + 1 := IntWalk.i64_in _ (by omega)
  have v3 : IntKind.i64.wrap (mxI d1' d2' + 1) = mxI d1' d2' + 1 := IntWalk.i64_in _ (by omega)
  go_region_held3 (fun W => (W.cell? ⟨w3.heap.size, 0, none⟩ = some (.int .i64 k) ∧ W.cell? ⟨w3.heap.size, 1, none⟩ = some (.int .i64 t) ∧ W.cell? ⟨w3.heap.size, 2, none⟩ = some (.slice ao F.els.length cap)) ∧
      (W.cell? ⟨w3.heap.size + 1, 0, none⟩ = some (.int .i64 k') ∧ W.cell? ⟨w3.heap.size + 1, 1, none⟩ = some (.int .i64 t') ∧ W.cell? ⟨w3.heap.size + 1, 2, none⟩ = some (.slice ao' F'.els.length cap')) ∧
      (W.cell? ⟨w3.heap.size + 1 + 1 + 1, 0, none⟩ = some (.int .i64 kind) ∧ W.cell? ⟨w3.heap.size + 1 + 1 + 1, 1, none⟩ = some (.int .i64 tok) ∧ W.cell? ⟨w3.heap.size + 1 + 1 + 1, 2, none⟩ = some (.slice (some ⟨w3.heap.size + 1 + 1, 0, none⟩) 2 2)))
    ((first | assumption | exact HCELLS.out _ B00.out | exact HCELLS.out _ hb10 | exact HCELLS.out _ hb9 | exact HCELLS.out _ hb8 | exact HCELLS.out _ hb7 | exact HCELLS.out _ hb6 | exact HCELLS.out _ hb5))
    ((first
      | (go_at_call 10; with_reducible refine (HCX.out _ B00.out).mono ?_; rintro r w5 ⟨rfl, hb5⟩)
      | (go_at_call 10; with_reducible refine (HCN.out _ hb5).mono ?_; rintro r w6 ⟨rfl, hb6⟩)
      | (go_at_call 10; with_reducible refine (HCM.out _ hb6).mono ?_; rintro r w7 ⟨rfl, hb7⟩)
      | (go_at_call 12; with_reducible refine (HDX.out _ hb7).mono ?_; rintro r w8 ⟨rfl, hb8⟩)
      | (go_at_call 12; with_reducible refine (HDN.out _ hb8).mono ?_; rintro r w9 ⟨rfl, hb9⟩)
      | (go_at_call 12; with_reducible refine (HDM.out _ hb9).mono ?_; rintro r w10 ⟨rfl, hb10⟩)))
  clear B00 HCX HCN HCM HDX HDN HDM v1 v2 v3 hb5 hb6 hb7 hb8 hb9 hm1 hm2 u1 u2 u3 u4 u5 u6 u7 u8
  have BD := Lib.hid hb10.drew
  have BA := Lib.hid (hb10.alloc hb10.size (.cells #[.int .i64 kind, .int .i64 tok, .slice (some ⟨w3.heap.size + 1 + 1, 0, none⟩) 2 2] 26)).drew
  have RA := Lib.hid (rowN_one (w := w10) (k := kind) (t := tok) (n := 2) (F := two k t F k' t' F') rfl hb10.size HKX.out).drew
  have RB := Lib.hid (fun (W : World) (h : Below w4.heap.size w4 W) => rowN_one (w := W) (k := kind) (t := tok) (n := 2) (F := two k t F k' t' F') rfl h.size HKX.out)
  have BB := Lib.hid (fun (W : World) (h : Below w4.heap.size w4 W) => h.alloc h.size (.cells #[.int .i64 kind, .int .i64 tok, .slice (some ⟨w3.heap.size + 1 + 1, 0, none⟩) 2 2] 26))
  clear hb10
  go_upto_region 8 with fail
  go_region_held3 (fun W => (W.cell? ⟨w3.heap.size, 0, none⟩ = some (.int .i64 k) ∧ W.cell? ⟨w3.heap.size, 1, none⟩ = some (.int .i64 t) ∧ W.cell? ⟨w3.heap.size, 2, none⟩ = some (.slice ao F.els.length cap)) ∧
      (W.cell? ⟨w3.heap.size + 1, 0, none⟩ = some (.int .i64 k') ∧ W.cell? ⟨w3.heap.size + 1, 1, none⟩ = some (.int .i64 t') ∧ W.cell? ⟨w3.heap.size + 1, 2, none⟩ = some (.slice ao' F'.els.length cap')) ∧
      (W.cell? ⟨w3.heap.size + 1 + 1 + 1, 0, none⟩ = some (.int .i64 kind) ∧ W.cell? ⟨w3.heap.size + 1 + 1 + 1, 1, none⟩ = some (.int .i64 tok) ∧ W.cell? ⟨w3.heap.size + 1 + 1 + 1, 2, none⟩ = some (.slice (some ⟨w3.heap.size + 1 + 1, 0, none⟩) 2 2)))
    ((first | assumption | exact HCELLS.out _ BD.out | exact HCELLS.out _ BA.out | exact HCELLS.out _ BF.out | exact HCELLS.out _ BFA.out | exact HCELLS.out _ BF2.out | exact HCELLS.out _ BF3.out | exact HCELLS.out _ BF4.out))
    ((first
      | (refine stepN_append (by rfl) (.tmp 50) (.tmp 53) (by rfl) w4 _ _ _ _ (by rfl) (by rfl) HRX2.out HRA2.out (by simp; omega) BFA.out.size ?_; intro v12 w12 hr12 hg12; have HR12 := Lib.hid hr12; have BF2 := Lib.hid (Grow.below BFA.out hg12 (fun g hg => (HRX2.out.lt g hg).2)); clear hr12 hg12)
      | (refine stepN_append (by rfl) (.tmp 50) (.tmp 53) (by rfl) w4 _ _ _ _ (by rfl) (by rfl) HRX.out HRA.out (by simp; omega) BF.out.size ?_; intro v12 w12 hr12 hg12; have HR12 := Lib.hid hr12; have BF2 := Lib.hid (Grow.below BF.out hg12 (fun g hg => (HRX.out.lt g hg).2)); clear hr12 hg12)
      | (refine stepN_append (by rfl) (.tmp 54) (.tmp 57) (by rfl) w4 _ _ _ _ (by rfl) (by rfl) HR13.out HRB.out (by simp; omega) BF3.out.size ?_; intro v14 w14 hr14 hg14; have HR14 := Lib.hid hr14; have BF4 := Lib.hid (Grow.below BF3.out hg14 (fun g hg => (HR13.out.lt g hg).2)); clear hr14 hg14)
      | (go_simp; go_at_call 19; (with_reducible refine (HFM.out _ BF2.out).mono ?_); rintro r w13 ⟨vb, rfl, hrb, hbb, -⟩; have HRB := Lib.hid hrb; have HR13 := Lib.hid (HR12.out.below hbb); have BF3 := Lib.hid (below_step BF2.out hbb); clear hrb hbb)
      | (go_simp; go_at_call 19; (with_reducible refine (HFN.out _ BA.out).mono ?_); rintro r w11 ⟨va, rfl, hra, hba, -⟩; have HRA := Lib.hid hra; have HRX := Lib.hid (RA.out.below hba); have BF := Lib.hid (below_step BA.out hba); clear hra hba)
      | (go_simp; go_at_call 19; (with_reducible refine (HFN.out _ BD.out).mono ?_); rintro r w11 ⟨va, rfl, hra, hba, -⟩; have HRA2 := Lib.hid (hra.below ((Below.refl w11.heap.size w11).alloc (Nat.le_refl _) (.cells #[.int .i64 kind, .int .i64 tok, .slice (some ⟨w3.heap.size + 1 + 1, 0, none⟩) 2 2] 26))); have BF := Lib.hid (below_step BD.out hba); have BFA := Lib.hid (BB.out _ BF.out); have HRX2 := Lib.hid (RB.out _ BF.out); clear hra hba)))
  all_goals
    have hlen : ([⟨kind, tok, two k t F k' t' F'⟩] ++ LA ++ LB : List El).length ≤ 83 := by simp; omega
    have HF := Lib.hid (HFX.out w14 BF4.out)
    have HR := Lib.hid HR14.out
    obtain ⟨-, -, x0, x1, x2⟩ := HCELLS.out w14 BF4.out
    have HB14 := Lib.hid BF4.out
    have HBB := Lib.hid (below_step HB4.out BF4.out)
    clear HR14 HR13 HRB HR12 BF BF2 BF3 BF4 BD BA RA RB BB HFX HFN HFM HCELLS HKX HB4
    generalize ([⟨kind, tok, two k t F k' t' F'⟩] ++ LA ++ LB : List El) = L at *
    obtain ⟨vo, vc, rfl⟩ := HR.out.form
    obtain ⟨-, q1, q2⟩ := HR.out.caps
    go_wp2_with (with_reducible refine halt_call ?_)
    refine Halted.run (HF.out.mono ?_); rintro r w15 ⟨v15, rfl, hr15, hb15, -⟩
    obtain ⟨vo', vc', rfl⟩ := hr15.form
    obtain ⟨-, q3, q4⟩ := hr15.caps
    have HR1 := Lib.hid (HR.out.below hb15); have HR2 := Lib.hid hr15; have HB15 := Lib.hid (below_step HB14.out hb15); have HBB' := Lib.hid (below_step HBB.out hb15)
    clear HF hr15 hb15 HR HB14 HBB x0 x1 x2
    go_wp2_with fail
    go_loopw [15] (fun i wx => ∃ j : Nat, j ≤ L.length ∧ i = .int .i64 j ∧ Below w15.heap.size w15 wx) (fun i _ => L.length - (intOf i).toNat)
    case atStart => exact ⟨0, Nat.zero_le _, rfl, Below.refl _ _⟩
    case round =>
      obtain ⟨j, hj, rfl, hB⟩ := hrel
      by_cases hlt : j < L.length
      · obtain ⟨g, ao1, cap1, hvo, c0, c1, c2, hk1⟩ := (HR1.out.below hB).nth j hlt
        obtain ⟨g', ao2, cap2, hvo', d0, d1, d2, hk2⟩ := (HR2.out.below hB).nth j hlt
        generalize L[j] = e at *
        obtain ⟨ek, et, eks⟩ := e
        have b1 := below_step HB15.out hB
        have hcall := eqR_any eks eks wr.drew ek et ek et ao2 ao1 cap2 cap1 (hk2.below b1.drew) (hk1.below b1.drew)
        have hself : (ek == ek && et == et && eqF eks eks) = true := by rw [eqF_self]; simp
        rw [hself] at hcall
        have HC := Lib.hid hcall; have HB := Lib.hid hB
        clear hcall hself hB hk1 hk2 b1
        subst hvo hvo'
        unfold nodeV at HC
        go_wp2_with fail
        go_region_with (first | (go_at_call 9; (with_reducible refine (HC.out).mono ?_); rintro e w17 ⟨rfl, hb17⟩))
        all_goals go_wp2
        all_goals exact ⟨⟨j + 1, by omega, by go_num, below_step HB.out.drew hb17⟩, by simp [intOf]; omega⟩
      · have hje : j = L.length := by omega
        subst hje
        have HB := Lib.hid (below_step HBB'.out hB)
        clear hB
        go_wp2_with fail
        go_ret
        exact ⟨rfl, HB.out⟩
end Go.Proofs.Ytknhignklepgeaa
