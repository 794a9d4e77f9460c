/- NodeTurn. -/
import Derived.Test.YtknhignklepgeaaBeg
import Derived.Test.YtknhignklepgeaaTrn
namespace Go.Proofs.Ytknhignklepgeaa
open Go.RowKit

def nodeC (k t : Int) (ao : Option Addr) (n cap : Nat) : Obj := .cells #[.int .i64 k, .int .i64 t, .slice ao n cap] 26 (0, 0)
/-- The tree of a list, wherever it is made. -/
theorem tree_made (w : World) (la : Option Addr) (lc : Nat) (l : List Int) (hl1 : l.length ≤ lc) (hl2 : lc ≤ 9223372036854775807) (hrd : Rd .i64 w la l) : ∃ k t F, SmallE ⟨k, t, F⟩ ∧ 1 + cF F ≤ 41 ∧
    ∀ W, Below w.heap.size w W → Calls Try.prog 7 #[.slice la l.length lc] W fun r w' => ∃ ao cap, r = .returned (.agg #[.int .i64 k, .int .i64 t, .slice ao F.els.length cap]) ∧ Below w.heap.size w w' ∧ Below W.heap.size W w' ∧ KI w' W.heap.size w'.heap.size ao cap F := by
  refine ⟨(treeE l).k, (treeE l).t, (treeE l).kids, treeE_small l, treeE_count l, fun W hb => (tree_any W la lc l hl1 hl2 (hrd.below hb)).mono ?_⟩
  rintro r w' ⟨ao, cap, rfl, h1, h2⟩
  exact ⟨ao, cap, rfl, below_step hb h1, h1, h2⟩
/-- Two blocks laid. -/
theorem lay_two (w : World) (o o' : Obj) : ((w.alloc o).alloc o').heap[w.heap.size]? = some o ∧ ((w.alloc o).alloc o').heap[w.heap.size + 1]? = some o' ∧ Below w.heap.size w ((w.alloc o).alloc o') ∧ ((w.alloc o).alloc o').heap.size = w.heap.size + 2 := by
  refine ⟨(((Below.refl _ _).alloc (Nat.le_refl _) _).block _ (by simp)).trans (blk_new w o), ?_, ((Below.refl _ _).alloc (Nat.le_refl _) _).alloc (by simp) _, by simp⟩
  have := blk_new (w.alloc o) o'
  rw [World.size_alloc] at this
  exact this
set_option maxHeartbeats 4000000 in
theorem nodeTurn_walk (a0 : Option Addr) (len0 cap0 : Nat) (z : List Int) (at' : Int) (kind : Bool) (w : World) (n0 : len0 = z.length) (l0 : len0 ≤ cap0) (c0 : cap0 ≤ 9223372036854775807) (r0 : Rd .i64 w a0 z) (hat1 : -9223372036854775808 ≤ at') (hat2 : at' ≤ 9223372036854775807) :
    Calls Try.prog 4 #[.slice a0 len0 cap0, .int .i64 at', .bool kind] w fun e w' => e = .returned (.bool true) ∧ Below w.heap.size w w' := by
  subst n0
  obtain ⟨k, t, F, hsm, hcnt, hT⟩ := tree_made w a0 cap0 z l0 c0 r0
  have HB := Lib.hid (begun_any w)
  have HT := Lib.hid hT
  have HSM := Lib.hid hsm
  clear hT r0 hsm
  go_enter Try.func4, Try.ntmps4
  go_wp2_with (with_reducible refine halt_call ?_)
  refine Halted.run (HB.out.mono ?_); rintro r w1 ⟨rfl, hb1⟩
  have HC1 := Lib.hid (HT.out w1 hb1)
  have hs1 := hb1.size
  clear HB hb1
  go_wp2_with (with_reducible refine halt_call ?_)
  refine Halted.run (HC1.out.mono ?_); rintro r w2 ⟨ao1, cap1, rfl, hb2, hb2', hk1⟩
  have HC2 := Lib.hid (HT.out w2 hb2)
  have HK1 := Lib.hid hk1
  have hs2 := hb2'.size
  clear HC1 hb2 hk1 hb2' HT
  go_wp2_with (with_reducible refine halt_call ?_)
  refine Halted.run (HC2.out.mono ?_); rintro r w3 ⟨ao2, cap2, rfl, hb3, hb3', hk2⟩
  have HK1' := Lib.hid (HK1.out.keep (fun b _ q2 => hb3'.block b q2))
  have HK2 := Lib.hid hk2; have HB3 := Lib.hid hb3
  have hs3 := hb3'.size
  clear HC2 hb3 hk2 hb3' HK1
  go_upto_region 5 with fail
  obtain ⟨z0, z1, hb4, hs4⟩ := lay_two w3 (.cells #[.int .i64 k, .int .i64 t, .slice ao1 F.els.length cap1] 26) (.cells #[.int .i64 k, .int .i64 t, .slice ao2 F.els.length cap2] 26)
  generalize hw4 : (w3.alloc (.cells #[.int .i64 k, .int .i64 t, .slice ao1 F.els.length cap1] 26)).alloc (.cells #[.int .i64 k, .int .i64 t, .slice ao2 F.els.length cap2] 26) = w4 at *
  clear hw4
  have HK1 := Lib.hid (HK1'.out.keep (fun b _ q2 => hb4.block b (by omega)))
  have HK2' := Lib.hid (HK2.out.keep (fun b _ q2 => hb4.block b (by omega)))
  have HB4 := Lib.hid (below_step HB3.out hb4)
  have HZ0 := Lib.hid z0; have HZ1 := Lib.hid z1; have HS4 := Lib.hid hs4
  clear z0 z1 hb4 hs4 HK1' HK2 HB3
  by_cases hneg : at' < 0
  · go_wp2_with fail
    go_ret
    exact ⟨rfl, HB4.out⟩
  have hpos : 0 ≤ at' := by omega
  obtain ⟨y0, y1, y2⟩ := tri_cells HZ1.out
  have hcount := count2_any F w4 k t ao2 cap2 HK2'.out.kids (by omega)
  have HC := Lib.hid hcount
  clear hcount
  unfold nodeV at HC
  go_wp2_with (with_reducible refine halt_call ?_)
  refine Halted.run (HC.out.mono ?_); rintro r w5 ⟨rfl, hb5⟩
  have HB5 := Lib.hid hb5
  clear hb5 HC
  go_wp2_with (with_reducible refine halt_call ?_)
  obtain ⟨j, hj, hj1, hj2⟩ : ∃ j : Int, j = at' % (1 + (cF F : Int)) ∧ 0 ≤ j ∧ j < 1 + cF F := ⟨_, rfl, Int.emod_nonneg _ (by omega), Int.emod_lt_of_pos _ (by omega)⟩
  rw [← hj]
  clear hj
  have b6 : Below w4.heap.size w4 (w5.alloc (.cells #[.int .i64 j] 3)) := HB5.out.alloc HB5.out.size _
  have zk := blk_new w5 (.cells #[.int .i64 j] 3)
  have s5 := HB5.out.size
  have s4 := HS4.out
  have sw : w.heap.size ≤ w1.heap.size := hs1
  have l0 := (Array.getElem?_eq_some_iff.1 HZ0.out).1
  have l1 := (Array.getElem?_eq_some_iff.1 HZ1.out).1
  have z0 := (b6.block _ l0).trans HZ0.out
  have z1 := (b6.block _ l1).trans HZ1.out
  obtain ⟨x0, x1, x2⟩ := tri_cells z1
  have s6 : (w5.alloc (.cells #[.int .i64 j] 3)).heap.size = w5.heap.size + 1 := World.size_alloc _ _
  have hcall := turn_any kind F (w5.alloc (.cells #[.int .i64 j] 3)) (w3.heap.size + 1) 0 w5.heap.size w2.heap.size w3.heap.size j k t ao2 cap2 (by omega) (by omega) HSM.out x0 x1 x2 (fun q => blk_free z1 q) zk (HK2'.out.keep (fun b _ q2 => b6.block b (by omega))) (.inr (by omega)) (.inr (by omega)) (by omega) (by omega)
  have k1 := HK1.out.keep (fun b _ q2 => b6.block b (by omega))
  have hb6 := below_step HB4.out b6
  have s2 := hb6.size
  have HC := Lib.hid hcall
  generalize hw6 : w5.alloc (.cells #[.int .i64 j] 3) = w6 at *
  clear hw6
  have hfin : ∀ w7, TDone w6 w7 (w3.heap.size + 1) 0 w5.heap.size w2.heap.size w3.heap.size j k t ao2 cap2 F kind →
      Below w.heap.size w w7 ∧ KI w7 w1.heap.size w2.heap.size ao1 cap1 F ∧ KI w7 w2.heap.size w3.heap.size ao2 cap2 (tF kind (j - 1) F) ∧ ∀ W, Below w7.heap.size w7 W →
        (W.cell? ⟨w3.heap.size, 0, none⟩ = some (.int .i64 k) ∧ W.cell? ⟨w3.heap.size, 1, none⟩ = some (.int .i64 t) ∧ W.cell? ⟨w3.heap.size, 2, none⟩ = some (.slice ao1 F.els.length cap1)) ∧
        (W.cell? ⟨w3.heap.size + 1, 0, none⟩ = some (.int .i64 (tk kind j k)) ∧ W.cell? ⟨w3.heap.size + 1, 1, none⟩ = some (.int .i64 (tt kind j t)) ∧ W.cell? ⟨w3.heap.size + 1, 2, none⟩ = some (.slice ao2 F.els.length cap2)) := fun w7 hd => by
    have s7 := hd.size
    refine ⟨⟨hd.os.trans hb6.os, hd.tape.trans hb6.tape, hd.output.trans hb6.output, by omega, fun q hq => (hd.oth q (by omega) (by omega) (by omega) (by omega)).trans (hb6.block q hq)⟩, k1.keep (fun b q1 q2 => hd.oth b (by omega) (by omega) (by omega) (by omega)), hd.ki, fun W hW => ⟨?_, ?_⟩⟩
    · exact tri_cells ((hW.block _ (by omega)).trans ((hd.oth _ (by omega) (by omega) (by omega) (by omega)).trans z0))
    · have e : ∀ {q v}, w7.cell? ⟨w3.heap.size + 1, q, none⟩ = some v → W.cell? ⟨w3.heap.size + 1, q, none⟩ = some v := fun h => by rw [hW.cell (World.block_lt_of_cell? _ _ h)]; exact h
      exact ⟨e hd.c0, e hd.c1, e ((hd.cells 2 (by omega) (by omega)).trans x2)⟩
  have HF := Lib.hid hfin
  have hturn := eqE_turn kind ⟨k, t, F⟩ j hj1 hj2
  have HTU := Lib.hid hturn
  clear hfin hturn hcall zk z0 z1 x0 x1 x2 y0 y1 y2 k1 b6 HK1 HK2' HB4 HZ0 HZ1 HS4 HB5 hb6 s6 s4 s5 l0 l1 sw s2 HSM
  refine Halted.run (HC.out.mono ?_); rintro r w7 ⟨rfl, hd⟩
  obtain ⟨hb7, hk1, hk2, hcells⟩ := HF.out w7 hd
  clear hd HC HF
  have HCELLS := Lib.hid hcells; have HB7 := Lib.hid hb7
  have heq1 : ∀ W, Below w7.heap.size w7 W → Calls Try.prog 8 #[.agg #[.int .i64 k, .int .i64 t, .slice ao1 F.els.length cap1], .agg #[.int .i64 k, .int .i64 t, .slice ao1 F.els.length cap1]] W fun r w' => r = .returned (.bool true) ∧ Below w7.heap.size w7 w' := fun W hb =>
    (eq_any F F W k t k t _ _ _ _ (hk1.kids.below hb) (hk1.kids.below hb)).mono (fun r w' h => ⟨by rw [h.1, eqF_self]; simp, below_step hb h.2⟩)
  have heq2 : ∀ W, Below w7.heap.size w7 W → Calls Try.prog 8 #[.agg #[.int .i64 k, .int .i64 t, .slice ao1 F.els.length cap1], .agg #[.int .i64 (tk kind j k), .int .i64 (tt kind j t), .slice ao2 F.els.length cap2]] W fun r w' => r = .returned (.bool false) ∧ Below w7.heap.size w7 w' := fun W hb => by
    have h := eq_any F (tF kind (j - 1) F) W k t (tk kind j k) (tt kind j t) _ _ _ _ (hk1.kids.below hb) (hk2.kids.below hb)
    rw [tF_len] at h
    exact h.mono (fun r w' h => ⟨by rw [h.1]; exact congrArg (fun x => Ending.returned (Value.bool x)) HTU.out.1, below_step hb h.2⟩)
  have heq3 : ∀ W, Below w7.heap.size w7 W → Calls Try.prog 8 #[.agg #[.int .i64 (tk kind j k), .int .i64 (tt kind j t), .slice ao2 F.els.length cap2], .agg #[.int .i64 k, .int .i64 t, .slice ao1 F.els.length cap1]] W fun r w' => r = .returned (.bool false) ∧ Below w7.heap.size w7 w' := fun W hb => by
    have h := eq_any (tF kind (j - 1) F) F W (tk kind j k) (tt kind j t) k t _ _ _ _ (hk2.kids.below hb) (hk1.kids.below hb)
    rw [tF_len] at h
    exact h.mono (fun r w' h => ⟨by rw [h.1]; exact congrArg (fun x => Ending.returned (Value.bool x)) HTU.out.2, below_step hb h.2⟩)
  have HE1 := Lib.hid (heq1 w7 (Below.refl _ _)); have HE2 := Lib.hid heq2; have HE3 := Lib.hid heq3
  obtain ⟨⟨x0, x1, x2⟩, y0, y1, y2⟩ := hcells w7 (Below.refl _ _)
  clear heq1 heq2 heq3 hcells hk1 hk2 hb7 HTU
  go_wp2_with (with_reducible refine halt_call ?_)
  refine Halted.run (HE1.out.mono ?_); rintro r w8 ⟨rfl, hb8⟩
  clear x0 x1 x2 y0 y1 y2 HE1
  obtain ⟨⟨x0, x1, x2⟩, y0, y1, y2⟩ := HCELLS.out w8 hb8
  have HC := Lib.hid (HE2.out w8 hb8)
  clear hb8 HE2
  go_wp2_with (with_reducible refine halt_call ?_)
  refine Halted.run (HC.out.mono ?_); rintro r w9 ⟨rfl, hb9⟩
  clear x0 x1 x2 y0 y1 y2 HC
  obtain ⟨⟨x0, x1, x2⟩, y0, y1, y2⟩ := HCELLS.out w9 hb9
  have HC := Lib.hid (HE3.out w9 hb9)
  clear hb9 HE3
  go_wp2_with (with_reducible refine halt_call ?_)
  refine Halted.run (HC.out.mono ?_); rintro r w10 ⟨rfl, hb10⟩
  have HB10 := Lib.hid (below_step HB7.out hb10)
  clear hb10 HC
  go_wp2_with fail
  go_ret
  exact ⟨rfl, HB10.out⟩
end Go.Proofs.Ytknhignklepgeaa
