/- The law's own walk. -/
import Derived.Test.YtknhignklepgeaaRow
namespace Go.Proofs.Ytknhignklepgeaa
open Go.RowKit

def QWalk (stop : Int) (F : Fo) : Prop := ∀ (W0 w : World) (k t : Int) (ao : Option Addr) (cap : Nat) (v : Value) (L : List El), Below W0.heap.size W0 w → KidsV W0 ao cap F → cF F < 1000 → L.length + cF F < 2000 → RowN W0 w v L →
  Calls Try.prog 18 #[nodeV k t ao F.els.length cap, .int .i64 stop, v] w fun e w' => ∃ v', e = .returned v' ∧ RowN W0 w' v' (L ++ wE stop ⟨k, t, F⟩) ∧ Grow w v w' v'
set_option maxHeartbeats 4000000 in
theorem walk_any (stop : Int) (F : Fo) : QWalk stop F := by
  refine Fo.ind (Q := QWalk stop) (fun F IH W0 w k t ao cap v L hB0 hk hc hcl hrow => ?_) F
  obtain ⟨i0, hi, hz0, hz1, hz2⟩ := info_parts info26'
  have b0 : Below w.heap.size w (w.alloc (.cells #[.int .i64 k, .int .i64 t, .slice ao F.els.length cap] 26)) := (Below.refl _ _).alloc (Nat.le_refl _) _
  have z0 := blk_new w (.cells #[.int .i64 k, .int .i64 t, .slice ao F.els.length cap] 26)
  have g0 : w.heap.size < (w.alloc (.cells #[.int .i64 k, .int .i64 t, .slice ao F.els.length cap] 26)).heap.size := by simp
  obtain ⟨cs, hcs, ho, hkk⟩ := hrow
  have hlen : cs.length = L.length := by rw [← hcs]; simp
  have b1 := b0.alloc b0.size (.cells #[.int .i64 k, .int .i64 t, .slice ao F.els.length cap] 26)
  have Ho := Lib.hid ((owns_keep ho (fun g hg => b1.block g (own_block_lt ho g hg).1)))
  have HK := Lib.hid hk; have HIH := Lib.hid IH; have Hkk := Lib.hid hkk; have Hcs := Lib.hid hcs; have HB0 := Lib.hid hB0; have B0 := Lib.hid b0; have Z0 := Lib.hid z0; have HVL := Lib.hid (fun g hg => own_block_lt ho g hg)
  have Hi := Lib.hid hi; have Hz0 := Lib.hid hz0; have Hz1 := Lib.hid hz1; have Hz2 := Lib.hid hz2
  have hl1 := hk.1; have hl2 := hk.2.1; have s0 := hB0.size
  clear hi hz0 hz1 hz2
  clear hk IH hkk hcs hB0 b0 b1 z0 ho
  unfold nodeV
  go_enter Try.func18, Try.ntmps18
  go_wp2_with (with_reducible refine halt_op 11 ?_)
  refine Halted.run (wpList_append_own_at _ rfl (.tmp 8) (.tmp 10) 24 rfl W0.heap.size 26 i0 (.agg #[.int .i64 0, .int .i64 0, .slice none 0 0]) 3 40 Try.underlying24 Hi.out Hz0.out Hz1.out Hz2.out rfl (by decide) v cs.length (cellsN cs) rfl Ho.out ⟨w.heap.size + 1, 0, none⟩ 1 1 [.int .i64 k, .int .i64 t, .slice ao F.els.length cap] rfl rfl ?_ (by simp [Value.oneCell']) (by unfold maxLen; omega) (by omega) (by simp; omega) ?_)
  · intro j u hj
    have := blk_new (w.alloc (.cells #[.int .i64 k, .int .i64 t, .slice ao F.els.length cap] 26)) (.cells #[.int .i64 k, .int .i64 t, .slice ao F.els.length cap] 26)
    rw [World.size_alloc] at this
    rw [add_at, blk_cell this, ← hj, List.getElem?_toArray]
  intro v1 w1 ho1 hg1 _ hat1
  have g2 : ((w.alloc (.cells #[.int .i64 k, .int .i64 t, .slice ao F.els.length cap] 26)).alloc (.cells #[.int .i64 k, .int .i64 t, .slice ao F.els.length cap] 26)).heap.size = w.heap.size + 2 := by simp
  have b1 : Below w.heap.size w ((w.alloc (.cells #[.int .i64 k, .int .i64 t, .slice ao F.els.length cap] 26)).alloc (.cells #[.int .i64 k, .int .i64 t, .slice ao F.els.length cap] 26)) := B0.out.alloc B0.out.size _
  have hgr : Grow w v w1 v1 := (Grow.of_below v b1).trans ⟨hg1, hat1.imp id (fun e => ⟨_, e, Nat.le_refl _⟩)⟩
  have hrow1 : RowN W0 w1 v1 (L ++ (⟨k, t, F⟩ :: (F.els.take 0).flatMap (wE stop))) := ⟨cs ++ [⟨⟨k, t, F⟩, ao, cap⟩], by rw [List.map_append, Hcs.out]; simp, by rw [List.length_append, List.length_singleton, cellsN_append]; exact ho1, fun c hc => by
    rcases List.mem_append.1 hc with hc | hc
    · exact Hkk.out c hc
    · rw [List.mem_singleton] at hc; subst hc; exact HK.out⟩
  have hz1 : w1.heap[w.heap.size]? = some (.cells #[.int .i64 k, .int .i64 t, .slice ao F.els.length cap] 26 (0, 0)) :=
    (hg1.block _ (by rw [g2]; omega) (fun e => by have := (HVL.out _ e.symm).1; omega)).trans ((((Below.refl _ _).alloc (Nat.le_refl _) _).block _ g0).trans Z0.out)
  have hne : v1.ownBlock ≠ some w.heap.size := fun e => by
    rcases hat1 with e1 | e1
    · rw [e1] at e; have := (HVL.out _ e).1; omega
    · rw [e1] at e; injection e with e; rw [g2] at e; omega
  have lz : w.heap.size < w1.heap.size := (Array.getElem?_eq_some_iff.1 hz1).1
  have HZ1 := Lib.hid hz1; have HR1 := Lib.hid hrow1; have HG1 := Lib.hid hgr; have HNE := Lib.hid hne
  have HB1 := Lib.hid (Grow.below HB0.out hgr (fun g hg => (HVL.out g hg).2))
  have HV1 := Lib.hid (fun g hg => (hrow1.lt g hg).2)
  clear ho1 hg1 hat1 b1 hgr hrow1 hz1 hne Z0 B0 Ho Hkk Hcs HVL g2 Hi Hz0 Hz1 Hz2
  go_wp2
  go_loopw [2, 7] (fun u i wx => ∃ j : Nat, j ≤ F.els.length ∧ (k = stop → j = 0) ∧ i = .int .i64 j ∧ RowN W0 wx u (L ++ (⟨k, t, F⟩ :: (F.els.take j).flatMap (wE stop))) ∧ Grow w1 v1 wx u) (fun _ i _ => F.els.length - (intOf i).toNat)
  case atStart => exact ⟨0, Nat.zero_le _, fun _ => rfl, rfl, HR1.out, Grow.refl _ _⟩
  case round =>
    clear HR1
    obtain ⟨j, hj, hks, rfl, hrow, hgr⟩ := hrel
    have hz := (hgr.g.block _ lz (fun e => HNE.out e.symm)).trans HZ1.out
    obtain ⟨x0, x1, x2⟩ := tri_cells hz
    have hB := Grow.below HB1.out hgr HV1.out
    have HR := Lib.hid hrow; have HG := Lib.hid hgr; have HB := Lib.hid hB
    clear hrow hgr hz hB
    by_cases hkst : k = stop
    · have hj0 := hks hkst
      subst hj0 hkst
      have he : wE k ⟨k, t, F⟩ = [⟨k, t, F⟩] := by unfold wE; rw [if_pos rfl]
      have He := Lib.hid he
      clear he
      by_cases hl0 : 0 < F.els.length
      all_goals go_wp2
      all_goals go_ret
      all_goals exact ⟨_, rfl, by rw [He.out]; exact HR.out, HG1.out.trans HG.out⟩
    · by_cases hlt : j < F.els.length
      · obtain ⟨a, ha, c0, c1, ao', cap', c2, hk'⟩ := HK.out.nth j hlt
        have hmem : F.els[j] ∈ F.els := List.getElem_mem _
        have IHj := HIH.out _ hmem
        have hcm := cF_mem F _ hmem
        have hft := flat_cTo stop F j hj
        have hct := cTo_succ F j hlt
        have hcl2 := cTo_le F (j + 1) (by omega)
        have htf := take_flat stop F j hlt
        generalize F.els[j] = e at *
        obtain ⟨ek, et, eks⟩ := e
        subst ha
        have lift : ∀ {x : Addr} {u : Value}, W0.cell? x = some u → wr.cell? x = some u := fun hx => by rw [HB.out.cell (World.block_lt_of_cell? _ _ hx)]; exact hx
        have c0 := lift c0; have c1 := lift c1; have c2 := lift c2
        have hcall := IHj W0 wr ek et ao' cap' _ _ HB.out hk' (by show cF eks < _; have : cF eks < cF F := hcm; omega) (by
          have : cF eks < cF F := hcm
          have : cTo F (j + 1) = cTo F j + (1 + cF eks) := hct
          rw [List.length_append, List.length_cons]; show _ + cF eks < _; omega) HR.out
        have HCall := Lib.hid hcall; have HTF := Lib.hid htf
        clear lift hcall htf IHj hk' hmem hcm hft hct hcl2
        unfold nodeV at HCall
        go_wp2_with (with_reducible refine halt_call ?_)
        refine Halted.run (HCall.out.mono ?_); rintro e w3 ⟨v3, rfl, hr3, hg3⟩
        have HR3 := Lib.hid hr3; have HG3 := Lib.hid (HG.out.trans hg3)
        clear HCall hr3 hg3 HR HG HB
        go_wp2
        refine ⟨⟨j + 1, by omega, fun h => absurd h hkst, by go_num, ?_, HG3.out⟩, by simp [intOf]; omega⟩
        rw [HTF.out]
        have := HR3.out
        rw [List.append_assoc, List.cons_append] at this
        exact this
      · have hje : j = F.els.length := by omega
        subst hje
        have he : wE stop ⟨k, t, F⟩ = ⟨k, t, F⟩ :: (F.els.take F.els.length).flatMap (wE stop) := by
          show (⟨k, t, F⟩ : El) :: (if k = stop then [] else wF stop F) = _
          rw [if_neg hkst, List.take_length, wF_flat]
        have He := Lib.hid he
        clear he
        go_wp2
        go_ret
        exact ⟨_, rfl, by rw [He.out]; exact HR.out, HG1.out.trans HG.out⟩
end Go.Proofs.Ytknhignklepgeaa
