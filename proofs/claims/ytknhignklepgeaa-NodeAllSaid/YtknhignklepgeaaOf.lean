/- Of: a tree out of a list of numbers. -/
import Derived.Test.YtknhignklepgeaaOfD
import Derived.Deep.RegionHeld
import Derived.Deep.DeepCutAuto
namespace Go.Proofs.Ytknhignklepgeaa
open Go.RowKit

def pcell (w : World) (pb : Nat) : Nat := (intOf ((w.cell? ⟨pb, 0, none⟩).getD (.bool false))).toNat
theorem pcell_of {w : World} {pb j : Nat} (h : w.heap[pb]? = some (.cells #[.int .i64 j] 3 (0, 0))) : pcell w pb = j := by
  have := blk_cell h 0
  unfold pcell
  rw [this]
  simp [intOf]
def QOf (d : Nat) : Prop := ∀ (e : Nat) (w : World) (la : Option Addr) (lc pb i : Nat) (l : List Int), e + d = 6 → l.length ≤ lc → lc ≤ 9223372036854775807 → l.length ≤ 40 → i ≤ l.length → Rd .i64 w la l → (∀ a, la = some a → 0 < l.length → a.block ≠ pb) → w.heap[pb]? = some (.cells #[.int .i64 i] 3 (0, 0)) →
  Calls Try.prog 22 #[.slice la l.length lc, .pointer (some ⟨pb, 0, none⟩), .int .i64 e] w fun r w' => ∃ ao cap, r = .returned (nodeV (ofE d l i).1.k (ofE d l i).1.t ao (ofE d l i).1.kids.els.length cap) ∧ w.grownBy w' (some pb) ∧ w'.heap[pb]? = some (.cells #[.int .i64 (ofE d l i).2] 3 (0, 0)) ∧ KI w' w.heap.size w'.heap.size ao cap (ofE d l i).1.kids
set_option maxHeartbeats 4000000 in
theorem of_step (d : Nat) (IH : ∀ d', d' + 1 = d → QOf d') : QOf d := by
  intro e w la lc pb i l hed hl1 hl2 hl3 hi hrd hne hp
  obtain ⟨i0, hi0, hz0, hz1, hz2⟩ := info_parts info26'
  have n1 : pb < w.heap.size := (Array.getElem?_eq_some_iff.1 hp).1
  have b1 : Below w.heap.size w ((w.alloc (.cells #[.int .i64 0, .int .i64 0, .slice none 0 0] 26)).alloc (.cells #[.int .i64 0, .int .i64 0, .slice none 0 0] 26)) := ((Below.refl _ _).alloc (Nat.le_refl _) _).alloc (by simp) _
  have z1 : ((w.alloc (.cells #[.int .i64 0, .int .i64 0, .slice none 0 0] 26)).alloc (.cells #[.int .i64 0, .int .i64 0, .slice none 0 0] 26)).heap[w.heap.size + 1]? = some (.cells #[.int .i64 0, .int .i64 0, .slice none 0 0] 26 (0, 0)) := by
    have := blk_new (w.alloc (.cells #[.int .i64 0, .int .i64 0, .slice none 0 0] 26)) (.cells #[.int .i64 0, .int .i64 0, .slice none 0 0] 26)
    rw [World.size_alloc] at this
    exact this
  have s1 : ((w.alloc (.cells #[.int .i64 0, .int .i64 0, .slice none 0 0] 26)).alloc (.cells #[.int .i64 0, .int .i64 0, .slice none 0 0] 26)).heap.size = w.heap.size + 2 := by simp
  have z0 : ((w.alloc (.cells #[.int .i64 0, .int .i64 0, .slice none 0 0] 26)).alloc (.cells #[.int .i64 0, .int .i64 0, .slice none 0 0] 26)).heap[w.heap.size]? = some (.cells #[.int .i64 0, .int .i64 0, .slice none 0 0] 26 (0, 0)) :=
    (((Below.refl _ _).alloc (Nat.le_refl _) _).block _ (by simp)).trans (blk_new w (.cells #[.int .i64 0, .int .i64 0, .slice none 0 0] 26))
  have zp := (b1.block pb n1).trans hp
  have c0 : ((w.alloc (.cells #[.int .i64 0, .int .i64 0, .slice none 0 0] 26)).alloc (.cells #[.int .i64 0, .int .i64 0, .slice none 0 0] 26)).cell? ⟨pb, 0, none⟩ = some (.int .i64 i) := blk_cell zp 0
  have B1 := Lib.hid b1; have Z0 := Lib.hid z0; have Z1 := Lib.hid z1; have ZP := Lib.hid zp; have S1 := Lib.hid s1
  have Hi := Lib.hid hi0; have Hz0 := Lib.hid hz0; have Hz1 := Lib.hid hz1; have Hz2 := Lib.hid hz2
  have HRD := Lib.hid hrd; have HNE := Lib.hid hne; have HP := Lib.hid hp; have HIH := Lib.hid IH
  clear b1 z0 z1 zp s1 hi0 hz0 hz1 hz2 hrd hne hp IH
  go_enter Try.func22, Try.ntmps22
  go_upto_region 2 with fail
  generalize hw1 : (w.alloc (.cells #[.int .i64 0, .int .i64 0, .slice none 0 0] 26)).alloc (.cells #[.int .i64 0, .int .i64 0, .slice none 0 0] 26) = w1 at *
  clear hw1
  go_upto_if 14 with fail
  go_cut [] (fun wx => ∃ k t, k = kAt l i ∧ t = tAt l i ∧ wx.heap[w.heap.size + 1]? = some (.cells #[.int .i64 k, .int .i64 t, .slice none 0 0] 26 (0, 0)) ∧ wx.heap[w.heap.size]? = some (.cells #[.int .i64 0, .int .i64 0, .slice none 0 0] 26 (0, 0)) ∧ Below w.heap.size w wx)
  case first =>
    by_cases hlt : i < l.length
    · obtain ⟨a, ha, cx⟩ := HRD.out i hlt
      subst ha
      have e1 : (a.add i).block = a.block := by unfold Addr.add; split <;> rfl
      have n2 : (a.add i).block < w.heap.size := World.block_lt_of_cell? _ _ cx
      have c1 : w1.cell? (a.add i) = some (.int .i64 l[i]) := by rw [B1.out.cell n2]; exact cx
      have q3 : w.heap.size + 1 ≠ pb := by omega
      have q4 : w.heap.size + 1 ≠ (a.add i).block := by omega
      obtain ⟨y0, y1, y2⟩ := tri_cells Z1.out
      have g1 := blk_free Z1.out
      have hk := kAt_eq hlt
      have ht := tAt_eq hlt
      have hx : ∀ x, IntKind.i64.wrap (1 + (bits BinOp.and IntKind.i64 x 31).tmod 28) = kO x := fun _ => rfl
      have hx2 : ∀ x, bits BinOp.and IntKind.i64 (x / 32) 7 = tO x := fun _ => rfl
      have HX := Lib.hid hx; have HX2 := Lib.hid hx2
      generalize l[i] = x at *
      clear hx hx2 cx n2
      go_wp2_with fail
      go_region_held (fun W => W.cell? ⟨pb, 0, none⟩ = some (.int .i64 i) ∧ W.cell? (a.add i) = some (.int .i64 x)) ((constructor <;> (simp only [World.cell?_drew]; repeat (first | assumption | rw [World.cell?_setCell_far _ _ _ _ (by assumption)])))) (fail)
      go_wp2_with fail
      go_meet
      rw [HX.out, HX2.out]
      refine ⟨_, _, hk.symm, ht.symm, ?_, ?_, ?_⟩
      · exact blk_set (blk_set Z1.out 0 _) 1 _
      · exact (Below.heap_setCell _ _ _ _ (by show _ ≠ w.heap.size + 1; omega)).trans ((Below.heap_setCell _ _ _ _ (by show _ ≠ w.heap.size + 1; omega)).trans Z0.out)
      · exact ((B1.out.setCell (by show _ ≤ w.heap.size + 1; omega) _).setCell (by show _ ≤ w.heap.size + 1; omega) _).drew
    · go_wp2
      go_meet
      exact ⟨_, _, (kAt_no hlt).symm, (tAt_no hlt).symm, Z1.out, Z0.out, B1.out⟩
  case rest =>
    obtain ⟨k, t, hk, ht, zn, z0, hB⟩ := hcut
    have zp := (hB.block pb n1).trans HP.out
    have c1 := blk_cell zp 0
    have f1 := blk_free zp 0
    have lnb := (Array.getElem?_eq_some_iff.1 zn).1
    have hos0 : OS w (wc.setCell ⟨pb, 0, none⟩ (.int .i64 ((i + 1 : Nat) : Int))) pb (w.heap.size + 1) (i + 1) k t (.slice none 0 0) [] := by
      refine ⟨World.ownsRow_nil _ _ _ _, ?_, ?_, blk_set zp 0 _, ?_, (Below.heap_setCell _ _ _ _ (by show _ ≠ pb; omega)).trans z0⟩
      · show _ ≤ _
        rw [World.size_setCell]; exact lnb
      · exact (Below.heap_setCell _ _ _ _ (by show _ ≠ pb; omega)).trans zn
      · refine ⟨hB.os, hB.tape, hB.output, by rw [World.size_setCell]; exact hB.size, fun q hq hn => ?_⟩
        exact (Below.heap_setCell _ _ _ _ (by show q ≠ pb; exact fun e => hn (by rw [e]))).trans (hB.block q hq)
    have HOS0 := Lib.hid hos0; have HK := Lib.hid hk; have HT := Lib.hid ht
    clear hk ht zn z0 hB zp lnb hos0 c0 B1 Z0 Z1 ZP S1
    clear w1
    go_wp2_with fail
    go_loopw [] (fun wx => ∃ (m j : Nat) (v : Value) (cs : List Nc), OS w wx pb (w.heap.size + 1) j k t v cs ∧ cs.length + i + 1 ≤ j ∧ j ≤ l.length + 1 ∧ (d = 0 → cs = [] ∧ j = i + 1) ∧ (∀ d', d' + 1 = d → l.length < m + j ∧ loopO (ofE d' l) l l.length (i + 1) [] = loopO (ofE d' l) l m j (cs.map (·.e)))) (fun wx => l.length + 2 - pcell wx pb)
    case atStart => exact ⟨l.length, i + 1, _, [], HOS0.out, by simp, by omega, fun _ => ⟨rfl, rfl⟩, fun d' _ => ⟨by omega, rfl⟩⟩
    case round =>
      clear HOS0
      obtain ⟨m, j, v, cs, hos, hcj, hj, hd0, hlo⟩ := hrel
      have x0 := blk_cell hos.p 0
      have y2 := (tri_cells hos.n).2.2
      have HOS := Lib.hid hos; have HD0 := Lib.hid hd0; have HLO := Lib.hid hlo
      clear hos hd0 hlo c1 f1
      go_upto_region 5 with fail
      go_cut [58] (fun c wx => c = .bool (decide (e < 6) && oddAt l j) ∧ wx = wr)
      case first =>
        by_cases he : e < 6
        · by_cases hlt : j < l.length
          · obtain ⟨a, ha, cx⟩ := HRD.out j hlt
            subst ha
            have n2 : (a.add j).block < w.heap.size := World.block_lt_of_cell? _ _ cx
            have n3 : (a.add j).block ≠ pb := by
              have e1 : (a.add j).block = a.block := by unfold Addr.add; split <;> rfl
              rw [e1]; exact HNE.out a rfl (by omega)
            have cx2 : wr.cell? (a.add j) = some (.int .i64 l[j]) := by rw [World.cell?_of_block (HOS.out.g.block _ n2 (fun q => by injection q with q; exact n3 q))]; exact cx
            have ho := oddAt_eq hlt
            generalize l[j] = x at *
            have HO := Lib.hid ho
            clear ho cx n2 n3
            by_cases hb : bits BinOp.and IntKind.i64 x 1 = 1
            · go_wp2_with fail
              go_meet
              exact ⟨by rw [HO.out, hb, decide_eq_true he]; rfl, rfl⟩
            · go_wp2_with fail
              go_meet
              exact ⟨by rw [HO.out, decide_eq_true he, beq_false_of_ne hb]; rfl, rfl⟩
          · have ho := oddAt_no hlt
            have HO := Lib.hid ho
            clear ho
            go_wp2_with fail
            go_meet
            exact ⟨by rw [HO.out, Bool.and_false], rfl⟩
        · go_wp2_with fail
          go_meet
          exact ⟨by rw [decide_eq_false he]; rfl, rfl⟩
      case rest =>
        obtain ⟨rfl, rfl⟩ := hcut
        obtain ⟨vo, vc, hv⟩ := HOS.out.form
        subst hv
        cases hc : (decide (e < 6) && oddAt l j) with
        | false =>
          have hstop : d = 0 ∨ oddAt l j = false := by
            rcases Nat.eq_zero_or_pos d with h | h
            · exact .inl h
            · rw [decide_eq_true (by omega), Bool.true_and] at hc
              exact .inr hc
          have hsp := of_spec HK.out HT.out HD0.out HLO.out hstop
          obtain ⟨y0, y1, -⟩ := tri_cells HOS.out.n
          have r0 := blk_free HOS.out.r
          obtain ⟨r1, r2, r3⟩ := tri_cells HOS.out.r
          have HSP := Lib.hid hsp
          clear hsp hstop x0 HRD HIH HLO HD0 HK HT
          go_wp2_with fail
          (try simp only [Exit.inBlock, Exit.then])
          refine bodyPost_ret (v := nodeV k t vo cs.length vc) (by simp [results, Try.results22, go_sem, r1, r2, r3, nodeV]; try rfl) rfl ?_
          rw [HSP.out]
          have hout := HOS.out.out (w' := (((wc.setCell ⟨w.heap.size, 0, none⟩ (.int .i64 k)).setCell ⟨w.heap.size, 1, none⟩ (.int .i64 t)).setCell ⟨w.heap.size, 2, none⟩ (.slice vo cs.length vc))) n1 rfl (by rw [World.size_setCell, World.size_setCell, World.size_setCell]) rfl rfl rfl (fun b hb => by
            rw [Below.heap_setCell _ _ _ _ (by exact hb), Below.heap_setCell _ _ _ _ (by exact hb), Below.heap_setCell _ _ _ _ (by exact hb)])
          obtain ⟨h1, h2, ao, cap, hv, hki⟩ := hout
          refine ⟨ao, cap, ?_, h1, h2, hki⟩
          injection hv with e1 _ e3
          subst e1 e3
          show Ending.returned (nodeV k t vo cs.length vc) = Ending.returned (nodeV k t vo (Fo.of (cs.map (·.e))).els.length vc)
          rw [Fo.els_of, List.length_map]
        | true =>
          have he : e < 6 := of_decide_eq_true (Bool.and_eq_true_iff.1 hc).1
          have hodd : oddAt l j = true := (Bool.and_eq_true_iff.1 hc).2
          have hlt := oddAt_lt hodd
          obtain ⟨d', rfl⟩ : ∃ d', d' + 1 = d := ⟨d - 1, by omega⟩
          obtain ⟨hm, hlo⟩ := HLO.out d' rfl
          have hcl : cs.length < 41 := by omega
          have hrd2 : Rd .i64 wc la l := fun q hq => by
            obtain ⟨a, ha, cx⟩ := HRD.out q hq
            have e1 : (a.add q).block = a.block := by unfold Addr.add; split <;> rfl
            exact ⟨a, ha, by rw [World.cell?_of_block (HOS.out.g.block _ (World.block_lt_of_cell? _ _ cx) (fun e => by injection e with e; rw [e1] at e; exact HNE.out a ha (by omega) e))]; exact cx⟩
          have hcall := HIH.out d' rfl (e + 1) wc.drew la lc pb j l (by omega) hl1 hl2 hl3 (by omega) (fun q hq => by obtain ⟨a, ha, cx⟩ := hrd2 q hq; exact ⟨a, ha, by rw [World.cell?_drew]; exact cx⟩) HNE.out HOS.out.p
          have hends := ofE_ends d' l j (by omega)
          generalize hE : ofE d' l j = E at *
          obtain ⟨⟨k', t', F⟩, j'⟩ := E
          obtain ⟨m', rfl⟩ : ∃ m', m = m' + 1 := ⟨m - 1, by omega⟩
          rw [loopO_go _ _ _ _ _ hodd, hE] at hlo
          replace hcall : Calls Try.prog 22 #[.slice la l.length lc, .pointer (some ⟨pb, 0, none⟩), .int .i64 ((e : Int) + 1)] wc.drew fun r w' => ∃ ao cap, r = .returned (nodeV k' t' ao F.els.length cap) ∧ wc.drew.grownBy w' (some pb) ∧ w'.heap[pb]? = some (.cells #[.int .i64 j'] 3 (0, 0)) ∧ KI w' wc.drew.heap.size w'.heap.size ao cap F := by
            have := hcall
            rw [Int.natCast_add] at this
            exact this
          replace hends : j + 1 ≤ j' ∧ j' ≤ max (j + 1) l.length := ⟨hends.1, hends.2.1⟩
          obtain ⟨hj1, hj2⟩ := hends
          have HC := Lib.hid hcall; have HLo := Lib.hid hlo
          have HCL := Lib.hid (fun (w3 : World) (h3 : wc.drew.grownBy w3 (some pb)) => HOS.out.called (by omega) (Below.refl _ _).drew h3)
          have f2 := blk_free HOS.out.n
          clear hcall hlo hE hrd2 hc hodd x0 HRD HNE HIH HLO HD0 HP
          unfold nodeV at HC
          have hwe : IntKind.i64.wrap ((e : Int) + 1) = (e : Int) + 1 := IntWalk.i64_in _ (by omega)
          go_wp2_with fail
          go_region_law ((first | (refine step_append_lies _ rfl (.tmp 60) (.tmp 66) 24 rfl (w.heap.size + 1 + 1) 26 i0 (.agg #[.int .i64 0, .int .i64 0, .slice none 0 0]) 3 40 Try.underlying24 Hi.out Hz0.out Hz1.out Hz2.out rfl (by decide) (.slice vo cs.length vc) cs.length (cellsN cs) rfl (owns_keep HO3.out (fun g hg => ((Below.refl w3.heap.size w3).alloc (Nat.le_refl _) _).block g (own_block_lt HO3.out g hg).1)) ⟨w3.heap.size, 0, none⟩ 1 1 [.int .i64 k', .int .i64 t', .slice ao3 F.els.length c3] rfl rfl (fun q u hq => by rw [← hq, add_at]; simp) (by simp [Value.oneCell']) (by decide) (by unfold maxLen; omega) (by omega) (by simp; omega) (w3.heap.size + 1) (by simp) ?_; intro g c5 w5 ho5 hg5 hat5 hlt5; have hn5 := (hg5.block (w.heap.size + 1) (by rw [World.size_alloc]; omega) (fun e => by have := (own_block_lt HO3.out _ e.symm).2; omega)).trans ((((Below.refl w3.heap.size w3).alloc (Nat.le_refl _) _).block _ lnb3).trans HN3.out); have z5 := (tri_cells hn5).2.2; have f5 := blk_free hn5; have HD := Lib.hid (HOS.out.round n1 (by omega) (Below.refl _ _).drew HG3.out HP3.out HK3.out ho5 hg5 hat5); clear ho5 hg5 hat5 hlt5 hn5) | (go_simp; go_at_call 22; with_reducible refine (HC.out).mono ?_; rintro r w3 ⟨ao3, c3, rfl, hg3, hp3, hk3⟩; obtain ⟨hn3, ho3⟩ := HCL.out w3 hg3; have z2 := (tri_cells hn3).2.2; have lnb3 := (Array.getElem?_eq_some_iff.1 hn3).1; have HO3 := Lib.hid ho3; have HN3 := Lib.hid hn3; have HG3 := Lib.hid hg3; have HP3 := Lib.hid hp3; have HK3 := Lib.hid hk3; clear hn3 ho3 hg3 hp3 hk3)))
          all_goals go_wp2_with fail
          all_goals refine ⟨⟨m', j', _, cs ++ [⟨⟨k', t', F⟩, ao3, c3⟩], HD.out, by rw [List.length_append, List.length_singleton]; omega, by omega, fun q => absurd q (by simp), fun d'' q => ?_⟩, by rw [pcell_of HD.out.p, pcell_of HOS.out.p]; omega⟩
          all_goals
            obtain rfl : d'' = d' := by omega
            refine ⟨by omega, HLo.out.trans ?_⟩
            rw [List.map_append]
            rfl
theorem of_any (d : Nat) : QOf d := by
  induction d with
  | zero => exact of_step 0 (fun d' h => absurd h (by omega))
  | succ d ih =>
    refine of_step (d + 1) (fun d' h => ?_)
    obtain rfl : d' = d := by omega
    exact ih
end Go.Proofs.Ytknhignklepgeaa
