/- ScopeBack's walk. -/
import Derived.Test.YtjobdofnehajpaaBackMath
import Derived.Deep.DeepCutAuto
import Derived.BigQuiet
namespace Go.Proofs.Ytjobdofnehajpaa
open Go.RowKit

set_option maxHeartbeats 8000000 in
set_option maxRecDepth 10000 in
theorem backWalk_any (ao : Option Addr) (m cap : Nat) (xs : List ByteArray) (bo : Option Addr) (m2 cap2 : Nat) (ys : List ByteArray) (w : World) (hm : m = xs.length) (hcap : m ≤ 9223372036854775807) (hx : RdS w ao xs) (hm2 : m2 = ys.length) (hcap2 : m2 ≤ 9223372036854775807) (hy : RdS w bo ys) :
    Calls Try.prog 4 #[.slice ao m cap, .slice bo m2 cap2] w fun e w' => e = .returned (.bool true) ∧ Below w.heap.size w w' := by
  subst hm hm2
  have Hb := Lib.hid (begun_any w); have Hx := Lib.hid hx; have Hy := Lib.hid hy
  clear hx hy
  go_enter Try.func4, Try.ntmps4
  go_wp2_with (with_reducible refine halt_call ?_)
  refine Halted.run (Hb.out.mono ?_); rintro e w1 ⟨rfl, b1⟩
  have Hn := Lib.hid (new_any w1); have B1 := Lib.hid b1
  clear b1 Hb
  go_wp2_with (with_reducible refine halt_call ?_)
  refine Halted.run (Hn.out.mono ?_); rintro e w2 ⟨s, rfl, hs, h2, b2⟩
  have l1 := B1.out.size
  have H2 := Lib.hid (h2.mono (F' := fun k => k < w.heap.size) (fun k hk => .inl (by omega)))
  have B2 := Lib.hid (below_step B1.out b2)
  clear h2 b2 Hn B1
  go_wp2
  go_loopw [7] (fun i wx => ∃ k : Nat, k ≤ xs.length ∧ k ≤ 15 ∧ i = .int .i64 k ∧ ScAt wx s (fun k => k < w.heap.size) ([] ++ [decl 1 xs k]) ∧ Below w.heap.size w wx) (fun i _ => 15 - (intOf i).toNat)
  case atStart => exact ⟨0, Nat.zero_le _, by omega, rfl, H2.out, B2.out⟩
  case round =>
    obtain ⟨k, hk1, hk2, rfl, h, hB⟩ := hrel
    have H := Lib.hid h; have HB := Lib.hid hB
    clear h hB
    go_upto_region 6 with fail
    go_cut [30] (fun c wx => c = .bool (decide (k < xs.length ∧ k < 15)) ∧ wx = wr)
    case first =>
      by_cases hl : k < xs.length
      all_goals go_wp2
      all_goals go_meet
      all_goals first | exact ⟨congrArg Value.bool (decide_eq_decide.2 (by omega)), rfl⟩ | exact ⟨congrArg Value.bool (decide_eq_false (by omega)).symm, rfl⟩
    case rest =>
      obtain ⟨rfl, rfl⟩ := hcut
      by_cases hlt : k < xs.length ∧ k < 15
      · rw [decide_eq_true hlt]
        obtain ⟨a, rfl, hc⟩ := (Hx.out.below HB.out) k hlt.1
        have hg := getD_at xs k ByteArray.empty hlt.1
        have hd : decl 1 xs (k + 1) = addM (decl 1 xs k) (cutS xs[k] 10) ⟨1, k, 0⟩ := by rw [← hg]; rfl
        have Hd := Lib.hid hd
        generalize xs[k] = x at *
        have Hc := Lib.hid (cut10 wc x)
        have Ha := Lib.hid (add_to wc s _ [] (decl 1 xs k) (cutS x 10) 1 k 0 H.out (by decide))
        clear hd hg H H2
        go_wp2_with (with_reducible refine halt_call ?_)
        refine Halted.run (Hc.out.mono ?_); rintro e w' ⟨rfl, rfl⟩
        go_wp2_with (with_reducible refine halt_call ?_)
        refine Halted.run (Ha.out.mono ?_); rintro e w3 ⟨b, rfl, h3, f3⟩
        have H3 := Lib.hid h3; have HB3 := Lib.hid (Fo.below HB.out f3 (fun k hk => hk))
        clear h3 f3 Ha Hc HB
        go_wp2
        refine ⟨⟨k + 1, by omega, by omega, by go_num, by rw [Hd.out]; exact H3.out, HB3.out⟩, by simp [intOf]; omega⟩
      · rw [decide_eq_false hlt]
        clear H2 B2 hs l1
        generalize hn : k = n at *
        clear hn
        go_wp2
        have b0 := (Below.refl wc.heap.size wc).alloc (Nat.le_refl _) (Obj.cells #[.int .i64 0, .int .i64 0, .int .i64 0, .int .i64 0, .int .i64 0, .int .i64 0, .int .i64 0, .int .i64 0, .int .i64 0, .int .i64 0, .int .i64 0, .int .i64 0, .int .i64 0, .int .i64 0, .int .i64 0] 40)
        have z0 := blk_new wc (Obj.cells #[.int .i64 0, .int .i64 0, .int .i64 0, .int .i64 0, .int .i64 0, .int .i64 0, .int .i64 0, .int .i64 0, .int .i64 0, .int .i64 0, .int .i64 0, .int .i64 0, .int .i64 0, .int .i64 0, .int .i64 0] 40)
        have H2 := Lib.hid ((H.out.mono (F' := fun k => k < w.heap.size ∨ k = wc.heap.size) (fun k hk => hk.imp id (fun e => by omega))).below b0)
        have B2 := Lib.hid (below_step HB.out b0); have Z2 := Lib.hid z0
        have lw : w.heap.size ≤ wc.heap.size := HB.out.size
        clear b0 z0 H HB
        generalize hC : #[Value.int .i64 0, .int .i64 0, .int .i64 0, .int .i64 0, .int .i64 0, .int .i64 0, .int .i64 0, .int .i64 0, .int .i64 0, .int .i64 0, .int .i64 0, .int .i64 0, .int .i64 0, .int .i64 0, .int .i64 0] = C0 at *
        have hC0 : C0.size = 15 := by rw [← hC]; rfl
        clear hC
        generalize wc.heap.size = WB at *
        generalize hw5 : wc.alloc (Obj.cells C0 40) = w5 at *
        clear hw5
        go_loopw [9] (fun i wx => ∃ k : Nat, k ≤ xs.length ∧ k ≤ 15 ∧ i = .int .i64 k ∧ (∃ C : Array Value, wx.heap[WB]? = some (.cells C 40 (0, 0)) ∧ C.size = 15 ∧ ∀ j, j < k → C[j]? = some (.int .i64 ((look (decl 1 xs n) (cutS (xs.getD j ByteArray.empty) 10)).getD Dc.z).t)) ∧ ScAt wx s (fun k => k < w.heap.size ∨ k = WB) ([decl 1 xs n]) ∧ Below w.heap.size w wx) (fun i _ => 15 - (intOf i).toNat)
        case atStart => exact ⟨0, Nat.zero_le _, by omega, rfl, ⟨C0, Z2.out, hC0, fun j hj => absurd hj (by omega)⟩, H2.out, B2.out⟩
        case round =>
          obtain ⟨k, hk1, hk2, rfl, hCC, h, hB⟩ := hrel
          have H := Lib.hid h; have HB := Lib.hid hB; have HC := Lib.hid hCC
          clear h hB hCC H2 B2 Z2
          go_upto_region 11 with fail
          go_cut [49] (fun c wx => c = .bool (decide (k < xs.length ∧ k < 15)) ∧ wx = wr)
          case first =>
            by_cases hl : k < xs.length
            all_goals go_wp2
            all_goals go_meet
            all_goals first | exact ⟨congrArg Value.bool (decide_eq_decide.2 (by omega)), rfl⟩ | exact ⟨congrArg Value.bool (decide_eq_false (by omega)).symm, rfl⟩
          case rest =>
            obtain ⟨rfl, rfl⟩ := hcut
            by_cases hlt : k < xs.length ∧ k < 15
            · rw [decide_eq_true hlt]
              obtain ⟨a, rfl, hc⟩ := (Hx.out.below HB.out) k hlt.1
              have hg := getD_at xs k ByteArray.empty hlt.1
              obtain ⟨⟨e1, e2, e3⟩, he⟩ := decl_has 1 xs k n (by omega)
              rw [hg] at he
              have Hg := Lib.hid hg
              generalize xs[k] = x at *
              have Hc := Lib.hid (cut10 wc x)
              have Hf := Lib.hid (find_is wc s _ [decl 1 xs n] (cutS x 10) e1 e2 e3 true H.out (by simp) (by rw [findD_one, he]; rfl) (by rw [findD_one, he]; rfl))
              have He := Lib.hid he
              clear hg he
              go_wp2_with (with_reducible refine halt_call ?_)
              refine Halted.run (Hc.out.mono ?_); rintro e w' ⟨rfl, rfl⟩
              go_wp2_with (with_reducible refine halt_call ?_)
              refine Halted.run (Hf.out.mono ?_); rintro e wa ⟨rfl, ba⟩
              obtain ⟨C, hC1, hC2, hC3⟩ := HC.out
              have lWB : WB < wc.heap.size := (Array.getElem?_eq_some_iff.1 hC1).1
              have lWB2 : WB < wa.heap.size := by have := ba.size; omega
              have hC4 := (ba.block _ lWB).trans hC1
              have y0 : wa.cell? ⟨WB, k, none⟩ = some C[k] := by rw [blk_cell hC4, Array.getElem?_eq_getElem]
              have f0 := blk_free hC4 k
              have Ba := Lib.hid (below_lay (Below.refl _ _) ba (.cells #[.int .i64 e1, .int .i64 e2, .int .i64 e3] 34))
              have Za := Lib.hid (blk_new wa (.cells #[.int .i64 e1, .int .i64 e2, .int .i64 e3] 34))
              have hS := (H.out.below ba).inF (w' := wa.setCell ⟨WB, k, none⟩ (.int .i64 e2)) (fun j hj hn => Below.heap_setCell _ _ _ _ (show j ≠ WB from fun e => hn (.inr e)))
              have hq := blk_set hC4 k (.int .i64 e2)
              have hBs : Below w.heap.size w (wa.setCell ⟨WB, k, none⟩ (.int .i64 e2)) := by have := below_step HB.out ba; go_grown
              have al := (Below.refl (wa.setCell ⟨WB, k, none⟩ (.int .i64 e2)).heap.size (wa.setCell ⟨WB, k, none⟩ (.int .i64 e2))).alloc (Nat.le_refl _) (.cells #[.int .i64 e1, .int .i64 e2, .int .i64 e3] 34)
              have HS := Lib.hid (hS.below al); have HQ := Lib.hid ((al.block WB (by simp; omega)).trans hq); have HBS := Lib.hid (below_step hBs al)
              clear Hc Hf hS hq hBs al
              go_wp2
              refine ⟨⟨k + 1, by omega, by omega, by go_num, ⟨_, HQ.out, by rw [Array.size_setIfInBounds]; exact hC2, fun j hj => ?_⟩, HS.out, HBS.out⟩, by simp [intOf]; omega⟩
              by_cases hjk : j = k
              · subst hjk
                rw [Array.getElem?_setIfInBounds, if_pos rfl, if_pos (by omega), Hg.out, He.out]; rfl
              · rw [Array.getElem?_setIfInBounds, if_neg (by omega)]
                exact hC3 j (by omega)
            · rw [decide_eq_false hlt]
              obtain ⟨C, hC1, hC2, hC3⟩ := HC.out
              have HC1 := Lib.hid hC1
              have lWB : WB < wc.heap.size := (Array.getElem?_eq_some_iff.1 hC1).1
              have Hp := Lib.hid (push_any wc s _ _ H.out (by simp) (fun k hk => by have := HB.out.size; omega))
              clear hC1 HC H
              go_wp2_with (with_reducible refine halt_call ?_)
              refine Halted.run (Hp.out.mono ?_); rintro e w6 ⟨rfl, h6, f6⟩
              have H6 := Lib.hid h6; have HB6 := Lib.hid (Fo.below HB.out f6 (fun k hk => .inl hk)); have HC6 := Lib.hid ((f6.block WB lWB (.inr rfl)).trans HC1.out)
              clear h6 f6 Hp HB HC1
              go_wp2
              go_loopw [12] (fun i wx => ∃ q : Nat, q ≤ ys.length ∧ q ≤ 15 ∧ i = .int .i64 q ∧ wx.heap[WB]? = some (.cells C 40 (0, 0)) ∧ ScAt wx s (fun k => k < w.heap.size ∨ k = WB) ([decl 1 xs n] ++ [decl 2 ys q]) ∧ Below w.heap.size w wx) (fun i _ => 15 - (intOf i).toNat)
              case atStart => exact ⟨0, Nat.zero_le _, by omega, rfl, HC6.out, H6.out, HB6.out⟩
              case round =>
                obtain ⟨q, hq1, hq2, rfl, hCC, h, hB⟩ := hrel
                have H := Lib.hid h; have HB := Lib.hid hB; have HC := Lib.hid hCC
                clear h hB hCC H6 HB6 HC6
                go_upto_region 19 with fail
                go_cut [77] (fun c wx => c = .bool (decide (q < ys.length ∧ q < 15)) ∧ wx = wr)
                case first =>
                  by_cases hl : q < ys.length
                  all_goals go_wp2
                  all_goals go_meet
                  all_goals first | exact ⟨congrArg Value.bool (decide_eq_decide.2 (by omega)), rfl⟩ | exact ⟨congrArg Value.bool (decide_eq_false (by omega)).symm, rfl⟩
                case rest =>
                  obtain ⟨rfl, rfl⟩ := hcut
                  by_cases hlt2 : q < ys.length ∧ q < 15
                  · rw [decide_eq_true hlt2]
                    obtain ⟨a2, rfl, hc⟩ := (Hy.out.below HB.out) q hlt2.1
                    have hg := getD_at ys q ByteArray.empty hlt2.1
                    have hd : decl 2 ys (q + 1) = addM (decl 2 ys q) (cutS ys[q] 10) ⟨2, q, 0⟩ := by rw [← hg]; rfl
                    have Hd := Lib.hid hd
                    obtain ⟨⟨e1, e2, e3⟩, he⟩ := decl_has 2 ys q (q + 1) (by omega)
                    have hef : e1 = 2 := decl_file 2 ys (q + 1) _ _ he
                    subst hef
                    rw [hg] at he
                    have He := Lib.hid he
                    generalize ys[q] = x at *
                    have Hc := Lib.hid (cut10 wc x)
                    have Ha := Lib.hid (add_to wc s _ [decl 1 xs n] (decl 2 ys q) (cutS x 10) 2 q 0 H.out (by simp))
                    have lWB2 : WB < wc.heap.size := (Array.getElem?_eq_some_iff.1 HC.out).1
                    clear hd hg he H
                    go_wp2_with (with_reducible refine halt_call ?_)
                    refine Halted.run (Hc.out.mono ?_); rintro e w' ⟨rfl, rfl⟩
                    go_wp2_with (with_reducible refine halt_call ?_)
                    refine Halted.run (Ha.out.mono ?_); rintro e w7 ⟨b, rfl, h7, f7⟩
                    rw [← Hd.out] at h7
                    have Hf := Lib.hid (find_is w7 s _ _ (cutS x 10) 2 e2 e3 true h7 (by simp) (by rw [findD_snoc, He.out]; rfl) (by rw [findD_snoc, He.out]; rfl))
                    have H7 := Lib.hid h7; have HB7 := Lib.hid (Fo.below HB.out f7 (fun k hk => .inl hk)); have HC7 := Lib.hid ((f7.block WB lWB2 (.inr rfl)).trans HC.out)
                    clear h7 f7 Ha Hc HB HC
                    go_wp2_with (with_reducible refine halt_call ?_)
                    refine Halted.run (Hf.out.mono ?_); rintro e w8 ⟨rfl, b8⟩
                    have B8 := Lib.hid (below_lay (Below.refl _ _) b8 (.cells #[.int .i64 2, .int .i64 e2, .int .i64 e3] 34))
                    have lWB7 : WB < w7.heap.size := (Array.getElem?_eq_some_iff.1 HC7.out).1
                    have HB9 := Lib.hid (below_step HB7.out B8.out); have H9 := Lib.hid (H7.out.below B8.out); have HC9 := Lib.hid ((B8.out.block WB lWB7).trans HC7.out)
                    clear Hf b8 B8 H7 HB7 HC7
                    go_wp2
                    refine ⟨⟨q + 1, by omega, by omega, by go_num, HC9.out, H9.out, HB9.out⟩, by simp [intOf]; omega⟩
                  · rw [decide_eq_false hlt2]
                    have Hp := Lib.hid (pop_any wc s _ _ _ H.out (by simp) (by simp))
                    have lWB2 : WB < wc.heap.size := (Array.getElem?_eq_some_iff.1 HC.out).1
                    clear H
                    go_wp2_with (with_reducible refine halt_call ?_)
                    refine Halted.run (Hp.out.mono ?_); rintro e w7 ⟨rfl, h7, f7⟩
                    have H7 := Lib.hid h7; have HB7 := Lib.hid (Fo.below HB.out f7 (fun k hk => .inl hk)); have HC7 := Lib.hid ((f7.block WB lWB2 (.inr rfl)).trans HC.out)
                    clear h7 f7 Hp HB HC
                    go_wp2
                    go_loopw [16] (fun i wx => ∃ q : Nat, q ≤ xs.length ∧ q ≤ 15 ∧ i = .int .i64 q ∧ Below w7.heap.size w7 wx) (fun i _ => 15 - (intOf i).toNat)
                    case atStart => exact ⟨0, Nat.zero_le _, by omega, rfl, Below.refl _ _⟩
                    case round =>
                      obtain ⟨p, hp1, hp2, rfl, hB⟩ := hrel
                      have B8 := Lib.hid hB
                      clear hB
                      go_upto_region 28 with fail
                      go_cut [112] (fun c wx => c = .bool (decide (p < xs.length ∧ p < 15)) ∧ wx = wr)
                      case first =>
                        by_cases hl : p < xs.length
                        all_goals go_wp2
                        all_goals go_meet
                        all_goals first | exact ⟨congrArg Value.bool (decide_eq_decide.2 (by omega)), rfl⟩ | exact ⟨congrArg Value.bool (decide_eq_false (by omega)).symm, rfl⟩
                      case rest =>
                        obtain ⟨rfl, rfl⟩ := hcut
                        by_cases hlt3 : p < xs.length ∧ p < 15
                        · rw [decide_eq_true hlt3]
                          obtain ⟨a4, rfl, hc⟩ := (Hx.out.below (below_step HB7.out B8.out)) p hlt3.1
                          have hg := getD_at xs p ByteArray.empty hlt3.1
                          obtain ⟨⟨e1, e2, e3⟩, he⟩ := decl_has 1 xs p n (by omega)
                          have hef : e1 = 1 := decl_file 1 xs n _ _ he
                          subst hef
                          have hC5 := hC3 p (by omega)
                          rw [he] at hC5
                          rw [hg] at he
                          generalize xs[p] = x at *
                          have Hc := Lib.hid (cut10 wc x)
                          have Hf := Lib.hid (find_is wc s _ [decl 1 xs n] (cutS x 10) 1 e2 e3 true (H7.out.below B8.out) (by simp) (by rw [findD_one, he]; rfl) (by rw [findD_one, he]; rfl))
                          have lWB7 : WB < w7.heap.size := (Array.getElem?_eq_some_iff.1 HC7.out).1
                          have HC8 := (B8.out.block WB lWB7).trans HC7.out
                          clear hg he
                          go_wp2_with (with_reducible refine halt_call ?_)
                          refine Halted.run (Hc.out.mono ?_); rintro e w' ⟨rfl, rfl⟩
                          go_wp2_with (with_reducible refine halt_call ?_)
                          refine Halted.run (Hf.out.mono ?_); rintro e wa ⟨rfl, ba⟩
                          have lWB9 : WB < wc.heap.size := (Array.getElem?_eq_some_iff.1 HC8).1
                          have lWBa : WB < wa.heap.size := by have := ba.size; omega
                          have y0 : wa.cell? ⟨WB, p, none⟩ = some (.int .i64 e2) := by rw [blk_cell ((ba.block WB lWB9).trans HC8), hC5]; rfl
                          have Ba := Lib.hid (below_step B8.out (below_lay (Below.refl _ _) ba (.cells #[.int .i64 1, .int .i64 e2, .int .i64 e3] 34)))
                          clear Hc Hf ba HC8 hC5 B8
                          obtain ⟨hl3, hl4⟩ := hlt3
                          go_wp2
                          go_big_region
                          all_goals go_wp2
                          all_goals exact ⟨⟨p + 1, by omega, by omega, by go_num, Ba.out.drew⟩, by simp [intOf]; omega⟩
                        · rw [decide_eq_false hlt3]
                          go_wp2
                          go_ret
                          exact ⟨rfl, below_step HB7.out B8.out⟩
end Go.Proofs.Ytjobdofnehajpaa
