/- The walk of CrcBurst. -/
import Derived.Test.YtfdfkcapgjijiaaLeaf
import Derived.Test.YtfdfkcapgjijiaaMathc
namespace Go.Proofs.Ytfdfkcapgjijiaa
open Go.RowKit CrcM

theorem Try.info5b : (Try.prog.info? 5).map (fun i => (i.zero, i.size, i.bytes)) = some (some (.int .u8 0), 1, 1) := by kernel_rfl

def someOf (ys : List Int) : Bool := ys.any (fun c => c != 0)
theorem someOf_snoc (ys : List Int) (k : Nat) (h : k < ys.length) : someOf (ys.take (k + 1)) = (someOf (ys.take k) || ys[k] != 0) := by
  unfold someOf
  rw [List.take_succ_eq_append_getElem h, List.any_append]
  simp
theorem someOf_iff {ys : List Int} (h : someOf ys = true) : ∃ c ∈ ys, c ≠ 0 := by
  unfold someOf at h
  simpa using h

set_option maxHeartbeats 1600000 in
theorem crcBurst_walk (ao bo : Option Addr) (n1 n2 ca cb : Nat) (p : Int) (xs ys : List Int) (w : World) (h1 : n1 = xs.length) (h2 : n2 = ys.length) (hna : n1 ≤ ca) (hnb : n2 ≤ cb)
    (hca : ca ≤ 9223372036854775807) (hcb : cb ≤ 9223372036854775807) (ha0 : ao = none → ca = 0) (ba : Byt xs) (bb : Byt ys) (ra : Rd .u8 w ao xs) (rb : Rd .u8 w bo ys) :
    Calls Try.prog 5 #[.slice ao n1 ca, .int .i64 p, .slice bo n2 cb] w fun e w' => e = .returned (.bool true) ∧ Below w.heap.size w w' := by
  have H1 := Lib.hid h1; have H2 := Lib.hid h2; have Ha0 := Lib.hid ha0; clear h1 h2 ha0
  have Ba := Lib.hid ba; have Bb := Lib.hid bb; have Ra := Lib.hid ra; have Rb := Lib.hid rb; clear ba bb ra rb
  obtain ⟨i0, hi, hz0, hz1, hz2⟩ := info_parts Try.info5b
  have Hi := Lib.hid hi; have Hz0 := Lib.hid hz0; have Hz1 := Lib.hid hz1; have Hz2 := Lib.hid hz2; clear hi hz0 hz1 hz2
  go_enter Try.func5, Try.ntmps5
  go_wp2_with (with_reducible refine halt_call ?_)
  refine Halted.run ((begun_any _).mono ?_)
  rintro e w1 ⟨rfl, hB1⟩
  go_wp2_with (with_reducible refine halt_call ?_)
  refine Halted.run ((short_any _ _ _ _ _ hna hca (by omega) (by omega)).mono ?_)
  rintro e w' ⟨rfl, rfl⟩
  go_wp2_with (with_reducible refine halt_call ?_)
  refine Halted.run ((short_any _ _ _ _ _ hnb hcb (by omega) (by omega)).mono ?_)
  rintro e w' ⟨rfl, rfl⟩
  rw [show (4 : Int).toNat = 4 from rfl]
  generalize hn' : min n1 200 = n
  generalize hm' : min n2 4 = m
  have hl1 : n ≤ 200 := by omega
  have hl2 : m ≤ 4 := by omega
  have hl3 : n ≤ ca := by omega
  have L1 : Hid ((xs.take n).length = n) := Lib.hid (by have := H1.out; rw [List.length_take]; omega)
  have L2 : Hid ((ys.take m).length = m) := Lib.hid (by have := H2.out; rw [List.length_take]; omega)
  have Ra1 := Lib.hid ((Ra.out.take n).below hB1)
  have Rb1 := Lib.hid ((Rb.out.take m).below hB1)
  have Ba1 := Lib.hid (Ba.out.take n); have Bb1 := Lib.hid (Bb.out.take m)
  have HB1 := Lib.hid hB1
  clear Ra Rb Ba Bb H1 H2 hB1 hn' hm'
  generalize xs.take n = us at *
  generalize ys.take m = vs at *
  go_wp2_with fail
  go_loop [8, 9] (fun s i => ∃ k : Nat, k ≤ m ∧ i = .int .i64 k ∧ s = .bool (someOf (vs.take k))) (fun _ i => m - (intOf i).toNat)
  case atStart => exact ⟨0, Nat.zero_le _, rfl, rfl⟩
  case round =>
    obtain ⟨k, hk, rfl, rfl⟩ := hrel
    by_cases hlt : k < m
    · obtain ⟨b, hb, hcell⟩ := Rb1.out k (by have := L2.out; omega)
      have hs := someOf_snoc vs k (by have := L2.out; omega)
      generalize vs[k]'(by have := L2.out; omega) = c at hcell hs
      subst hb
      generalize hso : someOf (vs.take k) = so at hs ⊢
      have Hs := Lib.hid hs
      clear hso hs
      cases so
      · go_wp2
        go_round
        case rel => exact ⟨k + 1, by omega, by go_num, by rw [Hs.out]; rfl⟩
        case measure => simp [intOf]; omega
      · go_wp2
        go_round
        case rel => exact ⟨k + 1, by omega, by go_num, by rw [Hs.out]; rfl⟩
        case measure => simp [intOf]; omega
    · have hk' : k = m := by omega
      subst hk'
      have e : vs.take k = vs := by rw [← L2.out, List.take_length]
      rw [e]
      clear e
      generalize hso : someOf vs = so
      have Hso := Lib.hid hso; clear hso
      by_cases hp0 : p < 0
      · go_wp2
        go_ret
        exact ⟨rfl, HB1.out⟩
      · by_cases hp1 : (n : Int) - (k : Int) < p
        · go_wp2
          go_ret
          exact ⟨rfl, HB1.out⟩
        · cases so
          · go_wp2
            go_ret
            exact ⟨rfl, HB1.out⟩
          · obtain ⟨q, rfl⟩ := Int.eq_ofNat_of_zero_le (show 0 ≤ p by omega)
            have hqn : q + k ≤ n := by omega
            have hm1 : 1 ≤ k := by
              have hs := Hso.out
              rcases Nat.eq_zero_or_pos k with h0 | h0
              · exfalso
                have : vs = [] := List.eq_nil_of_length_eq_zero (by rw [L2.out]; exact h0)
                subst this
                simp [someOf] at hs
              · exact h0
            go_wp2_with (with_reducible refine halt_op 49 ?_)
            refine Halted.run ?_
            refine wpList_append_rd _ rfl (.const (.slice none 0 0)) (.tmp 48) 24 rfl w1.heap.size 5 i0 .u8 1 Try.underlying24 Hi.out Hz0.out Hz1.out Hz2.out _ 0 [] rfl (World.ownsRow_nil _ _ _ _) ao n ca _ L1.out.symm Ha0.out rfl Ra1.out (by unfold maxLen; omega) (by omega) (Nat.le_refl _) ?_
            intro v1 w2 hown hg1
            have hB12 := below_grown_none (w := w1) (w' := w2) hg1
            rw [Nat.zero_add, List.nil_append] at hown
            rcases hown.2 with ⟨_, h0⟩ | ⟨g, cap, cur, rfl, hgb, hgh, hnc, hcm, hcs, htk⟩
            · exfalso; omega
            have hcur : cur = (us.map (Value.int .u8) ++ cur.toList.drop n).toArray := by
              apply Array.ext'
              have := List.take_append_drop n cur.toList
              rw [Nat.mul_one] at htk
              rw [htk] at this
              exact this.symm
            generalize cur.toList.drop n = rest at hcur
            subst hcur
            have Hgh := Lib.hid hgh
            have HB12 := Lib.hid hB12
            have hcap : cap ≤ 9223372036854775807 := by simpa [maxLen] using hcm
            clear hown hg1 hgh hcm hcs htk hB12
            go_wp2
            go_loopw [11] (fun i wr => ∃ j : Nat, j ≤ k ∧ i = .int .i64 j ∧ wr.heap[g]? = some (.cells ((mix us vs q j).map (Value.int .u8) ++ rest).toArray 5 (0, 0)) ∧ Below w1.heap.size w1 wr) (fun i _ => k - (intOf i).toNat)
            case atStart => exact ⟨0, Nat.zero_le _, rfl, Hgh.out, HB12.out⟩
            case round =>
              obtain ⟨j, hj, rfl, hblk, hbel⟩ := hrel
              by_cases hlt : j < k
              · obtain ⟨b, hb, cb1⟩ := Rb1.out j (by have := L2.out; omega)
                have b1 := Ba1.out _ (List.getElem_mem (show q + j < us.length by have := L1.out; omega))
                have b2 := Bb1.out _ (List.getElem_mem (show j < vs.length by have := L2.out; omega))
                have e1 : us.getD (q + j) 0 = us[q + j]'(by have := L1.out; omega) := by simp [List.getD_eq_getElem?_getD, List.getElem?_eq_getElem (show q + j < us.length by have := L1.out; omega)]
                have e2 : vs.getD j 0 = vs[j]'(by have := L2.out; omega) := by simp [List.getD_eq_getElem?_getD, List.getElem?_eq_getElem (show j < vs.length by have := L2.out; omega)]
                have hstep : mix us vs q (j + 1) = (mix us vs q j).set (q + j) (bx (us[q + j]'(by have := L1.out; omega)) (vs[j]'(by have := L2.out; omega))) := by rw [mix, e1, e2]
                have c4 : wr.cell? ⟨g, q + j, none⟩ = some (.int .u8 (us[q + j]'(by have := L1.out; omega))) := by
                  have hl := L1.out
                  rw [blk_cell hblk, List.getElem?_toArray, List.getElem?_append_left (by rw [List.length_map, mix_length]; omega), List.getElem?_map, mix_at _ _ _ _ _ (by omega), if_neg (by omega), List.getElem?_eq_getElem (by omega)]
                  rfl
                generalize us[q + j]'(by have := L1.out; omega) = x at c4 b1 hstep
                generalize vs[j]'(by have := L2.out; omega) = y at cb1 b2 hstep
                clear e1 e2
                have f4 := blk_free hblk (q + j)
                have hx1 : bits .xor .u8 x y = bx x y := u8_xor x y b1.1 (by omega) b2.1 (by omega)
                have c2 : wr.cell? (b.add j) = some (.int .u8 y) := by
                  rw [hbel.cell (World.block_lt_of_cell? _ _ cb1)]; exact cb1
                subst hb
                have Hstep := Lib.hid hstep
                have Hblk := Lib.hid hblk
                have Hbel := Lib.hid hbel
                have ht : ((q : Int) + (j : Int)).toNat = q + j := by omega
                clear hblk hbel cb1 hstep b1 b2
                go_wp2
                go_region
                all_goals go_wp2
                go_roundw
                case rel =>
                  refine ⟨j + 1, by omega, by go_num, ?_, ?_⟩
                  · refine Eq.trans (blk_set Hblk.out (q + j) _) ?_
                    rw [Hstep.out]
                    congr 2
                    apply Array.ext'
                    rw [Array.toList_setIfInBounds]
                    show ((mix us vs q j).map (Value.int .u8) ++ rest).set (q + j) _ = _
                    rw [List.set_append_left _ _ (by rw [List.length_map, mix_length]; have := L1.out; omega), List.map_set]
                  · exact (Hbel.out.setCell (by exact hgb) _).drew
                case measure => simp [intOf]; omega
              · have hj' : j = k := by omega
                subst hj'
                have hl1 := L1.out
                have hl2 := L2.out
                have hne := mix_ne us vs q (by omega) (by omega) Ba1.out Bb1.out (someOf_iff Hso.out)
                have hby := mix_bytes us vs q Ba1.out Bb1.out j (by omega) (by omega)
                rw [hl2] at hne
                have Ra2 : Hid (Rd .u8 wr ao us) := Lib.hid (Ra1.out.below hbel)
                have hml := mix_length us vs q j
                generalize mix us vs q j = ms at *
                have Rm : Hid (Rd .u8 wr (some ⟨g, 0, none⟩) ms) := Lib.hid (fun i hi => ⟨_, rfl, by
                  rw [add_at, blk_cell hblk, List.getElem?_toArray, List.getElem?_append_left (by simpa using hi), List.getElem?_map, List.getElem?_eq_getElem hi]; rfl⟩)
                have HBW : Hid (Below w.heap.size w wr) := Lib.hid (below_then HB1.out HB1.out.size hbel)
                have Hby : Hid (Byt ms) := Lib.hid hby
                have Hml : Hid (n = ms.length) := Lib.hid (by omega)
                have hvne : (V (sum us) != V (sum ms)) = true := by
                  rw [bne_iff_ne]
                  exact fun e => hne (V_inj e)
                have Hne := Lib.hid hvne
                clear hblk hbel hby hml hne hl1 hl2 hvne
                go_wp2_with (with_reducible refine halt_call ?_)
                refine Halted.run ((sum_any _ us _ _ _ L1.out.symm (by omega) Ba1.out Ra2.out).mono ?_)
                rintro e w' ⟨rfl, rfl⟩
                go_wp2_with (with_reducible refine halt_call ?_)
                refine Halted.run ((sum_any _ ms _ _ _ Hml.out (by omega) Hby.out Rm.out).mono ?_)
                rintro e w' ⟨rfl, rfl⟩
                have hv := Hne.out
                go_wp2
                go_ret
                exact ⟨by first | rfl | rw [hv], HBW.out⟩
end Go.Proofs.Ytfdfkcapgjijiaa
