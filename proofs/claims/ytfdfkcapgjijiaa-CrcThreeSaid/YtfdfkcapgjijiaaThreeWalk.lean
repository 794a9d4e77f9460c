/- The walk of CrcThree. -/
import Derived.Test.YtfdfkcapgjijiaaLeaf
import Derived.Test.YtfdfkcapgjijiaaMathb
import Derived.Deep.OwnRows
import Derived.Deep.QuietTactic
import Derived.BigQuiet
namespace Go.Proofs.Ytfdfkcapgjijiaa
open Go.RowKit CrcM

theorem Try.info5 : (Try.prog.info? 5).map (fun i => (i.zero, i.size, i.bytes)) = some (some (.int .u8 0), 1, 1) := by kernel_rfl

attribute [local go_sem high] run_min_mn

theorem sum_q (ao : Option Addr) (bs : List Int) (n cap m : Nat) (w : World) (hn : n = bs.length) (hl : n ≤ 9223372036854775807)
   (hb : Byt bs) (hc : Rd .u8 w ao bs) :
    Calls Try.prog 10 #[.slice ao n cap] (w.drewN m) fun e w' => e = .returned (.int .u32 (V (sum bs))) ∧ ∃ m', w' = w.drewN m' :=
  (sum_any ao bs n cap (w.drewN m) hn hl hb (hc.drewN m)).mono fun _ _ ⟨h1, h2⟩ => ⟨h1, m, h2.symm⟩

set_option maxHeartbeats 400000 in
theorem crcThree_walk (ao bo co : Option Addr) (n1 n2 n3 ca cb cc : Nat) (xs ys zs : List Int) (w : World) (h1 : n1 = xs.length) (h2 : n2 = ys.length) (h3 : n3 = zs.length) (hna : n1 ≤ ca) (hnb : n2 ≤ cb) (hnc : n3 ≤ cc)
    (hca : ca ≤ 9223372036854775807) (hcb : cb ≤ 9223372036854775807) (hcc : cc ≤ 9223372036854775807) (ba : Byt xs) (bb : Byt ys) (bc : Byt zs) (ra : Rd .u8 w ao xs) (rb : Rd .u8 w bo ys) (rc : Rd .u8 w co zs) :
    Calls Try.prog 6 #[.slice ao n1 ca, .slice bo n2 cb, .slice co n3 cc] w fun e w' => e = .returned (.bool true) ∧ Below w.heap.size w w' := by
  have H1 := Lib.hid h1; have H2 := Lib.hid h2; have H3 := Lib.hid h3; clear h1 h2 h3
  have Ba := Lib.hid ba; have Bb := Lib.hid bb; have Bc := Lib.hid bc; have Ra := Lib.hid ra; have Rb := Lib.hid rb; have Rc := Lib.hid rc; clear ba bb bc ra rb rc
  go_enter Try.func6, Try.ntmps6
  go_wp2_with (with_reducible refine halt_call ?_)
  refine Halted.run ((begun_any _).mono ?_)
  rintro e w1 ⟨rfl, hB1⟩
  go_wp2_with (with_reducible refine halt_op 24 ?_)
  refine Halted.run ?_
  generalize hn : mnI (mnI (n1 : Int) 100) (mnI (n2 : Int) (n3 : Int)) = nI
  obtain ⟨n, rfl, hl1, hl2, hl3, hl4⟩ : ∃ n : Nat, nI = (n : Int) ∧ n ≤ n1 ∧ n ≤ 100 ∧ n ≤ n2 ∧ n ≤ n3 := by
    refine ⟨nI.toNat, ?_⟩
    subst hn; unfold mnI; split <;> split <;> split <;> omega
  clear hn
  have hmk := run_make_row' (P := Try.prog) 24 5 (.int .u8 0) 1 Try.underlying24 Try.info5 rfl .i64 .i64 n (by omega) (by omega)
  go_wp2
  clear hmk
  generalize hB : w1.heap.size = B
  have Ra1 := Lib.hid ((Ra.out.take n).below hB1)
  have Rb1 := Lib.hid ((Rb.out.take n).below hB1)
  have Rc1 := Lib.hid ((Rc.out.take n).below hB1)
  have Ba1 := Lib.hid (Ba.out.take n); have Bb1 := Lib.hid (Bb.out.take n); have Bc1 := Lib.hid (Bc.out.take n)
  have L1 : Hid ((xs.take n).length = n) := Lib.hid (by have := H1.out; rw [List.length_take]; omega)
  have L2 : Hid ((ys.take n).length = n) := Lib.hid (by have := H2.out; rw [List.length_take]; omega)
  have L3 : Hid ((zs.take n).length = n) := Lib.hid (by have := H3.out; rw [List.length_take]; omega)
  have HB1 := Lib.hid hB1
  have HB := Lib.hid hB
  clear Ra Rb Rc Ba Bb Bc H1 H2 H3 hB1 hB
  generalize xs.take n = us at *
  generalize ys.take n = bs at *
  generalize zs.take n = cs at *
  generalize hD : List.zipWith bx (List.zipWith bx us bs) cs = ds
  have hdl : ds.length = n := by subst hD; have := L1.out; have := L2.out; have := L3.out; simp; omega
  have Hdl := Lib.hid hdl
  have HD := Lib.hid hD
  clear hdl hD
  go_loopw [10] (fun i wr => ∃ k : Nat, k ≤ n ∧ i = .int .i64 k ∧ wr.heap[B]? = some (.cells ((ds.take k ++ List.replicate (n - k) 0).map (Value.int .u8)).toArray 5 (0, 0)) ∧ Below B w1 wr) (fun i _ => n - (intOf i).toNat)
  case atStart =>
    refine ⟨0, Nat.zero_le _, rfl, ?_, ?_⟩
    · rw [← HB.out, blk_new]
      congr 2
      apply Array.ext'
      rw [toList_madeCells_one]
      simp
    · rw [← HB.out]; exact (Below.refl _ _).alloc (Nat.le_refl _) _
  case round =>
    obtain ⟨k, hk, rfl, hblk, hbel⟩ := hrel
    by_cases hlt : k < n
    · obtain ⟨a, ha, ca1⟩ := Ra1.out k (by have := L1.out; omega)
      obtain ⟨b, hb, cb1⟩ := Rb1.out k (by have := L2.out; omega)
      obtain ⟨c, hc, cc1⟩ := Rc1.out k (by have := L3.out; omega)
      have b1 := Ba1.out _ (List.getElem_mem (show k < us.length by have := L1.out; omega))
      have b2 := Bb1.out _ (List.getElem_mem (show k < bs.length by have := L2.out; omega))
      have b3 := Bc1.out _ (List.getElem_mem (show k < cs.length by have := L3.out; omega))
      have hdk : ds[k]'(by have := Hdl.out; omega) = bx (bx (us[k]'(by have := L1.out; omega)) (bs[k]'(by have := L2.out; omega))) (cs[k]'(by have := L3.out; omega)) := by
        simp only [← HD.out, List.getElem_zipWith]
      generalize us[k]'(by have := L1.out; omega) = x at ca1 b1 hdk
      generalize bs[k]'(by have := L2.out; omega) = y at cb1 b2 hdk
      generalize cs[k]'(by have := L3.out; omega) = z at cc1 b3 hdk
      have Hdk := Lib.hid hdk
      subst ha hb hc
      have hx1 : bits .xor .u8 x y = bx x y := u8_xor x y b1.1 (by omega) b2.1 (by omega)
      have b4 := bx_bounds b1.1 b1.2 b2.1 b2.2
      have hx2 : bits .xor .u8 (bx x y) z = bx (bx x y) z := u8_xor _ z b4.1 (by omega) b3.1 (by omega)
      have hlB : ∀ {p : Addr} {v : Value}, w1.cell? p = some v → wr.cell? p = some v := fun {p v} h => by
        rw [hbel.cell (by rw [← HB.out]; exact World.block_lt_of_cell? _ _ h)]; exact h
      have c1 := hlB ca1
      have c2 := hlB cb1
      have c3 := hlB cc1
      have c4 : wr.cell? ⟨B, k, none⟩ = some (.int .u8 0) := by
        rw [blk_cell hblk, List.getElem?_toArray, List.getElem?_map, List.getElem?_append_right (by rw [List.length_take]; omega)]
        have hz : k - (ds.take k).length < n - k := by rw [List.length_take]; have := Hdl.out; omega
        rw [List.getElem?_replicate, if_pos hz]; rfl
      have f4 := blk_free hblk k
      have Hblk := Lib.hid hblk
      have Hbel := Lib.hid hbel
      clear hblk hbel hlB ca1 cb1 cc1 hdk b1 b2 b3 b4
      go_wp2
      go_region
      all_goals go_wp2
      go_roundw
      case rel =>
        refine ⟨k + 1, by omega, by go_num, ?_, ?_⟩
        · refine Eq.trans (blk_set Hblk.out k _) ?_
          rw [← Hdk.out, fill_step _ _ _ _ Hdl.out]
        · exact (Hbel.out.setCell (by exact Nat.le_refl _) _).drew
      case measure => simp [intOf]; omega
    · have hk' : k = n := by omega
      subst hk'
      rw [Nat.sub_self, List.replicate_zero, List.append_nil, ← Hdl.out, List.take_length] at hblk
      have HB2 := hbel.size
      have Ra2 : Hid (Rd .u8 wr ao us) := Lib.hid (Ra1.out.below (by rw [HB.out]; exact hbel))
      have Rb2 : Hid (Rd .u8 wr bo bs) := Lib.hid (Rb1.out.below (by rw [HB.out]; exact hbel))
      have Rc2 : Hid (Rd .u8 wr co cs) := Lib.hid (Rc1.out.below (by rw [HB.out]; exact hbel))
      have Rd2 : Hid (Rd .u8 wr (some ⟨B, 0, none⟩) ds) := Lib.hid (fun i hi => ⟨_, rfl, by
        rw [add_at, blk_cell hblk, List.getElem?_toArray, List.getElem?_map, List.getElem?_eq_getElem hi]; rfl⟩)
      have HBW : Hid (Below w.heap.size w wr) := Lib.hid (below_then HB1.out HB1.out.size (by rw [HB.out]; exact hbel))
      clear hblk hbel
      have Hs := Lib.hid (sum_xor3 us bs cs (by rw [L1.out, L2.out]) (by rw [L1.out, L3.out]) Ba1.out Bb1.out Bc1.out)
      have Bd1 : Hid (Byt ds) := Lib.hid (by rw [← HD.out]; exact bytes_zip (bytes_zip Ba1.out Bb1.out) Bc1.out)
      have hxv := u32_xor_v
      go_wp2
      go_quiet ((first | (with_reducible exact sum_q _ ds _ _ _ _ Hdl.out.symm (by omega) Bd1.out Rd2.out) | (with_reducible exact sum_q _ us _ _ _ _ L1.out.symm (by omega) Ba1.out Ra2.out) | (with_reducible exact sum_q _ bs _ _ _ _ L2.out.symm (by omega) Bb1.out Rb2.out) | (with_reducible exact sum_q _ cs _ _ _ _ L3.out.symm (by omega) Bc1.out Rc2.out)))
      clear hxv
      go_wp2
      go_ret
      refine ⟨?_, belowN HBW.out _⟩
      rw [← Hs.out, HD.out]
      simp
end Go.Proofs.Ytfdfkcapgjijiaa
