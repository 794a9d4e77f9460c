import Derived.Test.YtfdfkcapgjijiaaLeaf
namespace Go.Proofs.Ytfdfkcapgjijiaa
open Go.RowKit CrcM

theorem Try.info5 : (Try.prog.info? 5).map (fun i => (i.zero, i.size, i.bytes)) = some (some (.int .u8 0), 1, 1) := by kernel_rfl

set_option maxHeartbeats 400000 in
theorem crcAll_walk (ao bo : Option Addr) (n m ca cb : Nat) (xs ys : List Int) (w : World) (hn : n = xs.length) (hm : m = ys.length) (hna : n ≤ ca) (hnb : m ≤ cb)
    (hca : ca ≤ 9223372036854775807) (hcb : cb ≤ 9223372036854775807) (ha0 : ao = none → ca = 0) (hb0 : bo = none → cb = 0) (ba : Byt xs) (bb : Byt ys) (ra : Rd .u8 w ao xs) (rb : Rd .u8 w bo ys) :
    Calls Try.prog 4 #[.slice ao n ca, .slice bo m cb] w fun e w' => e = .returned (.bool true) ∧ Below w.heap.size w w' := by
  have Hn := Lib.hid hn; have Hm := Lib.hid hm; have Ha0 := Lib.hid ha0; have Hb0 := Lib.hid hb0; clear hn hm ha0 hb0
  have Ba := Lib.hid ba; have Bb := Lib.hid bb; have Ra := Lib.hid ra; have Rb := Lib.hid rb; clear ba bb ra rb
  obtain ⟨i0, hi, hz0, hz1, hz2⟩ := info_parts Try.info5
  have Hi := Lib.hid hi; have Hz0 := Lib.hid hz0; have Hz1 := Lib.hid hz1; have Hz2 := Lib.hid hz2; clear hi hz0 hz1 hz2
  go_enter Try.func4, Try.ntmps4
  go_wp2_with fail
  refine (begun_any _).mono ?_
  rintro e w1 ⟨rfl, hB1⟩
  go_wp2_with fail
  refine (short_any _ _ _ _ _ hna hca (by omega) (by omega)).mono ?_
  rintro e w' ⟨rfl, rfl⟩
  go_wp2_with fail
  refine (short_any _ _ _ _ _ hnb hcb (by omega) (by omega)).mono ?_
  rintro e w' ⟨rfl, rfl⟩
  rw [show (300 : Int).toNat = 300 from rfl]
  generalize hn' : min n 300 = n'
  generalize hm' : min m 300 = m'
  have hl1 : n' ≤ 300 := by omega
  have hl2 : m' ≤ 300 := by omega
  have Hn' := Lib.hid hn'; have Hm' := Lib.hid hm'; clear hn' hm'
  have Hs := hB1.size
  have Ra1 := Lib.hid ((Ra.out.take n').below hB1)
  have Rb1 := Lib.hid ((Rb.out.take m').below hB1)
  have Hxl : Hid (n' = (xs.take n').length) := Lib.hid (by rw [List.length_take]; have := Hn.out; have := Hn'.out; omega)
  have Hyl : Hid (m' = (ys.take m').length) := Lib.hid (by rw [List.length_take]; have := Hm.out; have := Hm'.out; omega)
  go_wp2_with (with_reducible refine halt_op 15 ?_)
  refine Halted.run ?_
  refine wpList_append_rd _ rfl (.const (.slice none 0 0)) (.tmp 14) 24 rfl w1.heap.size 5 i0 .u8 1 Try.underlying24 Hi.out Hz0.out Hz1.out Hz2.out _ 0 [] rfl (World.ownsRow_nil _ _ _ _) ao n' ca _ Hxl.out Ha0.out rfl Ra1.out (by unfold maxLen; omega) (by omega) (Nat.le_refl _) ?_
  intro v1 w2 hown1 hg1
  have hB12 := below_grown_none (w := w1) (w' := w2) hg1
  have hB2 := below_then hB1 hB1.size hB12
  have hs2 := hg1.size
  have Hown1 := Lib.hid hown1
  have Rb2 := Lib.hid (Rb1.out.below hB12)
  have Ra2 := Lib.hid (Ra1.out.below hB12)
  clear hown1 hg1
  go_wp2_with (with_reducible refine halt_op 17 ?_)
  refine Halted.run ?_
  refine wpList_append_rd _ rfl (.tmp 15) (.tmp 16) 24 rfl w1.heap.size 5 i0 .u8 1 Try.underlying24 Hi.out Hz0.out Hz1.out Hz2.out _ _ _ rfl Hown1.out bo m' cb _ Hyl.out Hb0.out rfl Rb2.out (by unfold maxLen; omega) (by omega) (by omega) ?_
  intro v2 w3 hown2 hg2
  have hB13 := below_grown_own hB12 hg2 (fun k hk => (Hown1.out.lt k hk).1)
  have hB3 := below_then hB1 hB1.size hB13
  obtain ⟨ao2, cap2, rfl, r2, hl, hle, hcap, hoa⟩ := own_rd hown2
  have Ra3 := Lib.hid (Ra1.out.below hB13)
  have Rb3 := Lib.hid (Rb1.out.below hB13)
  have Hl := Lib.hid hl.symm
  have R2 := Lib.hid r2
  have HB3 := Lib.hid hB3
  clear hl r2 hoa hown2 hg2 Hown1 hB3 hB13 hB12 hB1 Ra2 Rb2 Ra1 Rb1 hs2 hB2
  have B2 := Lib.hid ((Ba.out.take n').append (Bb.out.take m'))
  have hsum : V (more (sum (xs.take n')) (ys.take m')) = V (sum (xs.take n' ++ ys.take m')) := by
    unfold sum; rw [more_append]
  have Hsum := Lib.hid hsum; clear hsum
  rw [Nat.zero_add, List.nil_append] at *
  go_wp2_with fail
  refine (sum_any _ _ _ _ _ Hl.out (by omega) B2.out R2.out).mono ?_
  rintro e w' ⟨rfl, rfl⟩
  go_wp2_with fail
  refine (refsum_any _ _ _ _ _ Hl.out (by omega) B2.out R2.out).mono ?_
  rintro e w' ⟨rfl, rfl⟩
  go_wp2_with fail
  refine (sum_any _ _ _ _ _ Hxl.out (by omega) (Ba.out.take n') Ra3.out).mono ?_
  rintro e w' ⟨rfl, rfl⟩
  go_wp2_with fail
  refine (more_any _ _ _ _ _ _ _ rfl Hyl.out (by omega) (Bb.out.take m') Rb3.out).mono ?_
  rintro e w' ⟨rfl, rfl⟩
  rw [Hsum.out]
  go_wp2_with fail
  refine (sum_any _ _ _ _ _ Hl.out (by omega) B2.out R2.out).mono ?_
  rintro e w' ⟨rfl, rfl⟩
  go_wp2_with fail
  go_ret
  exact ⟨rfl, HB3.out⟩
end Go.Proofs.Ytfdfkcapgjijiaa
