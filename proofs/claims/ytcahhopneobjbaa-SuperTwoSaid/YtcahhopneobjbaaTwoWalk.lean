/- SuperTwo's walk. -/
import Derived.Test.YtcahhopneobjbaaSupH
import Derived.Deep.DeepCutAuto
import Derived.Deep.RegionHeld3
namespace Go.Proofs.Ytcahhopneobjbaa
open Go.RowKit CrcM Go.Sort

def leftL : List Int := [108, 101, 102, 116]
def rightL : List Int := [114, 105, 103, 104, 116]
def leftX : List Int := leftL ++ zeros.drop 4
def rightX : List Int := rightL ++ zeros.drop 5
def twoD : Dv := ((newD 6).wr 0 leftL).wr 5 rightL
theorem byt_of {xs : List Int} (h : xs.all (fun x => decide (0 ≤ x ∧ x < 256)) = true) : Byt xs := fun x hx => of_decide_eq_true (List.all_eq_true.1 h x hx)
theorem twoD_live : Live 2 twoD ∧ twoD.n = 6 := by
  obtain ⟨l1, n1⟩ := (newD_live 6).wr 0 leftL (by show (0 : Int) ≤ 0 ∧ (0 : Int) < 6; omega) (by decide)
  obtain ⟨l2, n2⟩ := l1.wr 5 rightL (by rw [n1]; show (0 : Int) ≤ 5 ∧ (5 : Int) < 6; omega) (by decide)
  exact ⟨l2, n2.trans n1⟩
theorem twoD_left : (twoD.sec 0).now = leftX := rfl
theorem twoD_right : (twoD.sec 5).now = rightX := rfl
set_option maxHeartbeats 40000000 in
set_option maxRecDepth 20000 in
theorem superTwo_any (ao : Option Addr) (m cap : Nat) (xs : List Int) (bo : Option Addr) (m2 cap2 : Nat) (ys : List Int) (ko : Option Addr) (m4 cap4 : Nat) (ks : List Bool) (w : World)
    (hm : m = xs.length) (hmc : m ≤ cap) (hcap : cap ≤ 9223372036854775807) (hcn : ao = none → cap = 0) (hx : Rd .u8 w ao xs) (hxb : Byt xs)
    (hm2 : m2 = ys.length) (hmc2 : m2 ≤ cap2) (hcap2 : cap2 ≤ 9223372036854775807) (hcn2 : bo = none → cap2 = 0) (hy : Rd .u8 w bo ys) (hyb : Byt ys)
    (hm4 : m4 = ks.length) (hcap4 : m4 ≤ 9223372036854775807) (hk : RdB w ko ks) :
    Calls Try.prog 11 #[.slice ao m cap, .slice bo m2 cap2, .slice ko m4 cap4] w fun e w' => e = .returned (.bool true) ∧ Below w.heap.size w w' := by
  subst hm hm2 hm4
  have Hb := Lib.hid (begun21_any w)
  have Hx := Lib.hid hx; have Hy := Lib.hid hy; have Hxb := Lib.hid hxb; have Hyb := Lib.hid hyb; have Hk := Lib.hid hk; have Hcn := Lib.hid hcn; have Hcn2 := Lib.hid hcn2
  clear hx hy hxb hyb hk hcn hcn2
  have kc := fun (w : World) (C : Array Value) (n c : Nat) => Lib.run_convert_bytes_const (P := Try.prog) w 22 5 C n c Try.underlying22 Try.underlying5
  go_enter Try.func11, Try.ntmps11
  go_wp2_with (with_reducible refine halt_call ?_)
  refine Halted.run (Hb.out.mono ?_); rintro e w1 ⟨rfl, hB1⟩
  have HB1 := Lib.hid hB1
  clear hB1 Hb
  by_cases h1 : 40 < xs.length
  · go_wp2
    go_ret
    exact ⟨rfl, HB1.out⟩
  by_cases h2 : 40 < ys.length
  · go_wp2
    go_ret
    exact ⟨rfl, HB1.out⟩
  have ta : xs.length ≤ 40 := by omega
  have tb : ys.length ≤ 40 := by omega
  have hnew := new_is 6 w1
  rw [show clamp 6 = 6 from by decide] at hnew
  have Hn := Lib.hid hnew
  clear hnew
  go_wp2_with (with_reducible refine halt_call ?_)
  refine Halted.run (Hn.out.mono ?_); rintro e w2 ⟨b, r, rfl, hd2, hb, hr, hB2⟩
  have g1 := HB1.out.size
  have lb := hd2.lt_b; have lr := hd2.lt_r
  have a2 : Below w2.heap.size w2 (w2.alloc (.cells #[.int .u8 108, .int .u8 101, .int .u8 102, .int .u8 116] 5 (4, 5))) := (Below.refl _ _).alloc (Nat.le_refl _) _
  have hwr := write_any _ b r (newD 6) 0 leftL (some ⟨w2.heap.size, 0, none⟩) 4 4 rfl (hd2.below a2) ((newD_live 6).fit (by omega)) (rd_new .u8 w2 leftL _ 5 (4, 5) rfl) (byt_of (by decide)) (by intro a ha; cases ha; simp; omega) (by decide)
  obtain ⟨qe1, hqe1⟩ : ∃ q, (newD 6).wErr 0 leftL.length = q := ⟨_, rfl⟩
  rw [hqe1] at hwr
  clear hqe1
  have Hwr := Lib.hid hwr; have HB2 := Lib.hid (below_step (below_step HB1.out hB2) a2)
  have z2 : (w2.alloc (.cells #[.int .u8 108, .int .u8 101, .int .u8 102, .int .u8 116] 5 (4, 5))).heap.size = w2.heap.size + 1 := by simp
  clear Hn hB2 HB1 hd2 hwr a2
  go_wp2_with (with_reducible refine halt_call ?_)
  refine Halted.run (Hwr.out.mono ?_); rintro e w3 ⟨rfl, hd3, hb3⟩
  have l3 := hb3.size
  have lb3 := hd3.lt_b; have lr3 := hd3.lt_r
  have a3 : Below w3.heap.size w3 (w3.alloc (.cells #[.int .u8 114, .int .u8 105, .int .u8 103, .int .u8 104, .int .u8 116] 5 (5, 6))) := (Below.refl _ _).alloc (Nat.le_refl _) _
  obtain ⟨lv1, ln1⟩ := (newD_live 6).wr 0 leftL (by show (0 : Int) ≤ 0 ∧ (0 : Int) < 6; omega) (by decide)
  have hwr := write_any _ b r ((newD 6).wr 0 leftL) 5 rightL (some ⟨w3.heap.size, 0, none⟩) 5 5 rfl (hd3.below a3) (lv1.fit (by omega)) (rd_new .u8 w3 rightL _ 5 (5, 6) rfl) (byt_of (by decide)) (by intro a ha; cases ha; simp; omega) (by decide)
  obtain ⟨qe2, hqe2⟩ : ∃ q, ((newD 6).wr 0 leftL).wErr 5 rightL.length = q := ⟨_, rfl⟩
  rw [hqe2] at hwr
  clear hqe2
  have Hwr2 := Lib.hid hwr; have HB3 := Lib.hid (below_step (But.step HB2.out hb3 (by simp; omega)) a3)
  clear Hwr hd3 hb3 hwr a3 HB2 z2 lv1 ln1
  go_wp2_with (with_reducible refine halt_call ?_)
  refine Halted.run (Hwr2.out.mono ?_); rintro e w4 ⟨rfl, hd4, hb4⟩
  replace hd4 : DevAt w4 b r twoD := hd4
  have HB4 := Lib.hid (But.step HB3.out hb4 (by simp; omega))
  have g4 := HB4.out.size; have lb4 := hd4.lt_b; have lr4 := hd4.lt_r
  have X4 := Lib.hid (fun i hi => hd4.len64 i hi)
  have hmk := make_any w4 b r [b, r] 2 twoD 1 ao xs.length cap xs hd4 twoD_live.1 (by omega) (by omega) (by rw [twoD_live.2]; decide) (by simp) (by simp) (by intro k hk; simp at hk; omega) rfl ta (Hx.out.below HB4.out) Hxb.out (by intro a ha hy; have := Hx.out.lt a ha hy; simp; omega) Hcn.out hmc
  have Hmk := Lib.hid hmk
  clear Hwr2 hd4 hb4 hmk HB3
  go_wp2_with (with_reducible refine halt_call ?_)
  refine Halted.run (Hmk.out.mono ?_); rintro e w5 ⟨s, rfl, hs, hd5, hb5, hs5⟩
  have n6 : twoD.n = 6 := twoD_live.2
  obtain ⟨k5, l5, n5⟩ := Kept.make twoD_live.1 1 (by rw [n6]; omega) xs ta Hxb.out X4.out
  have hl5 : Lasts (mkD twoD ((1 : Nat) : Int) xs) 0 leftX := by
    have := mk_other twoD_live.1 1 (by rw [n6]; omega) xs ta X4.out 0 (by rw [n6]; omega) (by omega) (by omega)
    unfold Lasts; rw [this]; show (⟨(twoD.sec 0).now, (twoD.sec 0).now, false⟩ : Sec) = _; rw [twoD_left]
  have hr5 : Lasts (mkD twoD ((1 : Nat) : Int) xs) 5 rightX := by
    have := mk_other twoD_live.1 1 (by rw [n6]; omega) xs ta X4.out 5 (by rw [n6]; omega) (by omega) (by omega)
    unfold Lasts; rw [this]; show (⟨(twoD.sec 5).now, (twoD.sec 5).now, false⟩ : Sec) = _; rw [twoD_right]
  replace hd5 : DevAt w5 b r (mkD twoD ((1 : Nat) : Int) xs) := hd5
  generalize mkD twoD ((1 : Nat) : Int) xs = D5 at *
  replace n5 : D5.n = 6 := n5.trans n6
  have HB5 := Lib.hid (But.step HB4.out hb5 (by simp; omega))
  have g5 := hb5.size; have ls5 := hs5.lt
  have X5 := Lib.hid (fun i hi => hd5.len64 i hi)
  have hmk := make_any w5 b r [s, b, r] (2 + 4) D5 3 bo ys.length cap2 ys hd5 l5 (by omega) (by omega) (by rw [n5]; decide) (by simp) (by simp) (by intro k hk; simp at hk; omega) rfl tb (Hy.out.below HB5.out) Hyb.out (by intro a ha hy; have := Hy.out.lt a ha hy; simp; omega) Hcn2.out hmc2
  have Hmk2 := Lib.hid hmk; have HS5 := Lib.hid hs5; have K5 := Lib.hid k5; have L5 := Lib.hid l5; have HL5 := Lib.hid hl5; have HR5 := Lib.hid hr5
  have hsb5 : s ≠ b ∧ s ≠ r := by omega
  clear Hmk hd5 hb5 hs5 hmk k5 l5 hl5 hr5 X4 HB4 n6
  go_wp2_with (with_reducible refine halt_call ?_)
  refine Halted.run (Hmk2.out.mono ?_); rintro e w6 ⟨t, rfl, ht, hd6, hb6, ht6⟩
  obtain ⟨k6, l6, n6⟩ := Kept.make L5.out 3 (by rw [n5]; omega) ys tb Hyb.out X5.out
  have oth := mk_other L5.out 3 (by rw [n5]; omega) ys tb X5.out
  have k61 : Kept (mkD D5 ((3 : Nat) : Int) ys) 1 (fun k => if k = 0 then some ((1 : Int), xs) else none) := K5.out.of_fl (fun k hk => oth _ (by rw [n5]; omega) (by omega) (by omega))
  have hl6 : Lasts (mkD D5 ((3 : Nat) : Int) ys) 0 leftX := HL5.out.fl (oth 0 (by rw [n5]; omega) (by omega) (by omega))
  have hr6 : Lasts (mkD D5 ((3 : Nat) : Int) ys) 5 rightX := HR5.out.fl (oth 5 (by rw [n5]; omega) (by omega) (by omega))
  replace hd6 : DevAt w6 b r (mkD D5 ((3 : Nat) : Int) ys) := hd6
  have hs6 : SupAt w6 s b [t, s, b, r] 1 0 1 xs := (HS5.out.more t ht).but hb6 (by simp; omega) (by intro k hk; simp at hk ⊢; omega)
  generalize mkD D5 ((3 : Nat) : Int) ys = D6 at *
  replace n6 : D6.n = 6 := n6.trans n5
  have HB6 := Lib.hid (But.step HB5.out hb6 (by simp; omega)); have HS6 := Lib.hid hs6; have HT6 := Lib.hid ht6; have K61 := Lib.hid k61; have K63 := Lib.hid k6; have L6 := Lib.hid l6; have HL6 := Lib.hid hl6; have HR6 := Lib.hid hr6; have HD6 := Lib.hid hd6
  have hws : w.heap.size ≤ s := by omega
  have hst : s < t := by omega
  have htb : t ≠ b ∧ t ≠ r := by omega
  have hbr : w.heap.size ≤ b ∧ w.heap.size ≤ r := by omega
  clear Hmk2 hd6 hb6 ht6 hs6 k6 l6 k61 hl6 hr6 oth HS5 K5 L5 HL5 HR5 X5 HB5 n5 hb hr g1 g4 g5 lb lr lb3 lr3 lb4 lr4 l3 hs ht ls5
  go_wp2
  go_loopw [13, 14, 15] (fun n m i wx => ∃ (k : Nat) (na nb sa sb : Int) (D : Dv) (oa ob : Nat → Option (Int × List Int)), k ≤ ks.length ∧ k ≤ 10 ∧ i = .int .i64 k ∧ n = .int .i64 na ∧ m = .int .i64 nb ∧ 1 ≤ na ∧ na ≤ k + 1 ∧ 1 ≤ nb ∧ nb ≤ k + 1 ∧ (sa = 0 ∨ sa = 1) ∧ (sb = 0 ∨ sb = 1) ∧
    DevAt wx b r D ∧ Live (10 + 2 * k) D ∧ D.n = 6 ∧ Kept D ((1 : Nat)) oa ∧ Kept D 3 ob ∧ accTo oa 2 = ⟨sa, na, xs⟩ ∧ accTo ob 2 = ⟨sb, nb, ys⟩ ∧ Lasts D 0 leftX ∧ Lasts D 5 rightX ∧ SupAt wx s b [t, s, b, r] 1 sa na xs ∧ SupAt wx t b [t, s, b, r] 3 sb nb ys ∧ Below w.heap.size w wx ∧ w6.heap.size ≤ wx.heap.size) (fun _ _ i _ => 10 - (intOf i).toNat)
  case atStart => exact ⟨0, 1, 1, 0, 0, D6, _, _, Nat.zero_le _, by omega, rfl, rfl, rfl, by omega, by omega, by omega, by omega, .inl rfl, .inl rfl, HD6.out, L6.out, n6, K61.out, K63.out, rfl, rfl, HL6.out, HR6.out, HS6.out, HT6.out, HB6.out, Nat.le_refl _⟩
  case round =>
    have lt6 := HT6.out.lt
    have lb6 := HD6.out.lt_b; have lr6 := HD6.out.lt_r
    clear K61 K63 L6 HL6 HR6 HS6 HT6 HB6 HD6
    obtain ⟨k, na, nb, sa, sb, D, oa, ob, hk1, hk2, rfl, rfl, rfl, hna0, hna1, hnb0, hnb1, hsa, hsb, hd, hl, n6', ka, kb, haa, hab, hll, hrr, hs, ht, hB, hsz⟩ := hrel
    have X := Lib.hid (fun i hi => hd.len64 i hi)
    have HD := Lib.hid hd; have L := Lib.hid hl; have KA := Lib.hid ka; have KB := Lib.hid kb; have HAA := Lib.hid haa; have HAB := Lib.hid hab; have HL := Lib.hid hll; have HR := Lib.hid hrr; have HSA := Lib.hid hs; have HSB := Lib.hid ht; have HB := Lib.hid hB
    clear hd hl ka kb haa hab hll hrr hs ht hB
    go_upto_region 15 with fail
    go_cut [68] (fun c wx => c = .bool (decide (k < ks.length ∧ k < 10)) ∧ wx = wr)
    case first =>
      by_cases hl : k < ks.length
      all_goals go_wp2
      all_goals go_meet
      all_goals first | exact ⟨congrArg Value.bool (decide_eq_decide.2 (by omega)), rfl⟩ | exact ⟨congrArg Value.bool (decide_eq_false (by omega)).symm, rfl⟩
    case rest =>
      obtain ⟨rfl, rfl⟩ := hcut
      by_cases hlt : k < ks.length ∧ k < 10
      · rw [decide_eq_true hlt]
        obtain ⟨a, ha, hc⟩ := (Hk.out.below HB.out) k hlt.1
        subst ha
        cases hok : ks[k] <;> rw [hok] at hc
        · skip
          have hsv := save_any wc t b r [t, s, b, r] 3 sb nb ys bo ys.length cap2 ys D HSB.out HD.out (L.out.fit (by omega)) (by have := L.out.c1; omega) (by intro k hk; simp at hk ⊢; omega) (by intro k hk; simp at hk; omega) (by omega) (by rw [n6']; omega) (by omega) (by omega) (by omega) (by omega) rfl tb (Hy.out.below HB.out) Hyb.out (by intro a ha hy; have := Hy.out.lt a ha hy; simp; omega) Hcn2.out hmc2
          have Hsv := Lib.hid hsv
          clear hsv
          go_wp2_with (with_reducible refine halt_call ?_)
          refine Halted.run (Hsv.out.mono ?_); intro e w7 hp7
          obtain ⟨D7, rfl, hb7, hd7, l7, n7, k7, hs7, oth7, -⟩ := save_live (pt := 3) hp7 L.out KB.out (by rw [n6']; omega) X.out hsb (by omega) (by omega) tb Hyb.out
          have ko7 := KA.out.of_fl (D' := D7) (fun k hk => oth7 _ (by rw [n6']; omega) (by omega) (by omega))
          have hl7 := HL.out.fl (D' := D7) (oth7 0 (by rw [n6']; omega) (by omega) (by omega))
          have hr7 := HR.out.fl (D' := D7) (oth7 5 (by rw [n6']; omega) (by omega) (by omega))
          have hoo := HSA.out.but hb7 (by simp; omega) (by intro k hk; simp at hk ⊢; omega)
          have hacc := accTo_upd _ _ _ _ ys HAB.out (by omega) hsb
          have HB7 := Lib.hid (But.step HB.out hb7 (by simp; omega)); have HS7 := Lib.hid hs7; have HOO7 := Lib.hid hoo; have K7 := Lib.hid k7; have KO7 := Lib.hid ko7; have HL7 := Lib.hid hl7; have HR7 := Lib.hid hr7; have L7 := Lib.hid l7; have HD7 := Lib.hid hd7; have HA7 := Lib.hid hacc
          have n7' : D7.n = 6 := n7.trans n6'
          have gw7 := hb7.size
          clear Hsv hp7 hb7 hd7 l7 n7 k7 hs7 oth7 ko7 hl7 hr7 hoo hacc HB HSA HSB KA KB HL HR L HD
          go_wp2
          refine ⟨⟨k + 1, na, nb + 1, sa, 1 - sb, D7, oa, _, by omega, by omega, by go_num, rfl, rfl, by omega, by omega, by omega, by omega, hsa, by omega, HD7.out, by rw [show (10 : Int) + 2 * ((k + 1 : Nat) : Int) = 10 + 2 * k + 2 by omega]; exact L7.out, n7', KO7.out, K7.out, HAA.out, HA7.out, HL7.out, HR7.out, HOO7.out, HS7.out, HB7.out, by omega⟩, by simp [intOf]; omega⟩
        · skip
          have hsv := save_any wc s b r [t, s, b, r] 1 sa na xs ao xs.length cap xs D HSA.out HD.out (L.out.fit (by omega)) (by have := L.out.c1; omega) (by intro k hk; simp at hk ⊢; omega) (by intro k hk; simp at hk; omega) (by omega) (by rw [n6']; omega) (by omega) (by omega) (by omega) (by omega) rfl ta (Hx.out.below HB.out) Hxb.out (by intro a ha hy; have := Hx.out.lt a ha hy; simp; omega) Hcn.out hmc
          have Hsv := Lib.hid hsv
          clear hsv
          go_wp2_with (with_reducible refine halt_call ?_)
          refine Halted.run (Hsv.out.mono ?_); intro e w7 hp7
          obtain ⟨D7, rfl, hb7, hd7, l7, n7, k7, hs7, oth7, -⟩ := save_live (pt := 1) hp7 L.out KA.out (by rw [n6']; omega) X.out hsa (by omega) (by omega) ta Hxb.out
          have ko7 := KB.out.of_fl (D' := D7) (fun k hk => oth7 _ (by rw [n6']; omega) (by omega) (by omega))
          have hl7 := HL.out.fl (D' := D7) (oth7 0 (by rw [n6']; omega) (by omega) (by omega))
          have hr7 := HR.out.fl (D' := D7) (oth7 5 (by rw [n6']; omega) (by omega) (by omega))
          have hoo := HSB.out.but hb7 (by simp; omega) (by intro k hk; simp at hk ⊢; omega)
          have hacc := accTo_upd _ _ _ _ xs HAA.out (by omega) hsa
          have HB7 := Lib.hid (But.step HB.out hb7 (by simp; omega)); have HS7 := Lib.hid hs7; have HOO7 := Lib.hid hoo; have K7 := Lib.hid k7; have KO7 := Lib.hid ko7; have HL7 := Lib.hid hl7; have HR7 := Lib.hid hr7; have L7 := Lib.hid l7; have HD7 := Lib.hid hd7; have HA7 := Lib.hid hacc
          have n7' : D7.n = 6 := n7.trans n6'
          have gw7 := hb7.size
          clear Hsv hp7 hb7 hd7 l7 n7 k7 hs7 oth7 ko7 hl7 hr7 hoo hacc HB HSA HSB KA KB HL HR L HD
          go_wp2
          refine ⟨⟨k + 1, na + 1, nb, 1 - sa, sb, D7, _, ob, by omega, by omega, by go_num, rfl, rfl, by omega, by omega, by omega, by omega, by omega, hsb, HD7.out, by rw [show (10 : Int) + 2 * ((k + 1 : Nat) : Int) = 10 + 2 * k + 2 by omega]; exact L7.out, n7', K7.out, KO7.out, HA7.out, HAB.out, HL7.out, HR7.out, HS7.out, HOO7.out, HB7.out, by omega⟩, by simp [intOf]; omega⟩
      · rw [decide_eq_false hlt]
        have hcr := crash_any wc b r D none 0 0 [] rfl HD.out RdB.nil (by simp)
        have Hcr := Lib.hid hcr
        clear hcr hsz
        go_wp2_with (with_reducible refine halt_call ?_)
        refine Halted.run (Hcr.out.mono ?_); rintro e w7 ⟨cb, cr, rfl, hc7, -, -, hb7⟩
        have nc : (D.crash []).n = 6 := n6'
        have el : ((D.crash []).sec 0).now = leftX := HL.out.crash []
        have er : ((D.crash []).sec 5).now = rightX := HR.out.crash []
        have ka := KA.out.crash []; have kb := KB.out.crash []
        generalize D.crash [] = Dc at *
        have hop := open_any w7 cb cr [] Dc 1 _ hc7 (by rw [nc]; omega) (by simp) ka.c
        have Hop := Lib.hid hop; have HB7 := Lib.hid (below_step HB.out hb7); have HC7 := Lib.hid hc7; have KB7 := Lib.hid kb; have HEl := Lib.hid el; have HEr := Lib.hid er
        clear Hcr hc7 hb7 hop ka kb el er HB KA KB HL HR HD L HSA HSB X
        go_wp2_with (with_reducible refine halt_call ?_)
        refine Halted.run (Hop.out.mono ?_); rintro e w8 ⟨hb8, hres⟩
        rw [HAA.out] at hres
        rcases hres with ⟨h0, -⟩ | ⟨-, x, rfl, -, hx8⟩
        · exact absurd h0 (show ¬ na = 0 by omega)
        have hop := open_any w8 cb cr [] Dc 3 _ (HC7.out.below hb8) (by rw [nc]; omega) (by simp) KB7.out.c
        have Hop2 := Lib.hid hop; have HB8 := Lib.hid (below_step HB7.out hb8); have HC8 := Lib.hid (HC7.out.below hb8); have HX8 := Lib.hid hx8
        clear Hop hb8 hop hx8 HB7 HC7 KB7
        go_wp2_with (with_reducible refine halt_call ?_)
        refine Halted.run (Hop2.out.mono ?_); rintro e w9 ⟨hb9, hres⟩
        rw [HAB.out] at hres
        rcases hres with ⟨h0, -⟩ | ⟨-, y, rfl, -, hy9⟩
        · exact absurd h0 (show ¬ nb = 0 by omega)
        have hrd0 := read_own w9 cb cr Dc 0 (HC8.out.below hb9) (by rw [nc]; omega)
        rw [HEl.out] at hrd0
        have Hrd0 := Lib.hid hrd0; have HB9 := Lib.hid (below_step HB8.out hb9); have HC9 := Lib.hid (HC8.out.below hb9); have HX9 := Lib.hid (HX8.out.below hb9); have HY9 := Lib.hid hy9
        clear Hop2 hb9 hrd0 hy9 HB8 HC8 HX8
        go_wp2_with (with_reducible refine halt_call ?_)
        refine Halted.run (Hrd0.out.mono ?_); rintro e w10 ⟨g0, c0, rfl, ho0, hb10⟩
        have hrd5 := read_own w10 cb cr Dc 5 (HC9.out.below hb10) (by rw [nc]; omega)
        rw [HEr.out] at hrd5
        obtain ⟨ao0, cap0, e0, hr0, -, hq0, hq1, -⟩ := own_rd ho0
        injection e0 with e01 e02 e03
        subst e01 e03
        have hs0 : SlAt .u8 0 w10 (.slice (some ⟨g0, 0, none⟩) 4 c0) (leftX.take 4) := ⟨_, c0, rfl, hr0.take 4, by show 4 ≤ c0; omega, hq1, (fun e => by cases e), fun _ _ => Nat.zero_le _⟩
        have Hrd5 := Lib.hid hrd5; have HB10 := Lib.hid (below_step HB9.out hb10); have HX10 := Lib.hid (HX9.out.below hb10); have HY10 := Lib.hid (HY9.out.below hb10); have HS0 := Lib.hid hs0
        have hc04 : 64 ≤ c0 := hq0
        clear Hrd0 hb10 hrd5 hs0 hr0 ho0 HB9 HC9 HX9 HY9 e02 hq0
        go_upto_region 30 with fail
        go_cut [21, 22] (fun v q wx => ∃ g5 c5 : Nat, v = .slice (some ⟨g5, 0, none⟩) 64 c5 ∧ q = .int .i64 0 ∧ wx.ownsRow w10.heap.size 5 1 (.slice (some ⟨g5, 0, none⟩) 64 c5) 64 (rightX.map (Value.int .u8)) ∧ Below w10.heap.size w10 wx)
        case first =>
          go_wp2_with (with_reducible refine halt_call ?_)
          refine Halted.run (Hrd5.out.mono ?_); rintro e w11 ⟨g5, c5, rfl, ho5, hb11⟩
          go_wp2
          go_meet
          exact ⟨g5, c5, rfl, rfl, ho5, hb11⟩
        case rest =>
        obtain ⟨g5, c5, rfl, rfl, ho5, hb11⟩ := hcut
        generalize wc = w11 at *
        obtain ⟨ao5, cap5, e5, hr5, -, hq5, hq51, -⟩ := own_rd ho5
        injection e5 with e51 e52 e53
        subst e51 e53
        have hs5 : SlAt .u8 0 w11 (.slice (some ⟨g5, 0, none⟩) 5 c5) (rightX.take 5) := ⟨_, c5, rfl, hr5.take 5, by show 5 ≤ c5; omega, hq51, (fun e => by cases e), fun _ _ => Nat.zero_le _⟩
        have hc54 : 64 ≤ c5 := hq5
        have b12 : Below w11.heap.size w11 w11.drew := (Below.refl _ _).drew
        have HB11 := Lib.hid (below_step HB10.out hb11).drew; have HX11 := Lib.hid ((HX10.out.below hb11).below b12); have HY11 := Lib.hid ((HY10.out.below hb11).below b12); have HS0' := Lib.hid ((HS0.out.below hb11).below b12); have HS5 := Lib.hid (hs5.below b12)
        have hsla : SlAt .u8 0 w11.drew (.slice ao xs.length cap) xs := ⟨ao, cap, rfl, Hx.out.below HB11.out, hmc, hcap, Hcn.out, fun _ _ => Nat.zero_le _⟩
        have hslb : SlAt .u8 0 w11.drew (.slice bo ys.length cap2) ys := ⟨bo, cap2, rfl, Hy.out.below HB11.out, hmc2, hcap2, Hcn2.out, fun _ _ => Nat.zero_le _⟩
        have cA := slAt_string hsla
        have HslA := Lib.hid hsla; have HslB := Lib.hid hslb
        clear Hrd5 hb11 hs5 hr5 ho5 HB10 HX10 HY10 HS0 e52 hq5 b12 hsla hslb
        generalize hstA : strOfNums xs = stA at *
        generalize hstB : strOfNums ys = stB at *
        have HstA := Lib.hid hstA; have HstB := Lib.hid hstB
        have elx : strOfNums (leftX.take 4) = { data := #[108, 101, 102, 116] } := rfl
        have erx : strOfNums (rightX.take 5) = { data := #[114, 105, 103, 104, 116] } := rfl
        have HElx := Lib.hid elx; have HErx := Lib.hid erx
        clear hstA hstB elx erx kc
        have hHx := Hx; have hHy := Hy
        clear Hx Hy Hxb Hyb Hk Hcn Hcn2 hcap hcap2 hcap4 hsa hsb hna0 hna1 hnb0 hnb1 hk1 hk2 hws hst htb hbr lt6 lb6 lr6 nc n6' HEl HEr hmc hmc2 ta tb hHx hHy HAA HAB
        go_wp2
        have cB := slAt_string HslB.out
        have hc044 : 4 ≤ c0 := by omega
        have hc055 : 5 ≤ c5 := by omega
        have cL := slAt_string HS0'.out
        have cR := slAt_string HS5.out
        rw [HstB.out] at cB
        rw [HElx.out] at cL
        rw [HErx.out] at cR
        go_region_held (fun W => SupAt W x cb [x] ((1 : Nat) : Int) sa na xs ∧ SupAt W y cb [y] ((3 : Nat) : Int) sb nb ys ∧ Sem.run Try.prog (convert 22 9 (.slice ao xs.length cap)) W = .ok (.string stA) W ∧ Sem.run Try.prog (convert 22 9 (.slice bo ys.length cap2)) W = .ok (.string stB) W ∧ Sem.run Try.prog (convert 22 9 (.slice (some ⟨g0, 0, none⟩) 4 c0)) W = .ok (.string { data := #[108, 101, 102, 116] }) W ∧ Sem.run Try.prog (convert 22 9 (.slice (some ⟨g5, 0, none⟩) 5 c5)) W = .ok (.string { data := #[114, 105, 103, 104, 116] }) W) ((first | assumption | exact ⟨HX11.out, HY11.out, cA, cB, cL, cR⟩ | exact ⟨hx14, hy14, cA14, cB14, cL14, cR14⟩ | exact ⟨hx13, hy13, cA13, cB13, cL13, cR13⟩)) ((first
          | (go_at_call 21; with_reducible refine (text_any _ x cb _ _ _ _ _ HX11.out).mono ?_; rintro e w13 ⟨v13, rfl, hv13, hb13⟩; have c13 := slAt_string hv13; have cA13 := slAt_string (HslA.out.below hb13); have cB13 := slAt_string (HslB.out.below hb13); have cL13 := slAt_string (HS0'.out.below hb13); have cR13 := slAt_string (HS5.out.below hb13); rw [HstA.out] at c13 cA13; rw [HstB.out] at cB13; rw [HElx.out] at cL13; rw [HErx.out] at cR13; have hx13 := HX11.out.below hb13; have hy13 := HY11.out.below hb13)
          | (go_at_call 18; with_reducible refine (turn_any _ x cb _ _ _ _ _ hx13).mono ?_; rintro e w' ⟨rfl, rfl⟩)
          | (go_at_call 21; with_reducible refine (text_any _ y cb _ _ _ _ _ hy13).mono ?_; rintro e w14 ⟨v14, rfl, hv14, hb14⟩; have c14 := slAt_string hv14; have cA14 := slAt_string ((HslA.out.below hb13).below hb14); have cB14 := slAt_string ((HslB.out.below hb13).below hb14); have cL14 := slAt_string ((HS0'.out.below hb13).below hb14); have cR14 := slAt_string ((HS5.out.below hb13).below hb14); rw [HstA.out] at cA14; rw [HstB.out] at c14 cB14; rw [HElx.out] at cL14; rw [HErx.out] at cR14; have hx14 := hx13.below hb14; have hy14 := hy13.below hb14)
          | (go_at_call 18; with_reducible refine (turn_any _ y cb _ _ _ _ _ hy14).mono ?_; rintro e w' ⟨rfl, rfl⟩)))
        all_goals go_wp2
        all_goals go_ret
        all_goals exact ⟨rfl, below_step (below_step HB11.out hb13) hb14⟩
end Go.Proofs.Ytcahhopneobjbaa
