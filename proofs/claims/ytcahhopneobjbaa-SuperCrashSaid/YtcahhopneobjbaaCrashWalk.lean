/- SuperCrash's walk. -/
import Derived.Test.YtcahhopneobjbaaSupG
import Derived.Lib.QuietBelow
import Derived.BigQuiet
import Derived.Deep.DeepCutAuto
namespace Go.Proofs.Ytcahhopneobjbaa
open Go.RowKit CrcM Go.Sort

theorem SupAt.ne {w : World} {s b b' r : Nat} {N : List Nat} {pt slot turn : Int} {xs : List Int} {D : Dv} (h : SupAt w s b' N pt slot turn xs) (hd : DevAt w b r D) : s ≠ b ∧ s ≠ r := by
  obtain ⟨ao', cap', q1, _⟩ := h.h
  constructor
  · rintro rfl
    have := hd.hb
    rw [q1] at this
    injection this with this
    injection this with _ ht
    exact absurd ht (by decide)
  · rintro rfl
    obtain ⟨C, hC, _⟩ := hd.hr
    rw [q1] at hC
    injection hC with hC
    injection hC with _ ht
    exact absurd ht (by decide)
set_option maxHeartbeats 40000000 in
set_option maxRecDepth 20000 in
theorem superCrash_any (ao : Option Addr) (m cap : Nat) (xs : List Int) (bo : Option Addr) (m2 cap2 : Nat) (ys : List Int) (co : Option Addr) (m3 cap3 : Nat) (zs : List Int) (f : Int) (ko : Option Addr) (m4 cap4 : Nat) (ks : List Bool) (w : World)
    (hm : m = xs.length) (hmc : m ≤ cap) (hcap : cap ≤ 9223372036854775807) (hcn : ao = none → cap = 0) (hx : Rd .u8 w ao xs) (hxb : Byt xs)
    (hm2 : m2 = ys.length) (hmc2 : m2 ≤ cap2) (hcap2 : cap2 ≤ 9223372036854775807) (hcn2 : bo = none → cap2 = 0) (hy : Rd .u8 w bo ys) (hyb : Byt ys)
    (hm3 : m3 = zs.length) (hmc3 : m3 ≤ cap3) (hcap3 : cap3 ≤ 9223372036854775807) (hcn3 : co = none → cap3 = 0) (hz : Rd .u8 w co zs) (hzb : Byt zs)
    (hm4 : m4 = ks.length) (hcap4 : m4 ≤ 9223372036854775807) (hk : RdB w ko ks) :
    Calls Try.prog 3 #[.slice ao m cap, .slice bo m2 cap2, .slice co m3 cap3, .int .i64 f, .slice ko m4 cap4] w fun e w' => e = .returned (.bool true) ∧ Below w.heap.size w w' := by
  subst hm hm2 hm3 hm4
  have Hb := Lib.hid (begun21_any w)
  have hxl : min xs.length (40 : Int).toNat = (xs.take 40).length := by rw [List.length_take]; exact Nat.min_comm _ _
  have hyl : min ys.length (40 : Int).toNat = (ys.take 40).length := by rw [List.length_take]; exact Nat.min_comm _ _
  have hzl : min zs.length (40 : Int).toNat = (zs.take 40).length := by rw [List.length_take]; exact Nat.min_comm _ _
  have s1 := fun W => short_any ao 40 xs.length cap W hmc hcap (by omega) (by omega)
  have s2 := fun W => short_any bo 40 ys.length cap2 W hmc2 hcap2 (by omega) (by omega)
  have s3 := fun W => short_any co 40 zs.length cap3 W hmc3 hcap3 (by omega) (by omega)
  rw [hxl] at s1
  rw [hyl] at s2
  rw [hzl] at s3
  have tx : (xs.take 40).length ≤ 40 := by rw [List.length_take]; omega
  have ty : (ys.take 40).length ≤ 40 := by rw [List.length_take]; omega
  have tz : (zs.take 40).length ≤ 40 := by rw [List.length_take]; omega
  have tx2 : (xs.take 40).length ≤ cap := by rw [List.length_take]; omega
  have ty2 : (ys.take 40).length ≤ cap2 := by rw [List.length_take]; omega
  have tz2 : (zs.take 40).length ≤ cap3 := by rw [List.length_take]; omega
  have S1 := Lib.hid s1; have S2 := Lib.hid s2; have S3 := Lib.hid s3
  have hx4 := hx.take 40; have hy4 := hy.take 40; have hz4 := hz.take 40
  have hxb4 := hxb.take 40; have hyb4 := hyb.take 40; have hzb4 := hzb.take 40
  clear s1 s2 s3 hxl hyl hzl hx hy hz hxb hyb hzb
  generalize hxs : xs.length = xl at *
  generalize hys : ys.length = yl at *
  generalize hzs : zs.length = zl at *
  generalize xs.take 40 = az at *
  generalize ys.take 40 = bs at *
  generalize zs.take 40 = cs at *
  have Hx := Lib.hid hx4; have Hy := Lib.hid hy4; have Hz := Lib.hid hz4; have Hxb := Lib.hid hxb4; have Hyb := Lib.hid hyb4; have Hzb := Lib.hid hzb4; have Hk := Lib.hid hk
  have Hcn := Lib.hid hcn; have Hcn2 := Lib.hid hcn2; have Hcn3 := Lib.hid hcn3
  clear hx4 hy4 hz4 hxb4 hyb4 hzb4 hk hcn hcn2 hcn3 hxs hys hzs
  go_enter Try.func3, Try.ntmps3
  go_wp2_with (with_reducible refine halt_call ?_)
  refine Halted.run (Hb.out.mono ?_); rintro e w1 ⟨rfl, hB⟩
  have HB := Lib.hid hB
  clear hB Hb
  go_wp2_with (with_reducible refine halt_call ?_)
  refine Halted.run ((S1.out w1).mono ?_); rintro e w' ⟨rfl, rfl⟩
  go_wp2_with (with_reducible refine halt_call ?_)
  refine Halted.run ((S2.out w1).mono ?_); rintro e w' ⟨rfl, rfl⟩
  go_wp2_with (with_reducible refine halt_call ?_)
  refine Halted.run ((S3.out w1).mono ?_); rintro e w' ⟨rfl, rfl⟩
  clear S1 S2 S3
  by_cases hf0 : f < 0
  · go_wp2
    go_ret
    exact ⟨rfl, HB.out⟩
  by_cases hf1 : 5 < f
  · go_wp2
    go_ret
    exact ⟨rfl, HB.out⟩
  have hf0 : 0 ≤ f := by omega
  have hf1 : f ≤ 5 := by omega
  have hnew := new_is 2 w1
  rw [show clamp 2 = 2 from by decide] at hnew
  have Hn := Lib.hid hnew
  clear hnew
  go_wp2_with (with_reducible refine halt_call ?_)
  refine Halted.run (Hn.out.mono ?_); rintro e w2 ⟨b, r, rfl, hd2, hb, hr, hB2⟩
  have g1 := HB.out.size
  have b2 := below_step HB.out hB2
  have lb := hd2.lt_b; have lr := hd2.lt_r
  have hmk := make_any w2 b r [b, r] 0 (newD 2) 0 ao az.length cap az hd2 (newD_live 2) (by omega) (by omega) (by decide) (by simp) (by simp) (by intro k hk; simp at hk; omega) rfl tx (Hx.out.below b2) Hxb.out (by intro a ha hy; have := Hx.out.lt a ha hy; simp; omega) Hcn.out tx2
  have Hmk := Lib.hid hmk; have HB2 := Lib.hid b2
  clear Hn hmk hd2 hB2 b2 HB
  go_wp2_with (with_reducible refine halt_call ?_)
  refine Halted.run (Hmk.out.mono ?_); rintro e w3 ⟨s, rfl, hs, hd3, hb3, hs3⟩
  obtain ⟨k3, l3, n3⟩ := Kept.make (newD_live 2) 0 (by decide) az tx Hxb.out (fun i _ => newD_64 2 i)
  have hd3 : DevAt w3 b r (mkD (newD 2) ((0 : Nat) : Int) az) := hd3
  generalize mkD (newD 2) ((0 : Nat) : Int) az = D3 at *
  have n3 : D3.n = 2 := n3
  have B3 := But.step HB2.out hb3 (by simp; omega)
  have hws : w.heap.size ≤ s := by have := HB2.out.size; omega
  have hfu := fuse_any w3 b r D3 f hd3
  have h643 : ∀ i, i < 2 → (D3.sec i).now.length = 64 := fun i hi => hd3.len64 i (by omega)
  have hfit : Fit (D3.fused f) := by
    have := l3.c0; have := l3.c1
    refine ⟨l3.c0, ?_, ?_, ?_⟩
    · show D3.calls < _; omega
    · show 0 ≤ mxI f 0; unfold mxI; split <;> omega
    · show mxI f 0 ≤ _; unfold mxI; split <;> omega
  have hcal : (D3.fused f).calls < 900000 := by have := l3.c1; show D3.calls < _; omega
  have hkf : Kept (D3.fused f) 0 (fun k => if k = 0 then some ((1 : Int), az) else none) := ⟨k3.c, k3.l, k3.f⟩
  have hnf : (D3.fused f).n = 2 := n3
  have h64f : ∀ i, i < 2 → ((D3.fused f).sec i).now.length = 64 := h643
  have gb := hd3.lt_b; have gr := hd3.lt_r; have gs := hs3.lt
  have hsbr := hs3.ne hd3
  have Hfu := Lib.hid hfu; have HB3 := Lib.hid B3; have Hs3 := Lib.hid hs3; have Hfit := Lib.hid hfit; have Hcal := Lib.hid hcal; have Hkf := Lib.hid hkf; have Hnf := Lib.hid hnf; have H64f := Lib.hid h64f
  clear hfu B3 hs3 hfit hcal hkf hnf h64f k3 l3 h643 hd3 hb3 Hmk n3
  generalize D3.fused f = D4 at *
  go_wp2_with (with_reducible refine halt_call ?_)
  refine Halted.run (Hfu.out.mono ?_); rintro e w4 ⟨rfl, hd4, hb4⟩
  have hs4 := Hs3.out.but hb4 (by simp; omega) (by intro k hk; simp at hk ⊢; omega)
  have hB4 := But.step HB3.out hb4 (by simp; omega)
  have g4 := hb4.size
  have hsv := save_any w4 s b r [s, b, r] 0 0 1 az bo bs.length cap2 bs D4 hs4 hd4 Hfit.out Hcal.out (by intro k hk; simp at hk ⊢; omega) (by intro k hk; simp at hk; omega) (by omega) (by rw [Hnf.out]; omega) (by omega) (by omega) (by omega) (by omega) rfl ty (Hy.out.below hB4) Hyb.out (by intro a ha hy; have := Hy.out.lt a ha hy; simp; omega) Hcn2.out ty2
  have Hsv := Lib.hid hsv; have HB4 := Lib.hid hB4
  clear Hfu hsv hd4 hb4 hs4 hB4 HB3 Hs3
  go_wp2_with (with_reducible refine halt_call ?_)
  refine Halted.run (Hsv.out.mono ?_); intro e w5 hp5
  obtain ⟨q, D5, rfl, hb5, hd5, n5, hcase⟩ := fused_save hp5 Hkf.out Hnf.out H64f.out (by omega) (by omega) ty Hyb.out
  rcases hcase with ⟨rfl, hs5, kk⟩ | ⟨rfl, hs5, kk⟩
  · replace kk := kk ks
    have hk5 := Hk.out.below (But.step HB4.out hb5 (by simp; omega))
    have B5 := But.step HB4.out hb5 (by simp; omega)
    have Htn := Lib.hid (turn_any w5 s b _ _ _ _ _ hs5)
    have hcr := crash_any w5 b r D5 ko ks.length cap4 ks rfl hd5 hk5 hcap4
    have Hcr := Lib.hid hcr; have HB5 := Lib.hid B5; have KK := Lib.hid kk; have N5 := Lib.hid n5; have X5 := Lib.hid (fun i hi => hd5.len64 i hi)
    clear Hsv hp5 hb5 hd5 hs5 hk5 B5 hcr kk n5 HB4 Hkf Hnf H64f Hfit Hcal
    go_wp2_with (with_reducible refine halt_call ?_)
    refine Halted.run (Htn.out.mono ?_); rintro e w' ⟨rfl, rfl⟩
    go_wp2_with (with_reducible refine halt_call ?_)
    refine Halted.run (Hcr.out.mono ?_); rintro e w6 ⟨cb, cr, rfl, hc6, hcb, hcr, hb6⟩
    have lcb := hc6.lt_b; have lcr := hc6.lt_r
    have n6 : (D5.crash ks).n = 2 := N5.out
    have hop := open_any w6 cb cr [cb, cr] (D5.crash ks) 0 _ hc6 (by rw [n6]; omega) (by intro k hk; simp at hk; omega) KK.out.c
    have Hop := Lib.hid hop; have HB6 := Lib.hid (below_step HB5.out hb6); have Hc6 := Lib.hid hc6; have N6 := Lib.hid n6; have X6 := Lib.hid (fun i hi => hc6.len64 i hi); have L6 := Lib.hid (crash_live D5 ks)
    have g5 := HB5.out.size; have l6 := HB6.out.size
    clear Htn Hcr hc6 hb6 hop HB5 N5 n6 X5
    go_wp2_with (with_reducible refine halt_call ?_)
    refine Halted.run (Hop.out.mono ?_); rintro e w7 ⟨hb7, hres⟩
    rw [show accTo (upd (fun k => if k = 0 then some ((1 : Int), az) else none) 1 (some ((1 : Int) + 1, bs))) 2 = ⟨1, 2, bs⟩ from rfl] at hres
    generalize D5.crash ks = D6 at *
    rcases hres with ⟨h0, -⟩ | ⟨-, t, rfl, ht, hs7⟩
    · exact absurd h0 (show ¬ ((2 : Int) = 0) by decide)
    have Hs7 := Lib.hid hs7; have HB7 := Lib.hid (below_step HB6.out hb7); have Hc7 := Lib.hid (Hc6.out.below hb7)
    have lt7 := hs7.lt
    have l7 := hb7.size
    clear Hop hb7 hs7 HB6 Hc6
    go_wp2
    have cT : ∀ d os, Calls Try.prog 18 #[.pointer (some ⟨t, 0, none⟩)] (grow (redrawn w7 d) os) fun e w'' => e = .returned (.int .i64 2) ∧ ∃ x : Regrown, w'' = grow (redrawn w7 x.d) x.os := fun d os => Calls.regrown_of ((turn_any _ t cb _ _ _ _ _ (Hs7.out.below (below_regrown w7 d os))).mono (by rintro e w' ⟨rfl, rfl⟩; exact ⟨rfl, Below.refl _ _⟩))
    refine wp_region_quiet_below (by kernel_rfl) (by kernel_rfl) ?_
    repeat (first | go_big_quiet_step ((first | exact cT _ _)) | quiet_step ((first | exact cT _ _)))
    refine wpQuiet_nil ?_
    intro _ hw'
    obtain ⟨⟨dq, osq⟩, hw''⟩ := hw'
    subst hw''
    have bq := below_regrown w7 dq osq
    have Hs8 := Lib.hid (Hs7.out.below bq); have HB8 := Lib.hid (below_step HB7.out bq); have Hc8 := Lib.hid (Hc7.out.below bq)
    have l8 := bq.size
    clear cT
    generalize grow (redrawn w7 dq) osq = w8 at *
    clear bq Hs7 HB7 Hc7
    go_upto_region 20 with fail
    go_cut [20] (fun v wx => v = .bool true ∧ SupAt wx t cb [t, cb, cr] 0 1 2 bs ∧ DevAt wx cb cr D6 ∧ RowKit.Below w.heap.size w wx ∧ w6.heap.size ≤ t ∧ t < wx.heap.size)
    case first =>
      have hsl : SlAt .u8 0 w8.drew (.slice bo bs.length cap2) bs := ⟨bo, cap2, rfl, (Hy.out.below HB8.out).drew, ty2, hcap2, Hcn2.out, fun _ _ => Nat.zero_le _⟩
      have hcv := slAt_string hsl
      have Hsl := Lib.hid hsl
      clear hsl
      generalize hst : strOfNums bs = st at *
      have Hst := Lib.hid hst
      clear hst
      go_wp2
      go_region_with (first | (go_at_call 18; with_reducible refine (turn_any _ t cb _ _ _ _ _ (Hs8.out.below (Below.refl _ _).drew)).mono ?_; rintro e w' ⟨rfl, rfl⟩) | (go_at_call 18; with_reducible refine (turn_any _ t cb _ _ _ _ _ hs9').mono ?_; rintro e w' ⟨rfl, rfl⟩) | (go_at_call 21; with_reducible refine (text_any _ t cb _ _ _ _ _ (Hs8.out.below (Below.refl _ _).drew)).mono ?_; rintro e w9 ⟨v9, rfl, hv9, hb9⟩; have hc9 := slAt_string hv9; have hc9' := slAt_string (Hsl.out.below hb9); rw [Hst.out] at hc9 hc9'; have hs9' := (Hs8.out.below (Below.refl _ _).drew).below hb9))
      all_goals go_wp2
      all_goals go_meet
      all_goals exact ⟨rfl, (Hs8.out.below (Below.refl _ _).drew).below hb9, (Hc8.out.below (Below.refl _ _).drew).below hb9, below_step HB8.out.drew hb9, ht, Nat.lt_of_lt_of_le (show t < w8.heap.size by omega) hb9.size⟩
    case rest =>
      obtain ⟨rfl, hs9, hc9, hB9, -, lt9⟩ := hcut
      generalize wc = w9 at *
      have Hs9 := Lib.hid hs9; have Hc9 := Lib.hid hc9; have HB9 := Lib.hid hB9
      clear Hs8 HB8 Hc8 hs9 hc9 hB9
      go_wp2_with (with_reducible refine halt_call ?_)
      refine Halted.run ((turn_any _ t cb _ _ _ _ _ Hs9.out).mono ?_); rintro e w' ⟨rfl, rfl⟩
      have lt9' := Hs9.out.lt; have lcb9 := Hc9.out.lt_b; have lcr9 := Hc9.out.lt_r
      have hsv2 := save_any w9 t cb cr [t, cb, cr] 0 1 2 bs co cs.length cap3 cs D6 Hs9.out Hc9.out (L6.out.fit (by omega)) (by have := L6.out.c1; omega) (by intro k hk; simp at hk ⊢; omega) (by intro k hk; simp at hk; omega) (by omega) (by rw [N6.out]; omega) (by omega) (by omega) (by omega) (by omega) rfl tz (Hz.out.below HB9.out) Hzb.out (by intro a ha hy; have := Hz.out.lt a ha hy; simp; omega) Hcn3.out tz2
      have Hsv2 := Lib.hid hsv2
      clear hsv2
      go_wp2_with (with_reducible refine halt_call ?_)
      refine Halted.run (Hsv2.out.mono ?_); intro e w10 hp10
      obtain ⟨D7, rfl, hb10, hd10, l10, n10, k10, hs10, -, -⟩ := save_live (pt := 0) hp10 L6.out KK.out (by rw [N6.out]; omega) X6.out (.inr rfl) (by omega) (by omega) tz Hzb.out
      have hcr7 := crash_any w10 cb cr D7 none 0 0 [] rfl hd10 RdB.nil (by simp)
      have Hcr7 := Lib.hid hcr7; have HB10 := Lib.hid (But.step HB9.out hb10 (by simp; omega)); have K10 := Lib.hid k10; have N7 := Lib.hid (n10.trans N6.out)
      clear Hsv2 hp10 hb10 hd10 l10 n10 k10 hs10 hcr7 HB9 Hs9 Hc9 KK L6 X6 N6
      go_wp2_with (with_reducible refine halt_call ?_)
      refine Halted.run (Hcr7.out.mono ?_); rintro e w11 ⟨db, dr, rfl, hc11, hdb, hdr, hb11⟩
      have k11 := K10.out.crash []
      have hop11 := open_any w11 db dr [] (D7.crash []) 0 _ hc11 (by show 0 + 1 < D7.n; rw [N7.out]; omega) (by simp) k11.c
      have Hop11 := Lib.hid hop11; have HB11 := Lib.hid (below_step HB10.out hb11)
      clear Hcr7 hc11 hb11 k11 hop11 HB10 K10
      go_wp2_with (with_reducible refine halt_call ?_)
      refine Halted.run (Hop11.out.mono ?_); rintro e w12 ⟨hb12, hres⟩
      rw [show accTo (upd (upd (fun k => if k = 0 then some ((1 : Int), az) else none) 1 (some ((1 : Int) + 1, bs))) (1 - (1 : Int)).toNat (some ((2 : Int) + 1, cs))) 2 = ⟨0, 3, cs⟩ from rfl] at hres
      rcases hres with ⟨h0, -⟩ | ⟨-, u, rfl, hu, hs12⟩
      · exact absurd h0 (show ¬ ((3 : Int) = 0) by decide)
      have Hs12 := Lib.hid hs12; have HB12 := Lib.hid (below_step HB11.out hb12)
      have hsl : SlAt .u8 0 w12.drew (.slice co cs.length cap3) cs := ⟨co, cap3, rfl, (Hz.out.below HB12.out).drew, tz2, hcap3, Hcn3.out, fun _ _ => Nat.zero_le _⟩
      have hcv := slAt_string hsl
      have Hsl := Lib.hid hsl
      clear hsl Hop11 hb12 hs12 HB11
      generalize hst : strOfNums cs = st at *
      have Hst := Lib.hid hst
      clear hst
      have hwr : IntKind.i64.wrap (2 + 1) = 3 := IntWalk.i64_in _ (by omega)
      have hwr' : IntKind.i64.wrap 3 = 3 := IntWalk.i64_in _ (by omega)
      go_wp2
      go_region_with (first | (go_at_call 18; with_reducible refine (turn_any _ u db _ _ _ _ _ (Hs12.out.below (Below.refl _ _).drew)).mono ?_; rintro e w' ⟨rfl, rfl⟩) | (go_at_call 18; with_reducible refine (turn_any _ u db _ _ _ _ _ hs13').mono ?_; rintro e w' ⟨rfl, rfl⟩) | (go_at_call 21; with_reducible refine (text_any _ u db _ _ _ _ _ (Hs12.out.below (Below.refl _ _).drew)).mono ?_; rintro e w13 ⟨v13, rfl, hv13, hb13⟩; have hc13 := slAt_string hv13; have hc13' := slAt_string (Hsl.out.below hb13); rw [Hst.out] at hc13 hc13'; have hs13' := (Hs12.out.below (Below.refl _ _).drew).below hb13))
      all_goals go_wp2
      all_goals go_ret
      all_goals exact ⟨rfl, below_step HB12.out.drew hb13⟩
  · replace kk := kk ks
    rcases kk with kk | kk
    · skip
      have hk5 := Hk.out.below (But.step HB4.out hb5 (by simp; omega))
      have B5 := But.step HB4.out hb5 (by simp; omega)
      have Htn := Lib.hid (turn_any w5 s b _ _ _ _ _ hs5)
      have hcr := crash_any w5 b r D5 ko ks.length cap4 ks rfl hd5 hk5 hcap4
      have Hcr := Lib.hid hcr; have HB5 := Lib.hid B5; have KK := Lib.hid kk; have N5 := Lib.hid n5; have X5 := Lib.hid (fun i hi => hd5.len64 i hi)
      clear Hsv hp5 hb5 hd5 hs5 hk5 B5 hcr kk n5 HB4 Hkf Hnf H64f Hfit Hcal
      go_wp2_with (with_reducible refine halt_call ?_)
      refine Halted.run (Htn.out.mono ?_); rintro e w' ⟨rfl, rfl⟩
      go_wp2_with (with_reducible refine halt_call ?_)
      refine Halted.run (Hcr.out.mono ?_); rintro e w6 ⟨cb, cr, rfl, hc6, hcb, hcr, hb6⟩
      have lcb := hc6.lt_b; have lcr := hc6.lt_r
      have n6 : (D5.crash ks).n = 2 := N5.out
      have hop := open_any w6 cb cr [cb, cr] (D5.crash ks) 0 _ hc6 (by rw [n6]; omega) (by intro k hk; simp at hk; omega) KK.out.c
      have Hop := Lib.hid hop; have HB6 := Lib.hid (below_step HB5.out hb6); have Hc6 := Lib.hid hc6; have N6 := Lib.hid n6; have X6 := Lib.hid (fun i hi => hc6.len64 i hi); have L6 := Lib.hid (crash_live D5 ks)
      have g5 := HB5.out.size; have l6 := HB6.out.size
      clear Htn Hcr hc6 hb6 hop HB5 N5 n6 X5
      go_wp2_with (with_reducible refine halt_call ?_)
      refine Halted.run (Hop.out.mono ?_); rintro e w7 ⟨hb7, hres⟩
      rw [show accTo (fun k => if k = 0 then some ((1 : Int), az) else none) 2 = ⟨0, 1, az⟩ from rfl] at hres
      generalize D5.crash ks = D6 at *
      rcases hres with ⟨h0, -⟩ | ⟨-, t, rfl, ht, hs7⟩
      · exact absurd h0 (show ¬ ((1 : Int) = 0) by decide)
      have Hs7 := Lib.hid hs7; have HB7 := Lib.hid (below_step HB6.out hb7); have Hc7 := Lib.hid (Hc6.out.below hb7)
      have lt7 := hs7.lt
      have l7 := hb7.size
      clear Hop hb7 hs7 HB6 Hc6
      go_upto_region 18 with fail
      go_cut [19] (fun v wx => v = .bool true ∧ SupAt wx t cb [t, cb, cr] 0 0 1 az ∧ DevAt wx cb cr D6 ∧ RowKit.Below w.heap.size w wx ∧ w6.heap.size ≤ t ∧ t < wx.heap.size)
      case first =>
        have hsl : SlAt .u8 0 w7.drew (.slice ao az.length cap) az := ⟨ao, cap, rfl, (Hx.out.below HB7.out).drew, tx2, hcap, Hcn.out, fun _ _ => Nat.zero_le _⟩
        have hcv := slAt_string hsl
        have Hsl := Lib.hid hsl
        clear hsl
        generalize hst : strOfNums az = st at *
        have Hst := Lib.hid hst
        clear hst
        go_wp2
        go_region_with (first | (go_at_call 18; with_reducible refine (turn_any _ t cb _ _ _ _ _ (Hs7.out.below (Below.refl _ _).drew)).mono ?_; rintro e w' ⟨rfl, rfl⟩) | (go_at_call 18; with_reducible refine (turn_any _ t cb _ _ _ _ _ hs9').mono ?_; rintro e w' ⟨rfl, rfl⟩) | (go_at_call 21; with_reducible refine (text_any _ t cb _ _ _ _ _ (Hs7.out.below (Below.refl _ _).drew)).mono ?_; rintro e w9 ⟨v9, rfl, hv9, hb9⟩; have hc9 := slAt_string hv9; have hc9' := slAt_string (Hsl.out.below hb9); rw [Hst.out] at hc9 hc9'; have hs9' := (Hs7.out.below (Below.refl _ _).drew).below hb9))
        all_goals go_wp2
        all_goals go_meet
        all_goals exact ⟨rfl, (Hs7.out.below (Below.refl _ _).drew).below hb9, (Hc7.out.below (Below.refl _ _).drew).below hb9, below_step HB7.out.drew hb9, ht, Nat.lt_of_lt_of_le (show t < w7.heap.size by omega) hb9.size⟩
      case rest =>
        obtain ⟨rfl, hs8, hc8, hB8, -, lt8⟩ := hcut
        generalize wc = w8 at *
        have Hs8 := Lib.hid hs8; have Hc8 := Lib.hid hc8; have HB8 := Lib.hid hB8
        clear Hs7 HB7 Hc7 hs8 hc8 hB8
        go_wp2
        have cT : ∀ d os, Calls Try.prog 18 #[.pointer (some ⟨t, 0, none⟩)] (grow (redrawn w8 d) os) fun e w'' => e = .returned (.int .i64 1) ∧ ∃ x : Regrown, w'' = grow (redrawn w8 x.d) x.os := fun d os => Calls.regrown_of ((turn_any _ t cb _ _ _ _ _ (Hs8.out.below (below_regrown w8 d os))).mono (by rintro e w' ⟨rfl, rfl⟩; exact ⟨rfl, Below.refl _ _⟩))
        refine wp_region_quiet_below (by kernel_rfl) (by kernel_rfl) ?_
        repeat (first | go_big_quiet_step ((first | exact cT _ _)) | quiet_step ((first | exact cT _ _)))
        refine wpQuiet_nil ?_
        intro _ hw'
        obtain ⟨⟨dq, osq⟩, hw''⟩ := hw'
        subst hw''
        have bq := below_regrown w8 dq osq
        have Hs9 := Lib.hid (Hs8.out.below bq); have HB9 := Lib.hid (below_step HB8.out bq); have Hc9 := Lib.hid (Hc8.out.below bq)
        have l9 := bq.size
        clear cT
        generalize grow (redrawn w8 dq) osq = w9 at *
        clear bq Hs8 HB8 Hc8
        go_wp2_with (with_reducible refine halt_call ?_)
        refine Halted.run ((turn_any _ t cb _ _ _ _ _ Hs9.out).mono ?_); rintro e w' ⟨rfl, rfl⟩
        have lt9' := Hs9.out.lt; have lcb9 := Hc9.out.lt_b; have lcr9 := Hc9.out.lt_r
        have hsv2 := save_any w9 t cb cr [t, cb, cr] 0 0 1 az co cs.length cap3 cs D6 Hs9.out Hc9.out (L6.out.fit (by omega)) (by have := L6.out.c1; omega) (by intro k hk; simp at hk ⊢; omega) (by intro k hk; simp at hk; omega) (by omega) (by rw [N6.out]; omega) (by omega) (by omega) (by omega) (by omega) rfl tz (Hz.out.below HB9.out) Hzb.out (by intro a ha hy; have := Hz.out.lt a ha hy; simp; omega) Hcn3.out tz2
        have Hsv2 := Lib.hid hsv2
        clear hsv2
        go_wp2_with (with_reducible refine halt_call ?_)
        refine Halted.run (Hsv2.out.mono ?_); intro e w10 hp10
        obtain ⟨D7, rfl, hb10, hd10, l10, n10, k10, hs10, -, -⟩ := save_live (pt := 0) hp10 L6.out KK.out (by rw [N6.out]; omega) X6.out (.inl rfl) (by omega) (by omega) tz Hzb.out
        have hcr7 := crash_any w10 cb cr D7 none 0 0 [] rfl hd10 RdB.nil (by simp)
        have Hcr7 := Lib.hid hcr7; have HB10 := Lib.hid (But.step HB9.out hb10 (by simp; omega)); have K10 := Lib.hid k10; have N7 := Lib.hid (n10.trans N6.out)
        clear Hsv2 hp10 hb10 hd10 l10 n10 k10 hs10 hcr7 HB9 Hs9 Hc9 KK L6 X6 N6
        go_wp2_with (with_reducible refine halt_call ?_)
        refine Halted.run (Hcr7.out.mono ?_); rintro e w11 ⟨db, dr, rfl, hc11, hdb, hdr, hb11⟩
        have k11 := K10.out.crash []
        have hop11 := open_any w11 db dr [] (D7.crash []) 0 _ hc11 (by show 0 + 1 < D7.n; rw [N7.out]; omega) (by simp) k11.c
        have Hop11 := Lib.hid hop11; have HB11 := Lib.hid (below_step HB10.out hb11)
        clear Hcr7 hc11 hb11 k11 hop11 HB10 K10
        go_wp2_with (with_reducible refine halt_call ?_)
        refine Halted.run (Hop11.out.mono ?_); rintro e w12 ⟨hb12, hres⟩
        rw [show accTo (upd (fun k => if k = 0 then some ((1 : Int), az) else none) (1 - (0 : Int)).toNat (some ((1 : Int) + 1, cs))) 2 = ⟨1, 2, cs⟩ from rfl] at hres
        rcases hres with ⟨h0, -⟩ | ⟨-, u, rfl, hu, hs12⟩
        · exact absurd h0 (show ¬ ((2 : Int) = 0) by decide)
        have Hs12 := Lib.hid hs12; have HB12 := Lib.hid (below_step HB11.out hb12)
        have hsl : SlAt .u8 0 w12.drew (.slice co cs.length cap3) cs := ⟨co, cap3, rfl, (Hz.out.below HB12.out).drew, tz2, hcap3, Hcn3.out, fun _ _ => Nat.zero_le _⟩
        have hcv := slAt_string hsl
        have Hsl := Lib.hid hsl
        clear hsl Hop11 hb12 hs12 HB11
        generalize hst : strOfNums cs = st at *
        have Hst := Lib.hid hst
        clear hst
        have hwr : IntKind.i64.wrap (1 + 1) = 2 := IntWalk.i64_in _ (by omega)
        have hwr' : IntKind.i64.wrap 2 = 2 := IntWalk.i64_in _ (by omega)
        go_wp2
        go_region_with (first | (go_at_call 18; with_reducible refine (turn_any _ u db _ _ _ _ _ (Hs12.out.below (Below.refl _ _).drew)).mono ?_; rintro e w' ⟨rfl, rfl⟩) | (go_at_call 18; with_reducible refine (turn_any _ u db _ _ _ _ _ hs13').mono ?_; rintro e w' ⟨rfl, rfl⟩) | (go_at_call 21; with_reducible refine (text_any _ u db _ _ _ _ _ (Hs12.out.below (Below.refl _ _).drew)).mono ?_; rintro e w13 ⟨v13, rfl, hv13, hb13⟩; have hc13 := slAt_string hv13; have hc13' := slAt_string (Hsl.out.below hb13); rw [Hst.out] at hc13 hc13'; have hs13' := (Hs12.out.below (Below.refl _ _).drew).below hb13))
        all_goals go_wp2
        all_goals go_ret
        all_goals exact ⟨rfl, below_step HB12.out.drew hb13⟩
    · skip
      have hk5 := Hk.out.below (But.step HB4.out hb5 (by simp; omega))
      have B5 := But.step HB4.out hb5 (by simp; omega)
      have Htn := Lib.hid (turn_any w5 s b _ _ _ _ _ hs5)
      have hcr := crash_any w5 b r D5 ko ks.length cap4 ks rfl hd5 hk5 hcap4
      have Hcr := Lib.hid hcr; have HB5 := Lib.hid B5; have KK := Lib.hid kk; have N5 := Lib.hid n5; have X5 := Lib.hid (fun i hi => hd5.len64 i hi)
      clear Hsv hp5 hb5 hd5 hs5 hk5 B5 hcr kk n5 HB4 Hkf Hnf H64f Hfit Hcal
      go_wp2_with (with_reducible refine halt_call ?_)
      refine Halted.run (Htn.out.mono ?_); rintro e w' ⟨rfl, rfl⟩
      go_wp2_with (with_reducible refine halt_call ?_)
      refine Halted.run (Hcr.out.mono ?_); rintro e w6 ⟨cb, cr, rfl, hc6, hcb, hcr, hb6⟩
      have lcb := hc6.lt_b; have lcr := hc6.lt_r
      have n6 : (D5.crash ks).n = 2 := N5.out
      have hop := open_any w6 cb cr [cb, cr] (D5.crash ks) 0 _ hc6 (by rw [n6]; omega) (by intro k hk; simp at hk; omega) KK.out.c
      have Hop := Lib.hid hop; have HB6 := Lib.hid (below_step HB5.out hb6); have Hc6 := Lib.hid hc6; have N6 := Lib.hid n6; have X6 := Lib.hid (fun i hi => hc6.len64 i hi); have L6 := Lib.hid (crash_live D5 ks)
      have g5 := HB5.out.size; have l6 := HB6.out.size
      clear Htn Hcr hc6 hb6 hop HB5 N5 n6 X5
      go_wp2_with (with_reducible refine halt_call ?_)
      refine Halted.run (Hop.out.mono ?_); rintro e w7 ⟨hb7, hres⟩
      rw [show accTo (upd (fun k => if k = 0 then some ((1 : Int), az) else none) 1 (some ((1 : Int) + 1, bs))) 2 = ⟨1, 2, bs⟩ from rfl] at hres
      generalize D5.crash ks = D6 at *
      rcases hres with ⟨h0, -⟩ | ⟨-, t, rfl, ht, hs7⟩
      · exact absurd h0 (show ¬ ((2 : Int) = 0) by decide)
      have Hs7 := Lib.hid hs7; have HB7 := Lib.hid (below_step HB6.out hb7); have Hc7 := Lib.hid (Hc6.out.below hb7)
      have lt7 := hs7.lt
      have l7 := hb7.size
      clear Hop hb7 hs7 HB6 Hc6
      go_wp2
      have cT : ∀ d os, Calls Try.prog 18 #[.pointer (some ⟨t, 0, none⟩)] (grow (redrawn w7 d) os) fun e w'' => e = .returned (.int .i64 2) ∧ ∃ x : Regrown, w'' = grow (redrawn w7 x.d) x.os := fun d os => Calls.regrown_of ((turn_any _ t cb _ _ _ _ _ (Hs7.out.below (below_regrown w7 d os))).mono (by rintro e w' ⟨rfl, rfl⟩; exact ⟨rfl, Below.refl _ _⟩))
      refine wp_region_quiet_below (by kernel_rfl) (by kernel_rfl) ?_
      repeat (first | go_big_quiet_step ((first | exact cT _ _)) | quiet_step ((first | exact cT _ _)))
      refine wpQuiet_nil ?_
      intro _ hw'
      obtain ⟨⟨dq, osq⟩, hw''⟩ := hw'
      subst hw''
      have bq := below_regrown w7 dq osq
      have Hs8 := Lib.hid (Hs7.out.below bq); have HB8 := Lib.hid (below_step HB7.out bq); have Hc8 := Lib.hid (Hc7.out.below bq)
      have l8 := bq.size
      clear cT
      generalize grow (redrawn w7 dq) osq = w8 at *
      clear bq Hs7 HB7 Hc7
      go_upto_region 20 with fail
      go_cut [20] (fun v wx => v = .bool true ∧ SupAt wx t cb [t, cb, cr] 0 1 2 bs ∧ DevAt wx cb cr D6 ∧ RowKit.Below w.heap.size w wx ∧ w6.heap.size ≤ t ∧ t < wx.heap.size)
      case first =>
        have hsl : SlAt .u8 0 w8.drew (.slice bo bs.length cap2) bs := ⟨bo, cap2, rfl, (Hy.out.below HB8.out).drew, ty2, hcap2, Hcn2.out, fun _ _ => Nat.zero_le _⟩
        have hcv := slAt_string hsl
        have Hsl := Lib.hid hsl
        clear hsl
        generalize hst : strOfNums bs = st at *
        have Hst := Lib.hid hst
        clear hst
        go_wp2
        go_region_with (first | (go_at_call 18; with_reducible refine (turn_any _ t cb _ _ _ _ _ (Hs8.out.below (Below.refl _ _).drew)).mono ?_; rintro e w' ⟨rfl, rfl⟩) | (go_at_call 18; with_reducible refine (turn_any _ t cb _ _ _ _ _ hs9').mono ?_; rintro e w' ⟨rfl, rfl⟩) | (go_at_call 21; with_reducible refine (text_any _ t cb _ _ _ _ _ (Hs8.out.below (Below.refl _ _).drew)).mono ?_; rintro e w9 ⟨v9, rfl, hv9, hb9⟩; have hc9 := slAt_string hv9; have hc9' := slAt_string (Hsl.out.below hb9); rw [Hst.out] at hc9 hc9'; have hs9' := (Hs8.out.below (Below.refl _ _).drew).below hb9))
        all_goals go_wp2
        all_goals go_meet
        all_goals exact ⟨rfl, (Hs8.out.below (Below.refl _ _).drew).below hb9, (Hc8.out.below (Below.refl _ _).drew).below hb9, below_step HB8.out.drew hb9, ht, Nat.lt_of_lt_of_le (show t < w8.heap.size by omega) hb9.size⟩
      case rest =>
        obtain ⟨rfl, hs9, hc9, hB9, -, lt9⟩ := hcut
        generalize wc = w9 at *
        have Hs9 := Lib.hid hs9; have Hc9 := Lib.hid hc9; have HB9 := Lib.hid hB9
        clear Hs8 HB8 Hc8 hs9 hc9 hB9
        go_wp2_with (with_reducible refine halt_call ?_)
        refine Halted.run ((turn_any _ t cb _ _ _ _ _ Hs9.out).mono ?_); rintro e w' ⟨rfl, rfl⟩
        have lt9' := Hs9.out.lt; have lcb9 := Hc9.out.lt_b; have lcr9 := Hc9.out.lt_r
        have hsv2 := save_any w9 t cb cr [t, cb, cr] 0 1 2 bs co cs.length cap3 cs D6 Hs9.out Hc9.out (L6.out.fit (by omega)) (by have := L6.out.c1; omega) (by intro k hk; simp at hk ⊢; omega) (by intro k hk; simp at hk; omega) (by omega) (by rw [N6.out]; omega) (by omega) (by omega) (by omega) (by omega) rfl tz (Hz.out.below HB9.out) Hzb.out (by intro a ha hy; have := Hz.out.lt a ha hy; simp; omega) Hcn3.out tz2
        have Hsv2 := Lib.hid hsv2
        clear hsv2
        go_wp2_with (with_reducible refine halt_call ?_)
        refine Halted.run (Hsv2.out.mono ?_); intro e w10 hp10
        obtain ⟨D7, rfl, hb10, hd10, l10, n10, k10, hs10, -, -⟩ := save_live (pt := 0) hp10 L6.out KK.out (by rw [N6.out]; omega) X6.out (.inr rfl) (by omega) (by omega) tz Hzb.out
        have hcr7 := crash_any w10 cb cr D7 none 0 0 [] rfl hd10 RdB.nil (by simp)
        have Hcr7 := Lib.hid hcr7; have HB10 := Lib.hid (But.step HB9.out hb10 (by simp; omega)); have K10 := Lib.hid k10; have N7 := Lib.hid (n10.trans N6.out)
        clear Hsv2 hp10 hb10 hd10 l10 n10 k10 hs10 hcr7 HB9 Hs9 Hc9 KK L6 X6 N6
        go_wp2_with (with_reducible refine halt_call ?_)
        refine Halted.run (Hcr7.out.mono ?_); rintro e w11 ⟨db, dr, rfl, hc11, hdb, hdr, hb11⟩
        have k11 := K10.out.crash []
        have hop11 := open_any w11 db dr [] (D7.crash []) 0 _ hc11 (by show 0 + 1 < D7.n; rw [N7.out]; omega) (by simp) k11.c
        have Hop11 := Lib.hid hop11; have HB11 := Lib.hid (below_step HB10.out hb11)
        clear Hcr7 hc11 hb11 k11 hop11 HB10 K10
        go_wp2_with (with_reducible refine halt_call ?_)
        refine Halted.run (Hop11.out.mono ?_); rintro e w12 ⟨hb12, hres⟩
        rw [show accTo (upd (upd (fun k => if k = 0 then some ((1 : Int), az) else none) 1 (some ((1 : Int) + 1, bs))) (1 - (1 : Int)).toNat (some ((2 : Int) + 1, cs))) 2 = ⟨0, 3, cs⟩ from rfl] at hres
        rcases hres with ⟨h0, -⟩ | ⟨-, u, rfl, hu, hs12⟩
        · exact absurd h0 (show ¬ ((3 : Int) = 0) by decide)
        have Hs12 := Lib.hid hs12; have HB12 := Lib.hid (below_step HB11.out hb12)
        have hsl : SlAt .u8 0 w12.drew (.slice co cs.length cap3) cs := ⟨co, cap3, rfl, (Hz.out.below HB12.out).drew, tz2, hcap3, Hcn3.out, fun _ _ => Nat.zero_le _⟩
        have hcv := slAt_string hsl
        have Hsl := Lib.hid hsl
        clear hsl Hop11 hb12 hs12 HB11
        generalize hst : strOfNums cs = st at *
        have Hst := Lib.hid hst
        clear hst
        have hwr : IntKind.i64.wrap (2 + 1) = 3 := IntWalk.i64_in _ (by omega)
        have hwr' : IntKind.i64.wrap 3 = 3 := IntWalk.i64_in _ (by omega)
        go_wp2
        go_region_with (first | (go_at_call 18; with_reducible refine (turn_any _ u db _ _ _ _ _ (Hs12.out.below (Below.refl _ _).drew)).mono ?_; rintro e w' ⟨rfl, rfl⟩) | (go_at_call 18; with_reducible refine (turn_any _ u db _ _ _ _ _ hs13').mono ?_; rintro e w' ⟨rfl, rfl⟩) | (go_at_call 21; with_reducible refine (text_any _ u db _ _ _ _ _ (Hs12.out.below (Below.refl _ _).drew)).mono ?_; rintro e w13 ⟨v13, rfl, hv13, hb13⟩; have hc13 := slAt_string hv13; have hc13' := slAt_string (Hsl.out.below hb13); rw [Hst.out] at hc13 hc13'; have hs13' := (Hs12.out.below (Below.refl _ _).drew).below hb13))
        all_goals go_wp2
        all_goals go_ret
        all_goals exact ⟨rfl, below_step HB12.out.drew hb13⟩
end Go.Proofs.Ytcahhopneobjbaa
