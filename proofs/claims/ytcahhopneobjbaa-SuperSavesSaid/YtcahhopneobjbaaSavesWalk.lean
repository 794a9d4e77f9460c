/- SuperSaves' walk. -/
import Derived.Test.YtcahhopneobjbaaSupH
import Derived.Test.YtcahhopneobjbaaOpenR
import Derived.Deep.DeepCutAuto
namespace Go.Proofs.Ytcahhopneobjbaa
open Go.RowKit CrcM Go.Sort

attribute [local go_sem high] run_min_mn run_max_mx
theorem loose_none (D : Dv) : ∀ p, (∀ i, i < p → (D.sec i).loose = false) → D.looseTo p = []
  | 0, _ => rfl
  | p + 1, h => by
    unfold Dv.looseTo
    rw [h p (by omega), if_neg (by decide)]
    exact loose_none D p (fun i hi => h i (by omega))
set_option maxHeartbeats 40000000 in
set_option maxRecDepth 20000 in
theorem superSaves_any (n at' : Int) (lo : Option Addr) (m cap : Nat) (rows : List (List Int)) (w : World) (hat1 : -9223372036854775808 ≤ at' ∧ at' ≤ 9223372036854775807)
    (hm : m = rows.length) (hcap : m ≤ 9223372036854775807) (hr : RdR w lo rows) :
    Calls Try.prog 4 #[.int .i64 n, .int .i64 at', .slice lo m cap] w fun e w' => e = .returned (.bool true) ∧ Below w.heap.size w w' := by
  subst hm
  have Hb := Lib.hid (begun21_any w); have HR := Lib.hid hr
  clear hr
  go_enter Try.func4, Try.ntmps4
  go_wp2_with (with_reducible refine halt_call ?_)
  refine Halted.run (Hb.out.mono ?_); rintro e w1 ⟨rfl, hB1⟩
  have HB1 := Lib.hid hB1
  clear hB1 Hb
  go_wp2_with (with_reducible refine halt_call ?_)
  obtain ⟨N, hN, hN1, hN8⟩ : ∃ N : Nat, mxI 1 (mnI n 8) = N ∧ 1 ≤ N ∧ N ≤ 8 := ⟨(mxI 1 (mnI n 8)).toNat, by unfold mxI mnI; split <;> split <;> omega, by unfold mxI mnI; split <;> split <;> omega, by unfold mxI mnI; split <;> split <;> omega⟩
  rw [hN]
  have hnew := new_is N w1
  rw [clamp_in N hN1 (by omega)] at hnew
  have Hn := Lib.hid hnew
  clear hnew hN
  refine Halted.run (Hn.out.mono ?_); rintro e w2 ⟨b, r, rfl, hd2, hb, hr, hB2⟩
  have g1 := HB1.out.size
  have lb := hd2.lt_b; have lr := hd2.lt_r
  have hw : IntKind.i64.wrap ((N : Int) - 2) = N - 2 := IntWalk.i64_in _ (by omega)
  by_cases hat : 0 ≤ at' ∧ at' + 1 < N
  rotate_left
  · have hmk := make_out w2 b r (newD N) at' none 0 0 (by omega) hd2 hat
    have Hmk := Lib.hid hmk; have HB2 := Lib.hid (below_step HB1.out hB2)
    clear Hn hmk hd2 hB2
    go_wp2_with (with_reducible refine halt_call ?_)
    refine Halted.run (Hmk.out.mono ?_); rintro e w' ⟨rfl, rfl⟩
    by_cases h0 : at' < 0
    all_goals go_wp2
    all_goals go_ret
    all_goals exact ⟨rfl, HB2.out⟩
  obtain ⟨p, rfl⟩ : ∃ p : Nat, at' = p := ⟨at'.toNat, by omega⟩
  have hp1 : p + 1 < N := by omega
  have hmk := make_any w2 b r [b, r] 0 (newD N) p none 0 0 [] hd2 (newD_live N) (by omega) (by omega) (by show ((p : Nat) : Int) + 1 < N; omega) (by simp) (by simp) (by intro k hk; simp at hk; omega) rfl (by simp) Rd.nil (fun x hx => by cases hx) (fun a ha => by cases ha) (fun _ => rfl) (by omega)
  have Hmk := Lib.hid hmk; have HB2 := Lib.hid (below_step HB1.out hB2)
  clear Hn hmk hd2 hB2 HB1
  go_wp2_with (with_reducible refine halt_call ?_)
  refine Halted.run (Hmk.out.mono ?_); rintro e w3 ⟨s, rfl, hs, hd3, hb3, hs3⟩
  obtain ⟨k3, l3, n3⟩ := Kept.make (newD_live N) p hp1 [] (by simp) (fun x hx => by cases hx) (fun i _ => newD_64 N i)
  have n3 : (mkD (newD N) p []).n = N := n3
  have lo3 : ∀ i, i < N → ((mkD (newD N) p []).sec i).loose = false := by
    intro i hi
    by_cases h1 : i = p
    · subst h1; exact k3.f 0 (by omega)
    · by_cases h2 : i = p + 1
      · subst h2; exact k3.f 1 (by omega)
      · rw [mk_other (newD_live N) p hp1 [] (by simp) (fun i _ => newD_64 N i) i hi h1 h2]; rfl
  generalize mkD (newD N) p [] = D3 at *
  have HB3 := Lib.hid (But.step HB2.out hb3 (by simp; omega)); have HD3 := Lib.hid hd3; have HS3 := Lib.hid hs3; have K3 := Lib.hid k3; have L3 := Lib.hid l3; have LO3 := Lib.hid lo3
  have hws : w.heap.size ≤ s ∧ w.heap.size ≤ b ∧ w.heap.size ≤ r := by have := HB2.out.size; omega
  have hsbr : s ≠ b ∧ s ≠ r := by omega
  have e0 : strOfNums [] = { data := #[] } := rfl
  have E0 := Lib.hid e0
  have hna : ¬ ((p : Int) < 0) := by omega
  have hnb : ¬ ((p : Int) > (N : Int) - 2) := by omega
  clear Hmk hd3 hb3 hs3 k3 l3 lo3 HB2 e0 hs hb hr g1 lb lr
  go_wp2
  go_loopw [11, 12, 13] (fun wa tu i wx => ∃ (k : Nat) (sl tn : Int) (xs : List Int) (D : Dv) (o : Nat → Option (Int × List Int)), k ≤ rows.length ∧ k ≤ 12 ∧ i = .int .i64 k ∧ wa = .string (strOfNums xs) ∧ tu = .int .i64 tn ∧ 1 ≤ tn ∧ tn ≤ k + 1 ∧ (sl = 0 ∨ sl = 1) ∧
    DevAt wx b r D ∧ Live (4 + 2 * k) D ∧ D.n = N ∧ Kept D p o ∧ accTo o 2 = ⟨sl, tn, xs⟩ ∧ SupAt wx s b [s, b, r] p sl tn xs ∧ (∀ i, i < N → (D.sec i).loose = false) ∧ Below w.heap.size w wx) (fun _ _ i _ => 12 - (intOf i).toNat)
  case atStart => exact ⟨0, 0, 1, [], D3, _, Nat.zero_le _, by omega, rfl, by rw [E0.out], rfl, by omega, by omega, .inl rfl, HD3.out, L3.out, n3, K3.out, rfl, HS3.out, LO3.out, HB3.out⟩
  case round =>
    clear HB3 HD3 HS3 K3 L3 LO3
    obtain ⟨k, sl, tn, xs, D, o, hk1, hk2, rfl, rfl, rfl, htn0, htn1, hsl, hd, hl, n6', hk, hacc, hss, hlo, hB⟩ := hrel
    have X := Lib.hid (fun i hi => hd.len64 i hi)
    have lb := hd.lt_b; have lr := hd.lt_r; have ls := hss.lt
    have HD := Lib.hid hd; have L := Lib.hid hl; have K := Lib.hid hk; have HACC := Lib.hid hacc; have HS := Lib.hid hss; have HLO := Lib.hid hlo; have HB := Lib.hid hB
    clear hd hl hk hacc hss hlo hB
    go_upto_region 13 with fail
    go_cut [57] (fun c wx => c = .bool (decide (k < rows.length ∧ k < 12)) ∧ wx = wr)
    case first =>
      by_cases hl : k < rows.length
      all_goals go_wp2
      all_goals go_meet
      all_goals first | exact ⟨congrArg Value.bool (decide_eq_decide.2 (by omega)), rfl⟩ | exact ⟨congrArg Value.bool (decide_eq_false (by omega)).symm, rfl⟩
    case rest =>
      obtain ⟨rfl, rfl⟩ := hcut
      by_cases hlt : k < rows.length ∧ k < 12
      · rw [decide_eq_true hlt]
        obtain ⟨a, ro, rc, ha, hc0, hrl, hrc, hrn, hrd, hrb⟩ := HR.out k hlt.1
        subst ha
        have hc : wc.cell? (a.add k) = some (.slice ro rows[k].length rc) := by rw [HB.out.cell (World.block_lt_of_cell? _ _ hc0)]; exact hc0
        clear hc0
        have hsh := fun W => short_any ro 45 rows[k].length rc W hrl hrc (by omega) (by omega)
        have hzl : min rows[k].length (45 : Int).toNat = (rows[k].take 45).length := by rw [List.length_take]; exact Nat.min_comm _ _
        rw [hzl] at hsh
        have hz4 := hrd.take 45; have hzb4 := hrb.take 45
        have tz2 : (rows[k].take 45).length ≤ rc := by rw [List.length_take]; omega
        clear hrd hrb hzl
        generalize hrk : rows[k].length = rl at *
        generalize rows[k].take 45 = zs at *
        have Hsh := Lib.hid hsh; have HZ := Lib.hid hz4; have HZB := Lib.hid hzb4; have HRN := Lib.hid hrn
        clear hsh hz4 hzb4 hrn hrk
        go_wp2_with (with_reducible refine halt_call ?_)
        refine Halted.run ((Hsh.out _).mono ?_); rintro e w' ⟨rfl, rfl⟩
        by_cases h40 : 40 < zs.length
        · have Hsv := Lib.hid (save_long wc s ro zs.length rc h40)
          clear Hsh
          go_wp2_with (with_reducible refine halt_call ?_)
          refine Halted.run (Hsv.out.mono ?_); rintro e w' ⟨rfl, rfl⟩
          clear Hsv
          have hop := open_any wc b r [b, r] D p _ HD.out (by rw [n6']; omega) (by intro k hk; simp at hk; omega) K.out.c
          have Hop := Lib.hid hop
          clear hop
          go_wp2_with (with_reducible refine halt_call ?_)
          refine Halted.run (Hop.out.mono ?_); rintro e wB ⟨hbB, hres⟩
          rw [HACC.out] at hres
          rcases hres with ⟨h0, -⟩ | ⟨-, t, rfl, ht, htB⟩
          · exact absurd h0 (show ¬ tn = 0 by omega)
          have hcr := crash_any wB b r D none 0 0 [] rfl (HD.out.below hbB) RdB.nil (by simp)
          have Hcr := Lib.hid hcr; have HTB := Lib.hid htB; have HBB := Lib.hid hbB
          clear Hop hbB hcr htB ht
          go_wp2_with (with_reducible refine halt_call ?_)
          refine Halted.run (Hcr.out.mono ?_); rintro e wC ⟨cb, cr, rfl, hcC, -, -, hbC⟩
          have kC := K.out.crash []
          have nC : (D.crash []).n = N := n6'
          generalize D.crash [] = Dc at *
          have hop := open_any wC cb cr [] Dc p _ hcC (by rw [nC]; omega) (by simp) kC.c
          have Hop := Lib.hid hop; have HBC := Lib.hid (below_step HBB.out hbC); have HTC := Lib.hid (HTB.out.below hbC)
          clear Hcr hcC hbC kC hop HBB HTB
          go_wp2_with (with_reducible refine halt_call ?_)
          refine Halted.run (Hop.out.mono ?_); rintro e wD ⟨hbD, hres⟩
          rw [HACC.out] at hres
          rcases hres with ⟨h0, -⟩ | ⟨-, u, rfl, hu, huD⟩
          · exact absurd h0 (show ¬ tn = 0 by omega)
          have HBD := Lib.hid (below_step HBC.out hbD); have HTD := Lib.hid (HTC.out.below hbD); have HUD := Lib.hid huD; have HSD := Lib.hid (HS.out.below (below_step HBC.out hbD))
          have Htx := Lib.hid (text_any wD t b _ _ _ _ _ HTD.out)
          clear Hop hbD huD HBC HTC hu
          generalize hst : strOfNums xs = st at *
          have Hst := Lib.hid hst
          clear hst
          go_wp2_with (with_reducible refine halt_call ?_)
          refine Halted.run (Htx.out.mono ?_); rintro e wE ⟨vE, rfl, hvE, hbE⟩
          have cE := slAt_string hvE
          rw [Hst.out] at cE
          have Htn := Lib.hid (turn_any wE t b _ _ _ _ _ (HTD.out.below hbE)); have HBE := Lib.hid (below_step HBD.out hbE); have HUE := Lib.hid (HUD.out.below hbE); have HSE := Lib.hid (HSD.out.below hbE)
          clear Htx hvE hbE HBD HTD HUD HSD
          go_wp2_with (with_reducible refine halt_call ?_)
          refine Halted.run (Htn.out.mono ?_); rintro e w' ⟨rfl, rfl⟩
          have Htx := Lib.hid (text_any wE u cb _ _ _ _ _ HUE.out)
          clear Htn
          go_wp2_with (with_reducible refine halt_call ?_)
          refine Halted.run (Htx.out.mono ?_); rintro e wF ⟨vF, rfl, hvF, hbF⟩
          have cF := slAt_string hvF
          rw [Hst.out] at cF
          have HBF := Lib.hid (below_step HBE.out hbF); have HSF := Lib.hid (HSE.out.below hbF)
          have Htx2 := Lib.hid (text_any wF s b _ _ _ _ _ HSF.out)
          clear Htx hvF hbF cE HBE HUE HSE
          go_wp2_with (with_reducible refine halt_call ?_)
          refine Halted.run (Htx2.out.mono ?_); rintro e wG ⟨vG, rfl, hvG, hbG⟩
          have cG := slAt_string hvG
          rw [Hst.out] at cG
          have HBG := Lib.hid (below_step HBF.out hbG); have HSG := Lib.hid (HSF.out.below hbG)
          have Htn := Lib.hid (turn_any wG s b _ _ _ _ _ HSG.out)
          clear Htx2 hvG hbG cF HBF HSF
          go_wp2_with (with_reducible refine halt_call ?_)
          refine Halted.run (Htn.out.mono ?_); rintro e w' ⟨rfl, rfl⟩
          have gG := HBG.out.size
          go_wp2
          refine ⟨⟨k + 1, sl, tn, xs, D, _, by omega, by omega, by go_num, by rw [Hst.out], rfl, by omega, by omega, hsl, HD.out.below HBG.out, (by obtain ⟨q1, q2, q3, q4, q5⟩ := L.out; exact ⟨q1, q2, q3, by omega, q5⟩), n6', K.out, HACC.out, HSG.out, HLO.out, below_step HB.out HBG.out⟩, by simp [intOf]; omega⟩
        · have t40 : zs.length ≤ 40 := by omega
          have hsv := save_any wc s b r [s, b, r] p sl tn xs ro zs.length rc zs D HS.out HD.out (L.out.fit (by omega)) (by have := L.out.c1; omega) (by intro k hk; simp at hk ⊢; omega) (by intro k hk; simp at hk; omega) (by omega) (by rw [n6']; omega) (by omega) (by omega) (by omega) (by omega) rfl t40 (HZ.out.below HB.out) HZB.out (by intro a' ha hy; have := HZ.out.lt a' ha hy; simp; omega) HRN.out tz2
          have Hsv := Lib.hid hsv
          clear hsv Hsh
          go_wp2_with (with_reducible refine halt_call ?_)
          refine Halted.run (Hsv.out.mono ?_); intro e w7 hp7
          obtain ⟨D7, rfl, hb7, hd7, l7, n7, k7, hs7, oth7, -⟩ := save_live (pt := p) hp7 L.out K.out (by rw [n6']; omega) X.out hsl (by omega) (by omega) t40 HZB.out
          have hacc := accTo_upd _ _ _ _ zs HACC.out (by omega) hsl
          have n7' : D7.n = N := n7.trans n6'
          have hlo7 : ∀ i, i < N → (D7.sec i).loose = false := by
            intro i hi
            by_cases h1 : i = p
            · subst h1; exact k7.f 0 (by omega)
            · by_cases h2 : i = p + 1
              · subst h2; exact k7.f 1 (by omega)
              · rw [oth7 i (by rw [n6']; exact hi) h1 h2]; rfl
          have lb7 := hd7.lt_b; have lr7 := hd7.lt_r; have ls7 := hs7.lt
          have HB7 := Lib.hid (But.step HB.out hb7 (by simp; omega)); have HS7 := Lib.hid hs7; have K7 := Lib.hid k7; have L7 := Lib.hid l7; have HD7 := Lib.hid hd7; have HA7 := Lib.hid hacc; have HLO7 := Lib.hid hlo7
          have hcv := slAt_string (show SlAt .u8 0 w7 (.slice ro zs.length rc) zs from ⟨ro, rc, rfl, HZ.out.below HB7.out, tz2, hrc, HRN.out, fun _ _ => Nat.zero_le _⟩)
          clear Hsv hp7 hb7 hd7 l7 n7 k7 hs7 oth7 hacc hlo7 HB HS K L HD HACC HLO X
          have hop := open_any w7 b r [b, r] D7 p _ HD7.out (by rw [n7']; omega) (by intro k hk; simp at hk; omega) K7.out.c
          have Hop := Lib.hid hop
          clear hop
          go_wp2_with (with_reducible refine halt_call ?_)
          refine Halted.run (Hop.out.mono ?_); rintro e wB ⟨hbB, hres⟩
          rw [HA7.out] at hres
          rcases hres with ⟨h0, -⟩ | ⟨-, t, rfl, ht, htB⟩
          · exact absurd h0 (show ¬ (tn + 1) = 0 by omega)
          have hcr := crash_any wB b r D7 none 0 0 [] rfl (HD7.out.below hbB) RdB.nil (by simp)
          have Hcr := Lib.hid hcr; have HTB := Lib.hid htB; have HBB := Lib.hid hbB
          clear Hop hbB hcr htB ht
          go_wp2_with (with_reducible refine halt_call ?_)
          refine Halted.run (Hcr.out.mono ?_); rintro e wC ⟨cb, cr, rfl, hcC, -, -, hbC⟩
          have kC := K7.out.crash []
          have nC : (D7.crash []).n = N := n7'
          generalize D7.crash [] = Dc at *
          have hop := open_any wC cb cr [] Dc p _ hcC (by rw [nC]; omega) (by simp) kC.c
          have Hop := Lib.hid hop; have HBC := Lib.hid (below_step HBB.out hbC); have HTC := Lib.hid (HTB.out.below hbC)
          clear Hcr hcC hbC kC hop HBB HTB
          go_wp2_with (with_reducible refine halt_call ?_)
          refine Halted.run (Hop.out.mono ?_); rintro e wD ⟨hbD, hres⟩
          rw [HA7.out] at hres
          rcases hres with ⟨h0, -⟩ | ⟨-, u, rfl, hu, huD⟩
          · exact absurd h0 (show ¬ (tn + 1) = 0 by omega)
          have HBD := Lib.hid (below_step HBC.out hbD); have HTD := Lib.hid (HTC.out.below hbD); have HUD := Lib.hid huD; have HSD := Lib.hid (HS7.out.below (below_step HBC.out hbD))
          have Htx := Lib.hid (text_any wD t b _ _ _ _ _ HTD.out)
          clear Hop hbD huD HBC HTC hu
          generalize hst : strOfNums zs = st at *
          have Hst := Lib.hid hst
          clear hst
          go_wp2_with (with_reducible refine halt_call ?_)
          refine Halted.run (Htx.out.mono ?_); rintro e wE ⟨vE, rfl, hvE, hbE⟩
          have cE := slAt_string hvE
          rw [Hst.out] at cE
          have Htn := Lib.hid (turn_any wE t b _ _ _ _ _ (HTD.out.below hbE)); have HBE := Lib.hid (below_step HBD.out hbE); have HUE := Lib.hid (HUD.out.below hbE); have HSE := Lib.hid (HSD.out.below hbE)
          clear Htx hvE hbE HBD HTD HUD HSD
          go_wp2_with (with_reducible refine halt_call ?_)
          refine Halted.run (Htn.out.mono ?_); rintro e w' ⟨rfl, rfl⟩
          have Htx := Lib.hid (text_any wE u cb _ _ _ _ _ HUE.out)
          clear Htn
          go_wp2_with (with_reducible refine halt_call ?_)
          refine Halted.run (Htx.out.mono ?_); rintro e wF ⟨vF, rfl, hvF, hbF⟩
          have cF := slAt_string hvF
          rw [Hst.out] at cF
          have HBF := Lib.hid (below_step HBE.out hbF); have HSF := Lib.hid (HSE.out.below hbF)
          have Htx2 := Lib.hid (text_any wF s b _ _ _ _ _ HSF.out)
          clear Htx hvF hbF cE HBE HUE HSE
          go_wp2_with (with_reducible refine halt_call ?_)
          refine Halted.run (Htx2.out.mono ?_); rintro e wG ⟨vG, rfl, hvG, hbG⟩
          have cG := slAt_string hvG
          rw [Hst.out] at cG
          have HBG := Lib.hid (below_step HBF.out hbG); have HSG := Lib.hid (HSF.out.below hbG)
          have Htn := Lib.hid (turn_any wG s b _ _ _ _ _ HSG.out)
          clear Htx2 hvG hbG cF HBF HSF
          go_wp2_with (with_reducible refine halt_call ?_)
          refine Halted.run (Htn.out.mono ?_); rintro e w' ⟨rfl, rfl⟩
          have gG := HBG.out.size
          go_wp2
          refine ⟨⟨k + 1, 1 - sl, (tn + 1), zs, D7, _, by omega, by omega, by go_num, by rw [Hst.out], rfl, by omega, by omega, (by omega), HD7.out.below HBG.out, (by rw [show (4 : Int) + 2 * ((k + 1 : Nat) : Int) = 4 + 2 * k + 2 by omega]; exact L7.out), n7', K7.out, HA7.out, HSG.out, HLO7.out, below_step HB7.out HBG.out⟩, by simp [intOf]; omega⟩
      · rw [decide_eq_false hlt]
        have hl := loose_any wc b r D HD.out
        rw [n6', loose_none D N HLO.out] at hl
        have Hl := Lib.hid hl
        clear hl
        go_wp2_with (with_reducible refine halt_call ?_)
        refine Halted.run (Hl.out.mono ?_); rintro e wZ ⟨v, rfl, hv, hbZ⟩
        obtain ⟨ao, cz, rfl, -⟩ := hv
        go_wp2
        go_ret
        exact ⟨rfl, below_step HB.out hbZ⟩
end Go.Proofs.Ytcahhopneobjbaa
