/- DevFuse's walk. -/
import Derived.Test.YtcahhopneobjbaaDevE
namespace Go.Proofs.Ytcahhopneobjbaa
open Go.RowKit
/-- The device behind i calls. -/
structure FuseAt (f i : Int) (D : Dv) : Prop where
  n : D.n = 4
  lit : D.lit = true
  dead : D.dead = (f == 0)
  fuse : D.fuse = f - mnI f i
  calls : D.calls = mnI f i
theorem FuseAt.isDead {f i : Int} {D : Dv} (h : FuseAt f i D) (hi : 0 ≤ i) : D.isDead = decide (f ≤ i) := by
  unfold Dv.isDead
  rw [h.lit, h.dead, h.fuse]
  unfold mnI
  by_cases h1 : i < f
  · rw [if_pos h1]
    have e1 : (f == 0) = false := by simp; omega
    have e2 : (f - i == 0) = false := by simp; omega
    have e3 : decide (f ≤ i) = false := by simp; omega
    rw [e1, e2, e3]; rfl
  · rw [if_neg h1]
    have e3 : decide (f ≤ i) = true := by simp; omega
    rw [e3, Int.sub_self]; simp
theorem FuseAt.fit {f i : Int} {D : Dv} (h : FuseAt f i D) (hf : 0 ≤ f) (hi : 0 ≤ i) (hf2 : f ≤ 40) : Fit D := by
  have h1 := h.fuse; have h2 := h.calls
  unfold mnI at h1 h2
  by_cases hh : i < f
  · rw [if_pos hh] at h1 h2
    constructor <;> omega
  · rw [if_neg hh] at h1 h2
    constructor <;> omega
theorem FuseAt.wr {f i : Int} {D : Dv} (h : FuseAt f i D) (hi : 0 ≤ i) (p : Int) (hp : 0 ≤ p ∧ p < 4) (bs : List Int) (hb : bs.length ≤ 64) : FuseAt f (i + 1) (D.wr p bs) ∧ D.wErr p bs.length = if i < f then 0 else 10 := by
  have hd := h.isDead hi
  have ha : D.atErr p = 0 := by unfold Dv.atErr; rw [h.n, if_pos (by omega)]
  unfold Dv.wr Dv.wErr
  rw [ha, if_neg (show ¬ ((0 : Int) ≠ 0) by decide), if_neg (show ¬ 64 < bs.length by omega), hd]
  by_cases hh : i < f
  · have e : decide (f ≤ i) = false := by simp; omega
    rw [e, if_pos hh]
    simp only [Bool.false_eq_true, ↓reduceIte]
    refine ⟨⟨h.n, h.lit, h.dead, ?_, ?_⟩, trivial⟩
    · show (if D.lit then D.fuse - 1 else D.fuse) = _
      rw [h.lit, if_pos rfl, h.fuse]
      unfold mnI
      rw [if_pos hh]
      split <;> omega
    · show D.calls + 1 = _
      rw [h.calls]
      unfold mnI
      rw [if_pos hh]
      split <;> omega
  · have e : decide (f ≤ i) = true := by simp; omega
    rw [e, if_neg hh]
    simp only [↓reduceIte, show ¬ ((10 : Int) = 0) by decide]
    refine ⟨⟨h.n, h.lit, h.dead, ?_, ?_⟩, trivial⟩
    · rw [h.fuse]; unfold mnI; rw [if_neg hh, if_neg (by omega)]
    · rw [h.calls]; unfold mnI; rw [if_neg hh, if_neg (by omega)]
theorem FuseAt.fl {f i : Int} {D : Dv} (h : FuseAt f i D) (hi : 0 ≤ i) : FuseAt f (i + 1) D.fl ∧ D.flErr = if i < f then 0 else 10 := by
  have hd := h.isDead hi
  unfold Dv.fl Dv.flErr
  rw [hd]
  by_cases hh : i < f
  · have e : decide (f ≤ i) = false := by simp; omega
    rw [e, if_neg (by decide), if_neg (by decide), if_pos hh]
    refine ⟨⟨h.n, h.lit, h.dead, ?_, ?_⟩, rfl⟩
    · show (if D.lit then D.fuse - 1 else D.fuse) = _
      rw [h.lit, if_pos rfl, h.fuse]
      unfold mnI
      rw [if_pos hh]
      split <;> omega
    · show D.calls + 1 = _
      rw [h.calls]
      unfold mnI
      rw [if_pos hh]
      split <;> omega
  · have e : decide (f ≤ i) = true := by simp; omega
    rw [e, if_pos rfl, if_pos rfl, if_neg hh]
    refine ⟨⟨h.n, h.lit, h.dead, ?_, ?_⟩, rfl⟩
    · rw [h.fuse]; unfold mnI; rw [if_neg hh, if_neg (by omega)]
    · rw [h.calls]; unfold mnI; rw [if_neg hh, if_neg (by omega)]

attribute [local go_sem high] run_min_mn
set_option maxHeartbeats 1000000 in
theorem devFuse_any (n f : Int) (w : World) : Calls Try.prog 8 #[.int .i64 n, .int .i64 f] w fun e w' => e = .returned (.bool true) ∧ Below w.heap.size w w' := by
  have Hb := Lib.hid (begun_any w)
  by_cases hn0 : n < 0
  · go_enter Try.func8, Try.ntmps8
    go_wp2_with (with_reducible refine halt_call ?_)
    refine Halted.run (Hb.out.mono ?_); rintro e w1 ⟨rfl, hB⟩
    have HB := Lib.hid hB
    clear hB
    go_wp2
    go_ret
    exact ⟨rfl, HB.out⟩
  by_cases hn1 : 30 < n
  · go_enter Try.func8, Try.ntmps8
    go_wp2_with (with_reducible refine halt_call ?_)
    refine Halted.run (Hb.out.mono ?_); rintro e w1 ⟨rfl, hB⟩
    have HB := Lib.hid hB
    clear hB
    go_wp2
    go_ret
    exact ⟨rfl, HB.out⟩
  by_cases hf0 : f < 0
  · go_enter Try.func8, Try.ntmps8
    go_wp2_with (with_reducible refine halt_call ?_)
    refine Halted.run (Hb.out.mono ?_); rintro e w1 ⟨rfl, hB⟩
    have HB := Lib.hid hB
    clear hB
    go_wp2
    go_ret
    exact ⟨rfl, HB.out⟩
  by_cases hf1 : 40 < f
  · go_enter Try.func8, Try.ntmps8
    go_wp2_with (with_reducible refine halt_call ?_)
    refine Halted.run (Hb.out.mono ?_); rintro e w1 ⟨rfl, hB⟩
    have HB := Lib.hid hB
    clear hB
    go_wp2
    go_ret
    exact ⟨rfl, HB.out⟩
  have hn0 : 0 ≤ n := by omega
  have hn1 : n ≤ 30 := by omega
  have hf0 : 0 ≤ f := by omega
  have hf1 : f ≤ 40 := by omega
  go_enter Try.func8, Try.ntmps8
  go_wp2_with (with_reducible refine halt_call ?_)
  refine Halted.run (Hb.out.mono ?_); rintro e w1 ⟨rfl, hB⟩
  have HB := Lib.hid hB
  have hnew := new_is 4 w1
  rw [show clamp 4 = 4 from by decide] at hnew
  have Hn := Lib.hid hnew
  clear hB Hb hnew
  go_wp2_with (with_reducible refine halt_call ?_)
  refine Halted.run (Hn.out.mono ?_); rintro e w2 ⟨b, r, rfl, hd, hb, hr, hB⟩
  have hfu := fuse_any w2 b r _ f hd
  have B2 := below_step HB.out hB
  have g1 := HB.out.size
  have Hfu := Lib.hid hfu; have HB2 := Lib.hid B2
  clear hd hB HB Hn hfu B2
  go_wp2_with (with_reducible refine halt_call ?_)
  refine Halted.run (Hfu.out.mono ?_); rintro e w3 ⟨rfl, hd, hbt⟩
  have hb0 : w.heap.size ≤ b := by omega
  have hr0 : w.heap.size ≤ r := by omega
  have B3 := But.step HB2.out hbt (by simp; omega)
  have hF : FuseAt f 0 ((newD 4).fused f) := by
    refine ⟨rfl, by show decide (0 ≤ f) = true; simp; omega, by show (false || f == 0) = _; simp, ?_, ?_⟩
    · show mxI f 0 = _; unfold mxI mnI; split <;> split <;> omega
    · show 0 = _; unfold mnI; split <;> omega
  have Hd := Lib.hid hd; have HB3 := Lib.hid B3; have HF := Lib.hid hF
  clear hd hbt HB2 Hfu B3 hF hb hr g1
  go_wp2
  go_loopw [7] (fun i wx => ∃ (k : Nat) (D : Dv), k ≤ n ∧ i = .int .i64 k ∧ FuseAt f k D ∧ DevAt wx b r D ∧ Below w.heap.size w wx) (fun i _ => n.toNat - (intOf i).toNat)
  case atStart => exact ⟨0, _, by omega, rfl, HF.out, Hd.out, HB3.out⟩
  case round =>
    clear HF Hd HB3
    obtain ⟨k, D, hk, rfl, hF, hd, hB⟩ := hrel
    by_cases hlt : (k : Int) < n
    · have hfit := hF.fit hf0 (by omega) hf1
      have hft : FuseAt f ((k + 1 : Nat) : Int) D.fl ∧ D.flErr = if (k : Int) < f then 0 else 10 := hF.fl (by omega)
      obtain ⟨hF2, hE2⟩ := hft
      by_cases hm : (k : Int) % 3 = 2
      · have tm : ((k : Int).tmod 3 == 2) = true := by rw [Int.tmod_eq_emod_of_nonneg (by omega)]; simp [hm]
        have tq : ((k : Int) % 3 == 2) = true := by simp [hm]
        have hfl := flush_any wr b r D hd hfit
        have hc : Calls Try.prog 27 #[.pointer (some ⟨b, 0, none⟩)] wr fun e w' => e = .returned (.int .i64 (if (k : Int) < f then 0 else 10)) ∧ (∃ D', FuseAt f ((k + 1 : Nat) : Int) D' ∧ DevAt w' b r D') ∧ Below w.heap.size w w' := by
          refine hfl.mono ?_
          rintro e w' ⟨rfl, h1, h2⟩
          exact ⟨by rw [hE2], ⟨_, hF2, h1⟩, But.step hB h2 (by simp; omega)⟩
        clear hfl
        by_cases hkf : (k : Int) < f
        · rw [if_pos hkf] at hc
          have Hc := Lib.hid hc; have Hk := Lib.hid hkf
          clear hc hB hd hF hfit hF2 hE2
          go_wp2_with (with_reducible refine halt_call ?_)
          refine Halted.run (Hc.out.mono ?_); rintro e w4 ⟨rfl, ⟨D', hF', hd4⟩, hb4⟩
          have HF4 := Lib.hid hF'; have Hd4 := Lib.hid hd4; have HB4 := Lib.hid hb4
          clear hd4 hb4 hF'
          go_wp2
          refine ⟨⟨k + 1, D', by omega, by go_num, HF4.out, Hd4.out, HB4.out⟩, by simp [intOf]; omega⟩
        · rw [if_neg hkf] at hc
          have Hc := Lib.hid hc; have Hk := Lib.hid hkf
          clear hc hB hd hF hfit hF2 hE2
          go_wp2_with (with_reducible refine halt_call ?_)
          refine Halted.run (Hc.out.mono ?_); rintro e w4 ⟨rfl, ⟨D', hF', hd4⟩, hb4⟩
          have HF4 := Lib.hid hF'; have Hd4 := Lib.hid hd4; have HB4 := Lib.hid hb4
          clear hd4 hb4 hF'
          go_wp2
          refine ⟨⟨k + 1, D', by omega, by go_num, HF4.out, Hd4.out, HB4.out⟩, by simp [intOf]; omega⟩
      · have tm : ((k : Int).tmod 3 == 2) = false := by rw [Int.tmod_eq_emod_of_nonneg (by omega)]; simp [hm]
        have B1 := below_next hB (.cells #[.int .u8 (k + 1)] 5)
        have d1 := hd.below ((Below.refl wr.heap.size wr).alloc (Nat.le_refl _) (.cells #[.int .u8 (k + 1)] 5))
        have tp : 0 ≤ (k : Int) % 4 ∧ (k : Int) % 4 < 4 := by omega
        have lb := hd.lt_b; have lr := hd.lt_r
        have hw := write_any _ b r D ((k : Int) % 4) [(k : Int) + 1] (some ⟨wr.heap.size, 0, none⟩) 1 1 rfl d1 hfit (rd_new .u8 wr [(k : Int) + 1] _ 5 (0, 0) rfl) (by intro x hx; simp at hx; omega) (by intro a ha; cases ha; simp; omega) (by simp)
        obtain ⟨hF3, hE3⟩ := hF.wr (by omega) _ tp [(k : Int) + 1] (by simp)
        have hc : Calls Try.prog 24 #[.pointer (some ⟨b, 0, none⟩), .int .i64 ((k : Int) % 4), .slice (some ⟨wr.heap.size, 0, none⟩) 1 1] (wr.alloc (.cells #[.int .u8 (k + 1)] 5)) fun e w' => e = .returned (.int .i64 (if (k : Int) < f then 0 else 10)) ∧ (∃ D', FuseAt f ((k + 1 : Nat) : Int) D' ∧ DevAt w' b r D') ∧ Below w.heap.size w w' := by
          refine hw.mono ?_
          rintro e w' ⟨rfl, h1, h2⟩
          exact ⟨by rw [hE3], ⟨_, hF3, h1⟩, But.step B1 h2 (by simp; omega)⟩
        clear hw hF3 hE3 B1 d1
        have tq : ((k : Int) % 3 == 2) = false := by simp [hm]
        by_cases hkf : (k : Int) < f
        · rw [if_pos hkf] at hc
          have Hc := Lib.hid hc; have Hk := Lib.hid hkf
          clear hc hB hd hF hfit hF2 hE2
          go_wp2_with (with_reducible refine halt_call ?_)
          refine Halted.run (Hc.out.mono ?_); rintro e w4 ⟨rfl, ⟨D', hF', hd4⟩, hb4⟩
          have HF4 := Lib.hid hF'; have Hd4 := Lib.hid hd4; have HB4 := Lib.hid hb4
          clear hd4 hb4 hF'
          go_wp2
          refine ⟨⟨k + 1, D', by omega, by go_num, HF4.out, Hd4.out, HB4.out⟩, by simp [intOf]; omega⟩
        · rw [if_neg hkf] at hc
          have Hc := Lib.hid hc; have Hk := Lib.hid hkf
          clear hc hB hd hF hfit hF2 hE2
          go_wp2_with (with_reducible refine halt_call ?_)
          refine Halted.run (Hc.out.mono ?_); rintro e w4 ⟨rfl, ⟨D', hF', hd4⟩, hb4⟩
          have HF4 := Lib.hid hF'; have Hd4 := Lib.hid hd4; have HB4 := Lib.hid hb4
          clear hd4 hb4 hF'
          go_wp2
          refine ⟨⟨k + 1, D', by omega, by go_num, HF4.out, Hd4.out, HB4.out⟩, by simp [intOf]; omega⟩
    · have hkn : (k : Int) = n := by omega
      have hca := calls_any wr b r D hd
      have hde := dead_any wr b r D hd
      rw [hF.isDead (by omega), hkn] at hde
      rw [hF.calls, hkn] at hca
      have em : mnI f n = mnI n f := by unfold mnI; split <;> split <;> omega
      rw [em] at hca
      have Hca := Lib.hid hca; have Hde := Lib.hid hde; have HB := Lib.hid hB
      clear hca hde hB hd hF em
      by_cases hnf : f ≤ n
      · rw [show decide (f ≤ n) = true by simp; omega] at Hde
        go_wp2_with (with_reducible refine halt_call ?_)
        refine Halted.run (Hca.out.mono ?_); rintro e w' ⟨rfl, rfl⟩
        go_wp2_with (with_reducible refine halt_call ?_)
        refine Halted.run (Hde.out.mono ?_); rintro e w' ⟨rfl, rfl⟩
        go_wp2
        go_ret
        exact ⟨rfl, HB.out⟩
      · rw [show decide (f ≤ n) = false by simp; omega] at Hde
        have df : decide (f ≤ n) = false := by simp; omega
        have dg : (false == false) = true := rfl
        clear hnf
        go_wp2_with (with_reducible refine halt_call ?_)
        refine Halted.run (Hca.out.mono ?_); rintro e w' ⟨rfl, rfl⟩
        go_wp2_with (with_reducible refine halt_call ?_)
        refine Halted.run (Hde.out.mono ?_); rintro e w' ⟨rfl, rfl⟩
        go_wp2
        go_ret
        exact ⟨by simp, HB.out⟩
end Go.Proofs.Ytcahhopneobjbaa
