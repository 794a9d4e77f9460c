/- DevKeeps' walk. -/
import Derived.Test.YtcahhopneobjbaaDevE
namespace Go.Proofs.Ytcahhopneobjbaa
open Go.RowKit

/-- The device behind k writes. -/
def keepSec (k p : Nat) : Sec := if p % 2 = 1 ∧ p ≤ 39 ∧ (39 - p) / 2 < k then ⟨(((39 - p) / 2 + 1 : Nat) : Int) :: List.replicate 63 0, List.replicate 64 0, true⟩ else zSec
def keepD (k : Nat) : Dv := ⟨40, keepSec k, k, false, 0, false⟩
theorem keepD_zero : keepD 0 = newD 40 := by
  unfold keepD newD
  congr 1
  funext p
  unfold keepSec
  rw [if_neg (by omega)]
theorem keepD_fit (k : Nat) (h : k ≤ 20) : Fit (keepD k) := by constructor <;> simp [keepD] <;> omega
theorem keepD_wr (k : Nat) (h : k < 20) : (keepD k).wr (39 - 2 * (k : Int)) [(k : Int) + 1] = keepD (k + 1) ∧ (keepD k).wErr (39 - 2 * (k : Int)) 1 = 0 := by
  have hd : (keepD k).isDead = false := by simp [keepD, Dv.isDead]
  have ha : (keepD k).atErr (39 - 2 * (k : Int)) = 0 := by unfold Dv.atErr; rw [if_pos (by show _ ∧ _ < ((40 : Nat) : Int); omega)]
  have he : (keepD k).wErr (39 - 2 * (k : Int)) 1 = 0 := by unfold Dv.wErr; rw [hd, ha]; simp
  refine ⟨?_, he⟩
  unfold Dv.wr
  rw [show [(k : Int) + 1].length = 1 from rfl, he, if_pos rfl]
  have et : (39 - 2 * (k : Int)).toNat = 39 - 2 * k := by omega
  rw [et]
  unfold Dv.put Dv.burn
  show Dv.mk _ _ _ _ _ _ = keepD (k + 1)
  unfold keepD
  simp only [Bool.false_eq_true, ↓reduceIte]
  congr 1
  funext p
  by_cases hp : p = 39 - 2 * k
  · rw [if_pos hp]
    subst hp
    unfold keepSec
    rw [if_neg (by omega), if_pos (by omega)]
    have : (39 - (39 - 2 * k)) / 2 = k := by omega
    rw [this]
    simp [Sec.over, zSec]
  · rw [if_neg hp]
    unfold keepSec
    by_cases hc : p % 2 = 1 ∧ p ≤ 39 ∧ (39 - p) / 2 < k
    · rw [if_pos hc, if_pos (by omega)]
    · rw [if_neg hc, if_neg (by omega)]
theorem keepD_loose (n : Nat) (h : n ≤ 20) : ∀ p, p ≤ 40 → ((keepD n).looseTo p).length = (p + 2 * n - 40) / 2
  | 0, _ => by simp [Dv.looseTo]; omega
  | p + 1, hp => by
    have ih := keepD_loose n h p (by omega)
    unfold Dv.looseTo
    by_cases hc : p % 2 = 1 ∧ p ≤ 39 ∧ (39 - p) / 2 < n
    · have : ((keepD n).sec p).loose = true := by show (keepSec n p).loose = true; unfold keepSec; rw [if_pos hc]
      rw [this, if_pos rfl, List.length_append, ih]
      simp
      omega
    · have : ((keepD n).sec p).loose = false := by show (keepSec n p).loose = false; unfold keepSec; rw [if_neg hc]; rfl
      rw [this, if_neg (by decide), ih]
      omega
theorem keepD_left (n : Nat) (h : n ≤ 20) (ks : List Bool) (i : Nat) (hi : i < n) :
    (((keepD n).crash ks).sec (39 - 2 * i)).now.length = 64 ∧ (((keepD n).crash ks).sec (39 - 2 * i)).now[0]? = some (if ks.getD (n - 1 - i) false then (i : Int) + 1 else 0) := by
  show ((keepD n).left ks (39 - 2 * i)).length = 64 ∧ ((keepD n).left ks (39 - 2 * i))[0]? = _
  have hs : (keepD n).sec (39 - 2 * i) = ⟨((i + 1 : Nat) : Int) :: List.replicate 63 0, List.replicate 64 0, true⟩ := by
    show keepSec n _ = _
    unfold keepSec
    rw [if_pos (by omega)]
    have : (39 - (39 - 2 * i)) / 2 = i := by omega
    rw [this]
  unfold Dv.left
  rw [hs, keepD_loose n h _ (by omega)]
  have : (39 - 2 * i + 2 * n - 40) / 2 = n - 1 - i := by omega
  rw [this]
  cases ks.getD (n - 1 - i) false <;> simp
theorem crash_loose (D : Dv) (ks : List Bool) : ∀ p, (D.crash ks).looseTo p = []
  | 0 => rfl
  | p + 1 => by
    unfold Dv.looseTo
    have : ((D.crash ks).sec p).loose = false := rfl
    rw [this, if_neg (by decide)]
    exact crash_loose D ks p

set_option maxHeartbeats 1000000 in
theorem devKeeps_any (n : Int) (ao : Option Addr) (m cap : Nat) (ks : List Bool) (w : World) (hm : m = ks.length) (hmc : m ≤ cap) (hcap : cap ≤ 9223372036854775807) (hk : RdB w ao ks) :
    Calls Try.prog 9 #[.int .i64 n, .slice ao m cap] w fun e w' => e = .returned (.bool true) ∧ Below w.heap.size w w' := by
  subst hm
  have Hb := Lib.hid (begun_any w)
  have Hk := Lib.hid hk
  clear hk
  by_cases hn0 : n < 0
  · go_enter Try.func9, Try.ntmps9
    go_wp2_with (with_reducible refine halt_call ?_)
    refine Halted.run (Hb.out.mono ?_); rintro e w1 ⟨rfl, hB⟩
    have HB := Lib.hid hB
    clear hB
    go_wp2
    go_ret
    exact ⟨rfl, HB.out⟩
  by_cases hn1 : 20 < n
  · go_enter Try.func9, Try.ntmps9
    go_wp2_with (with_reducible refine halt_call ?_)
    refine Halted.run (Hb.out.mono ?_); rintro e w1 ⟨rfl, hB⟩
    have HB := Lib.hid hB
    clear hB
    go_wp2
    go_ret
    exact ⟨rfl, HB.out⟩
  obtain ⟨n, rfl⟩ : ∃ q : Nat, n = q := ⟨n.toNat, by omega⟩
  have hn20 : n ≤ 20 := by omega
  go_enter Try.func9, Try.ntmps9
  go_wp2_with (with_reducible refine halt_call ?_)
  refine Halted.run (Hb.out.mono ?_); rintro e w1 ⟨rfl, hB⟩
  have HB := Lib.hid hB
  have hnew := new_is 40 w1
  rw [show clamp 40 = 40 from by decide] at hnew
  have Hn := Lib.hid hnew
  clear hB Hb hnew
  go_wp2_with (with_reducible refine halt_call ?_)
  refine Halted.run (Hn.out.mono ?_); rintro e w2 ⟨b, r, rfl, hd, hb, hr, hB⟩
  rw [← keepD_zero] at hd
  have g1 := HB.out.size
  have hb0 : w.heap.size ≤ b := by omega
  have hr0 : w.heap.size ≤ r := by omega
  have Hd := Lib.hid hd; have HB2 := Lib.hid (below_step HB.out hB)
  clear hd hB HB Hn hb hr g1
  go_wp2
  go_loopw [7] (fun i wx => ∃ k : Nat, k ≤ n ∧ i = .int .i64 k ∧ DevAt wx b r (keepD k) ∧ Below w.heap.size w wx) (fun i _ => n - (intOf i).toNat)
  case atStart => exact ⟨0, by omega, rfl, Hd.out, HB2.out⟩
  case round =>
    clear Hd HB2
    obtain ⟨k, hkn, rfl, hd, hB⟩ := hrel
    by_cases hlt : k < n
    · have B1 := below_next hB (.cells #[.int .u8 (k + 1)] 5)
      have d1 := hd.below ((Below.refl wr.heap.size wr).alloc (Nat.le_refl _) (.cells #[.int .u8 (k + 1)] 5))
      have lb := hd.lt_b; have lr := hd.lt_r
      have hw := write_any _ b r _ (39 - 2 * (k : Int)) [(k : Int) + 1] (some ⟨wr.heap.size, 0, none⟩) 1 1 rfl d1 (keepD_fit k (by omega)) (rd_new .u8 wr [(k : Int) + 1] _ 5 (0, 0) rfl) (by intro x hx; simp at hx; omega) (by intro a ha; cases ha; simp; omega) (by simp)
      obtain ⟨e1, e2⟩ := keepD_wr k (by omega)
      rw [e1, show [(k : Int) + 1].length = 1 from rfl, e2] at hw
      have HB1 := Lib.hid B1; have Hw := Lib.hid hw
      clear hB B1 d1 hd hw e1 e2
      go_wp2_with (with_reducible refine halt_call ?_)
      refine Halted.run (Hw.out.mono ?_); rintro e w4 ⟨rfl, hd4, hb4⟩
      have Hd4 := Lib.hid hd4; have HB4 := Lib.hid (But.step HB1.out hb4 (by simp; omega))
      clear hd4 hb4 HB1 Hw
      go_wp2
      refine ⟨⟨k + 1, by omega, by go_num, Hd4.out, HB4.out⟩, by simp [intOf]; omega⟩
    · have hkn : k = n := by omega
      subst hkn
      have hcr := crash_any wr b r _ ao ks.length cap ks rfl hd (Hk.out.below hB) (by omega)
      have Hcr := Lib.hid hcr; have HB := Lib.hid hB; have Hd := Lib.hid hd
      clear hcr hB hd
      go_wp2_with (with_reducible refine halt_call ?_)
      refine Halted.run (Hcr.out.mono ?_); rintro e w5 ⟨cb, cr, rfl, hc, hcb, hcr, hB5⟩
      have HB5 := Lib.hid (below_step HB.out hB5); have Hd5 := Lib.hid (Hd.out.below hB5); have Hc5 := Lib.hid hc
      clear Hcr HB Hd hc hB5
      go_wp2
      go_loopw [9] (fun i wx => ∃ j : Nat, j ≤ k ∧ i = .int .i64 j ∧ DevAt wx b r (keepD k) ∧ DevAt wx cb cr ((keepD k).crash ks) ∧ Below w.heap.size w wx) (fun i _ => k - (intOf i).toNat)
      case atStart => exact ⟨0, by omega, rfl, Hd5.out, Hc5.out, HB5.out⟩
      case round =>
        clear Hd5 Hc5 HB5
        obtain ⟨j, hjn, rfl, hd, hc, hB⟩ := hrel
        by_cases hlt : j < k
        · have hrd := read_in wr cb cr _ (39 - 2 * j) hc (by show _ < 40; omega)
          obtain ⟨l1, l2⟩ := keepD_left k hn20 ks j hlt
          rw [show ((39 - 2 * j : Nat) : Int) = 39 - 2 * (j : Int) by omega] at hrd
          have Hrd := Lib.hid hrd; have HB := Lib.hid hB; have Hd := Lib.hid hd; have Hc := Lib.hid hc; have L1 := Lib.hid l1; have L2 := Lib.hid l2
          clear hrd hB hd hc l1 l2
          go_wp2_with (with_reducible refine halt_call ?_)
          refine Halted.run (Hrd.out.mono ?_); rintro e w6 ⟨v6, rfl, hs6, hb6⟩
          obtain ⟨a6, cap6, rfl, hc6, h6a, h6b, h6c⟩ := hs6.nth 64 0 _ L1.out L2.out
          rw [add_nought] at hc6
          have HB6 := Lib.hid (below_step HB.out hb6); have Hd6 := Lib.hid (Hd.out.below hb6); have Hc6 := Lib.hid (Hc.out.below hb6)
          clear Hrd HB Hd Hc L1 L2 hs6 hb6
          by_cases hat : k - 1 - j < ks.length
          · obtain ⟨ka, rfl, hka⟩ := Hk.out.below HB6.out _ hat
            have hget : ks.getD (k - 1 - j) false = ks[k - 1 - j] := by simp [hat]
            rw [hget] at hc6
            cases hkk : ks[k - 1 - j] <;> rw [hkk] at hka hc6
            · have hc6' : w6.cell? a6 = some (.int .u8 0) := hc6
              clear hc6 hget hkk
              go_wp2
              refine ⟨⟨j + 1, by omega, by go_num, Hd6.out, Hc6.out, HB6.out⟩, by simp [intOf]; omega⟩
            · have hc6' : w6.cell? a6 = some (.int .u8 (j + 1)) := hc6
              clear hc6 hget hkk
              go_wp2
              refine ⟨⟨j + 1, by omega, by go_num, Hd6.out, Hc6.out, HB6.out⟩, by simp [intOf]; omega⟩
          · have hget : ks.getD (k - 1 - j) false = false := by rw [List.getD_eq_getElem?_getD, List.getElem?_eq_none (by omega)]; rfl
            rw [hget] at hc6
            have hc6' : w6.cell? a6 = some (.int .u8 0) := hc6
            clear hc6 hget
            go_wp2
            refine ⟨⟨j + 1, by omega, by go_num, Hd6.out, Hc6.out, HB6.out⟩, by simp [intOf]; omega⟩
        · have hlo := loose_any wr cb cr _ hc
          rw [crash_loose] at hlo
          have Hlo := Lib.hid hlo; have HB := Lib.hid hB; have Hd := Lib.hid hd
          clear hlo hB hd hc
          have hl2 : ((keepD k).looseTo 40).length = k := by rw [keepD_loose k hn20 40 (by omega)]; omega
          have Hl2 := Lib.hid hl2
          clear hl2
          go_wp2_with (with_reducible refine halt_call ?_)
          refine Halted.run (Hlo.out.mono ?_); rintro e w6 ⟨v6, rfl, hs6, hb6⟩
          obtain ⟨ao6, cap6, rfl, h61, h62, h63, h64, h65⟩ := hs6
          have HB6 := Lib.hid (below_step HB.out hb6)
          have hlo : Calls Try.prog 22 #[.pointer (some ⟨b, 0, none⟩)] w6 fun e w' => ∃ v, e = .returned v ∧ SlAt .i64 w6.heap.size w' v ((keepD k).looseTo 40) ∧ Below w6.heap.size w6 w' := loose_any w6 b r _ (Hd.out.below hb6)
          have Hlo2 := Lib.hid hlo
          clear Hlo HB Hd h61 h62 h63 h64 h65 hb6 hlo
          go_wp2_with (with_reducible refine halt_call ?_)
          refine Halted.run (Hlo2.out.mono ?_); rintro e w7 ⟨v7, rfl, hs7, hb7⟩
          obtain ⟨ao7, cap7, rfl, h71, h72, h73, h74, h75⟩ := hs7
          rw [Hl2.out]
          have HB7 := Lib.hid (below_step HB6.out hb7)
          clear Hlo2 HB6 h71 h72 h73 h74 h75 hb7
          go_wp2
          go_ret
          exact ⟨rfl, HB7.out⟩
end Go.Proofs.Ytcahhopneobjbaa
