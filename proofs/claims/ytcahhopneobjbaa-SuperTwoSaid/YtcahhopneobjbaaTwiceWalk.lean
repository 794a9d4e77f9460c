/- DevTwice's walk. -/
import Derived.Test.YtcahhopneobjbaaDevE
import Derived.Laws.BytesArg
namespace Go.Proofs.Ytcahhopneobjbaa
open Go.RowKit

theorem wr_keeps (D : Dv) (p : Int) (bs : List Int) (hl : D.lit = false) (hd : D.dead = false) (hc : 0 ≤ D.calls) (hf : D.fuse = 0) :
    (D.wr p bs).n = D.n ∧ (D.wr p bs).lit = false ∧ (D.wr p bs).dead = false ∧ 0 ≤ (D.wr p bs).calls ∧ (D.wr p bs).calls ≤ D.calls + 1 ∧ (D.wr p bs).fuse = 0 := by
  unfold Dv.wr
  split
  · refine ⟨rfl, hl, hd, ?_, ?_, ?_⟩
    · show 0 ≤ D.calls + 1; omega
    · show D.calls + 1 ≤ _; omega
    · show (if D.lit then D.fuse - 1 else D.fuse) = 0; rw [hl]; simpa using hf
  · exact ⟨rfl, hl, hd, hc, by omega, hf⟩
theorem fl_keeps (D : Dv) (hl : D.lit = false) (hd : D.dead = false) (hc : 0 ≤ D.calls) (hf : D.fuse = 0) :
    D.fl.n = D.n ∧ D.fl.lit = false ∧ D.fl.dead = false ∧ 0 ≤ D.fl.calls ∧ D.fl.calls ≤ D.calls + 1 ∧ D.fl.fuse = 0 := by
  unfold Dv.fl
  split
  · exact ⟨rfl, hl, hd, hc, by omega, hf⟩
  · refine ⟨rfl, hl, hd, ?_, ?_, ?_⟩
    · show 0 ≤ D.calls + 1; omega
    · show D.calls + 1 ≤ _; omega
    · show (if D.lit then D.fuse - 1 else D.fuse) = 0; rw [hl]; simpa using hf
theorem crash_crash (D : Dv) (k1 k2 : List Bool) (p : Nat) : (((D.crash k1).crash k2).sec p).now = ((D.crash k1).sec p).now := by
  show (D.crash k1).left k2 p = _
  unfold Dv.left
  split <;> rfl
/-- A slice of bytes, told as a string. -/
theorem slAt_string {B : Nat} {w : World} {v : Value} {xs : List Int} (h : SlAt .u8 B w v xs) : (convert 22 9 v).run Try.prog w = .ok (.string (strOfNums xs)) w := by
  obtain ⟨ao, cap, rfl, hr, h1, h2, h3, h4⟩ := h
  cases ao with
  | none =>
    have : xs = [] := by
      cases xs with
      | nil => rfl
      | cons y ys => obtain ⟨_, h, _⟩ := hr 0 (by simp); cases h
    subst this
    exact run_convert_bytes_nil w 22 5 Try.underlying22 Try.underlying5 _ _ 9 Try.underlying9
  | some a =>
    rw [run_convert_bytes_string w 22 9 5 _ _ cap Try.underlying22 Try.underlying5 Try.underlying9]
    have hl : (loadCells a xs.length).run Try.prog w = .ok (xs.map (Value.int .u8)).toArray w := by
      have := run_loadCells_list (P := Try.prog) w a (xs.map (Value.int .u8)) (fun j v hj => by
        have hjl : j < xs.length := by
          rcases Nat.lt_or_ge j xs.length with h | h
          · exact h
          · simp [List.getElem?_eq_none h] at hj
        obtain ⟨a', ha', hc'⟩ := hr j hjl
        cases ha'
        rw [hc', ← hj]
        simp [hjl])
      simpa using this
    rw [run_bytesToString w a _ cap xs hl, foldl_push_bytes]
    simp [strOfNums, ByteArray.empty, ByteArray.emptyWithCapacity]
    rfl
theorem SlAt.below {k : IntKind} {B : Nat} {w w' : World} {v : Value} {xs : List Int} (h : SlAt k B w v xs) (hb : Below w.heap.size w w') : SlAt k B w' v xs := by
  obtain ⟨ao, cap, h0, h1, h2⟩ := h
  exact ⟨ao, cap, h0, h1.below hb, h2⟩
theorem crash_loose2 (D : Dv) (ks : List Bool) : ∀ p, (D.crash ks).looseTo p = []
  | 0 => rfl
  | p + 1 => by
    unfold Dv.looseTo
    have : ((D.crash ks).sec p).loose = false := rfl
    rw [this, if_neg (by decide)]
    exact crash_loose2 D ks p
structure TwOk (k : Nat) (D : Dv) : Prop where
  n : D.n = 16
  lit : D.lit = false
  dead : D.dead = false
  c0 : 0 ≤ D.calls
  c1 : D.calls ≤ 2 * k
  fuse : D.fuse = 0
theorem TwOk.fit {k : Nat} {D : Dv} (h : TwOk k D) (hk : k ≤ 30) : Fit D := by
  have := h.c1; have := h.fuse
  exact ⟨h.c0, by omega, by omega, by omega⟩

set_option maxHeartbeats 1000000 in
theorem devTwice_any (ao : Option Addr) (m cap : Nat) (xs : List Int) (fl : Int) (b1 : Option Addr) (m1 cap1 : Nat) (k1 : List Bool) (b2 : Option Addr) (m2 cap2 : Nat) (k2 : List Bool) (w : World)
    (hm : m = xs.length) (hmc : m ≤ cap) (_hcap : cap ≤ 9223372036854775807) (hx : Rd .i64 w ao xs)
    (hm1 : m1 = k1.length) (hmc1 : m1 ≤ cap1) (hcap1 : cap1 ≤ 9223372036854775807) (hk1 : RdB w b1 k1)
    (hm2 : m2 = k2.length) (hmc2 : m2 ≤ cap2) (hcap2 : cap2 ≤ 9223372036854775807) (hk2 : RdB w b2 k2) :
    Calls Try.prog 7 #[.slice ao m cap, .int .i64 fl, .slice b1 m1 cap1, .slice b2 m2 cap2] w fun e w' => e = .returned (.bool true) ∧ Below w.heap.size w w' := by
  subst hm
  subst hm1
  subst hm2
  have Hb := Lib.hid (begun_any w)
  have Hx := Lib.hid hx; have Hk1 := Lib.hid hk1; have Hk2 := Lib.hid hk2
  clear hx hk1 hk2
  go_enter Try.func7, Try.ntmps7
  go_wp2_with (with_reducible refine halt_call ?_)
  refine Halted.run (Hb.out.mono ?_); rintro e w1 ⟨rfl, hB⟩
  have HB := Lib.hid hB
  have hnew := new_is 16 w1
  rw [show clamp 16 = 16 from by decide] at hnew
  have Hn := Lib.hid hnew
  clear hB Hb hnew
  go_wp2_with (with_reducible refine halt_call ?_)
  refine Halted.run (Hn.out.mono ?_); rintro e w2 ⟨b, r, rfl, hd, hb, hr, hB⟩
  have g1 := HB.out.size
  have hb0 : w.heap.size ≤ b := by omega
  have hr0 : w.heap.size ≤ r := by omega
  have Hd := Lib.hid hd; have HB2 := Lib.hid (below_step HB.out hB)
  clear hd hB HB Hn hb hr g1
  go_wp2
  go_loopw [11] (fun i wx => ∃ (k : Nat) (D : Dv), k ≤ 30 ∧ k ≤ xs.length ∧ i = .int .i64 k ∧ TwOk k D ∧ DevAt wx b r D ∧ Below w.heap.size w wx) (fun i _ => 30 - (intOf i).toNat)
  case atStart => exact ⟨0, _, by omega, by omega, rfl, ⟨rfl, rfl, rfl, by decide, by decide, rfl⟩, Hd.out, HB2.out⟩
  case round =>
    clear Hd HB2
    obtain ⟨k, D, hk30, hkl, rfl, hT, hd, hB⟩ := hrel
    by_cases hin : k < xs.length ∧ k < 30
    · obtain ⟨hl, h30⟩ := hin
      obtain ⟨a, rfl, hc⟩ := (Hx.out.below hB) k hl
      generalize hxv : xs[k] = x at hc
      have t0 : -16 < x.tmod 16 := by have := Int.lt_tmod_of_pos x (show (0 : Int) < 16 by omega); omega
      have t1 : x.tmod 16 < 16 := by have := Int.tmod_lt_of_pos x (show (0 : Int) < 16 by omega); omega
      have B1 := below_next hB (.cells #[.int .u8 (k + 1)] 5)
      have d1 := hd.below ((Below.refl wr.heap.size wr).alloc (Nat.le_refl _) (.cells #[.int .u8 (k + 1)] 5))
      have lb := hd.lt_b; have lr := hd.lt_r
      have hw := fun p => write_any _ b r D p [(k : Int) + 1] (some ⟨wr.heap.size, 0, none⟩) 1 1 rfl d1 (hT.fit hk30) (rd_new .u8 wr [(k : Int) + 1] _ 5 (0, 0) rfl) (by intro x hx; simp at hx; omega) (by intro a ha; cases ha; simp; omega) (by simp)
      have Hw := Lib.hid hw; have HB1 := Lib.hid B1; have HT := Lib.hid hT
      clear hB B1 d1 hd hw hT hxv
      go_wp2_with (with_reducible refine halt_call ?_)
      have Hw2 := Lib.hid (Hw.out (x.tmod 16 % 16))
      clear Hw
      refine Halted.run (Hw2.out.mono ?_); rintro e w4 ⟨rfl, hd4, hb4⟩
      obtain ⟨q1, q2, q3, q4, q5, q6⟩ := wr_keeps D (x.tmod 16 % 16) [(k : Int) + 1] HT.out.lit HT.out.dead HT.out.c0 HT.out.fuse
      have hc1 := HT.out.c1
      have hT2 : TwOk (k + 1) (D.wr (x.tmod 16 % 16) [(k : Int) + 1]) := ⟨q1.trans HT.out.n, q2, q3, q4, by omega, q6⟩
      have hc5 : (D.wr (x.tmod 16 % 16) [(k : Int) + 1]).calls ≤ 2 * k + 1 := by omega
      have hb5 := But.step HB1.out hb4 (by simp; omega)
      generalize D.wr (x.tmod 16 % 16) [(k : Int) + 1] = D4 at *
      have HT2 := Lib.hid hT2; have Hd4 := Lib.hid hd4; have HB4 := Lib.hid hb5; have Hc5 := Lib.hid hc5
      clear Hw2 q1 q2 q3 q4 q5 q6 hT2 hd4 hb4 hb5 HB1 HT hc1 hc5
      generalize D.wErr (x.tmod 16 % 16) [(k : Int) + 1].length = er
      clear t0 t1 hc
      by_cases hfl : (k : Int) = fl
      · have hfe : ((k : Int) == fl) = true := by simp [hfl]
        have hff := flush_any w4 b r D4 Hd4.out (HT2.out.fit (by omega))
        have Hff := Lib.hid hff; have Hfl := Lib.hid hfl
        clear hff hfl
        go_wp2_with (with_reducible refine halt_call ?_)
        refine Halted.run (Hff.out.mono ?_); rintro e w5 ⟨rfl, hd5, hb5⟩
        obtain ⟨q1, q2, q3, q4, q5, q6⟩ := fl_keeps D4 HT2.out.lit HT2.out.dead HT2.out.c0 HT2.out.fuse
        have hc5 := Hc5.out
        have hT3 : TwOk (k + 1) D4.fl := ⟨q1.trans HT2.out.n, q2, q3, q4, by omega, q6⟩
        have HT3 := Lib.hid hT3; have Hd5 := Lib.hid hd5; have HB5 := Lib.hid (But.step HB4.out hb5 (by simp; omega))
        clear Hff q1 q2 q3 q4 q5 q6 hT3 hd5 hb5 HT2 Hd4 HB4 Hc5 hc5
        generalize D4.fl = D5 at *
        go_wp2
        refine ⟨⟨k + 1, D5, by omega, by omega, by go_num, HT3.out, Hd5.out, HB5.out⟩, by simp [intOf]; omega⟩
      · have hfe : ((k : Int) == fl) = false := by simp [hfl]
        clear hfl
        go_wp2
        refine ⟨⟨k + 1, D4, by omega, by omega, by go_num, HT2.out, Hd4.out, HB4.out⟩, by simp [intOf]; omega⟩
    · have hcr := crash_any wr b r _ b1 k1.length cap1 k1 rfl hd (Hk1.out.below hB) (by omega)
      have Hcr := Lib.hid hcr; have HB := Lib.hid hB; have Hn16 := Lib.hid hT.n
      clear hcr hB hd hT
      by_cases hlt : k < xs.length
      · have hk30 : k = 30 := by omega
        subst hk30
        clear hin
        go_wp2_with (with_reducible refine halt_call ?_)
        refine Halted.run (Hcr.out.mono ?_); rintro e w5 ⟨cb, cr, rfl, hc, hcb, hcr, hB5⟩
        have hb5 := below_step HB.out hB5
        have hcr2 := crash_any w5 cb cr _ b2 k2.length cap2 k2 rfl hc (Hk2.out.below hb5) (by omega)
        have HB5 := Lib.hid hb5; have Hc5 := Lib.hid hc; have Hcr2 := Lib.hid hcr2
        clear Hcr HB hB5 hb5 hc hcr2
        go_wp2_with (with_reducible refine halt_call ?_)
        refine Halted.run (Hcr2.out.mono ?_); rintro e w6 ⟨fb, fr, rfl, hf, hfb, hfr, hB6⟩
        have HB6 := Lib.hid (below_step HB5.out hB6); have Hc6 := Lib.hid (Hc5.out.below hB6); have Hf6 := Lib.hid hf
        clear Hcr2 HB5 hB6 Hc5 hf
        go_wp2
        go_loopw [14] (fun i wx => ∃ j : Nat, j ≤ 16 ∧ i = .int .i64 j ∧ DevAt wx cb cr (D.crash k1) ∧ DevAt wx fb fr ((D.crash k1).crash k2) ∧ Below w.heap.size w wx) (fun i _ => 16 - (intOf i).toNat)
        case atStart => exact ⟨0, by omega, rfl, Hc6.out, Hf6.out, HB6.out⟩
        case round =>
          clear Hc6 Hf6 HB6
          obtain ⟨j, hjn, rfl, hc, hf, hB⟩ := hrel
          by_cases hlt : j < 16
          · have hrd := read_in wr cb cr _ j hc (by show j < D.n; rw [Hn16.out]; exact hlt)
            have Hrd := Lib.hid hrd; have HB := Lib.hid hB; have Hc := Lib.hid hc; have Hf := Lib.hid hf
            clear hrd hB hc hf
            go_wp2_with (with_reducible refine halt_call ?_)
            refine Halted.run (Hrd.out.mono ?_); rintro e w7 ⟨v7, rfl, hs7, hb7⟩
            have hf7 := Hf.out.below hb7
            have hrd := read_in w7 fb fr _ j hf7 (by show j < D.n; rw [Hn16.out]; exact hlt)
            rw [crash_crash] at hrd
            have Hrd2 := Lib.hid hrd; have HB7 := Lib.hid (below_step HB.out hb7); have Hc7 := Lib.hid (Hc.out.below hb7); have Hf7 := Lib.hid hf7; have Hs7 := Lib.hid hs7
            clear Hrd HB Hc Hf hs7 hb7 hf7 hrd
            go_wp2_with (with_reducible refine halt_call ?_)
            refine Halted.run (Hrd2.out.mono ?_); rintro e w8 ⟨v8, rfl, hs8, hb8⟩
            have s7 := slAt_string (Hs7.out.below hb8)
            have s8 := slAt_string hs8
            have HB8 := Lib.hid (below_step HB7.out hb8); have Hc8 := Lib.hid (Hc7.out.below hb8); have Hf8 := Lib.hid (Hf7.out.below hb8)
            clear Hrd2 HB7 Hc7 Hf7 Hs7 hs8 hb8
            generalize strOfNums ((D.crash k1).sec j).now = st at *
            go_wp2
            refine ⟨⟨j + 1, by omega, by go_num, Hc8.out, Hf8.out, HB8.out⟩, by simp [intOf]; omega⟩
          · have hlo := loose_any wr fb fr _ hf
            rw [crash_loose2] at hlo
            have hca : Calls Try.prog 28 #[.pointer (some ⟨fb, 0, none⟩)] wr fun e w' => e = .returned (.int .i64 0) ∧ wr = w' := calls_any wr fb fr _ hf
            have hde : Calls Try.prog 29 #[.pointer (some ⟨fb, 0, none⟩)] wr fun e w' => e = .returned (.bool false) ∧ wr = w' := dead_any wr fb fr _ hf
            have Hlo := Lib.hid hlo; have HB := Lib.hid hB; have Hca := Lib.hid hca; have Hde := Lib.hid hde
            clear hlo hB hc hf hca hde
            go_wp2_with (with_reducible refine halt_call ?_)
            refine Halted.run (Hca.out.mono ?_); rintro e w' ⟨rfl, rfl⟩
            go_wp2_with (with_reducible refine halt_call ?_)
            refine Halted.run (Hde.out.mono ?_); rintro e w' ⟨rfl, rfl⟩
            go_wp2_with (with_reducible refine halt_call ?_)
            refine Halted.run (Hlo.out.mono ?_); rintro e w9 ⟨v9, rfl, hs9, hb9⟩
            obtain ⟨ao9, cap9, rfl, h91, h92, h93, h94, h95⟩ := hs9
            have HB9 := Lib.hid (below_step HB.out hb9)
            clear Hlo HB h91 h92 h93 h94 h95 hb9
            go_wp2
            go_ret
            exact ⟨rfl, HB9.out⟩
      · clear hin
        go_wp2_with (with_reducible refine halt_call ?_)
        refine Halted.run (Hcr.out.mono ?_); rintro e w5 ⟨cb, cr, rfl, hc, hcb, hcr, hB5⟩
        have hb5 := below_step HB.out hB5
        have hcr2 := crash_any w5 cb cr _ b2 k2.length cap2 k2 rfl hc (Hk2.out.below hb5) (by omega)
        have HB5 := Lib.hid hb5; have Hc5 := Lib.hid hc; have Hcr2 := Lib.hid hcr2
        clear Hcr HB hB5 hb5 hc hcr2
        go_wp2_with (with_reducible refine halt_call ?_)
        refine Halted.run (Hcr2.out.mono ?_); rintro e w6 ⟨fb, fr, rfl, hf, hfb, hfr, hB6⟩
        have HB6 := Lib.hid (below_step HB5.out hB6); have Hc6 := Lib.hid (Hc5.out.below hB6); have Hf6 := Lib.hid hf
        clear Hcr2 HB5 hB6 Hc5 hf
        go_wp2
        go_loopw [14] (fun i wx => ∃ j : Nat, j ≤ 16 ∧ i = .int .i64 j ∧ DevAt wx cb cr (D.crash k1) ∧ DevAt wx fb fr ((D.crash k1).crash k2) ∧ Below w.heap.size w wx) (fun i _ => 16 - (intOf i).toNat)
        case atStart => exact ⟨0, by omega, rfl, Hc6.out, Hf6.out, HB6.out⟩
        case round =>
          clear Hc6 Hf6 HB6
          obtain ⟨j, hjn, rfl, hc, hf, hB⟩ := hrel
          by_cases hlt : j < 16
          · have hrd := read_in wr cb cr _ j hc (by show j < D.n; rw [Hn16.out]; exact hlt)
            have Hrd := Lib.hid hrd; have HB := Lib.hid hB; have Hc := Lib.hid hc; have Hf := Lib.hid hf
            clear hrd hB hc hf
            go_wp2_with (with_reducible refine halt_call ?_)
            refine Halted.run (Hrd.out.mono ?_); rintro e w7 ⟨v7, rfl, hs7, hb7⟩
            have hf7 := Hf.out.below hb7
            have hrd := read_in w7 fb fr _ j hf7 (by show j < D.n; rw [Hn16.out]; exact hlt)
            rw [crash_crash] at hrd
            have Hrd2 := Lib.hid hrd; have HB7 := Lib.hid (below_step HB.out hb7); have Hc7 := Lib.hid (Hc.out.below hb7); have Hf7 := Lib.hid hf7; have Hs7 := Lib.hid hs7
            clear Hrd HB Hc Hf hs7 hb7 hf7 hrd
            go_wp2_with (with_reducible refine halt_call ?_)
            refine Halted.run (Hrd2.out.mono ?_); rintro e w8 ⟨v8, rfl, hs8, hb8⟩
            have s7 := slAt_string (Hs7.out.below hb8)
            have s8 := slAt_string hs8
            have HB8 := Lib.hid (below_step HB7.out hb8); have Hc8 := Lib.hid (Hc7.out.below hb8); have Hf8 := Lib.hid (Hf7.out.below hb8)
            clear Hrd2 HB7 Hc7 Hf7 Hs7 hs8 hb8
            generalize strOfNums ((D.crash k1).sec j).now = st at *
            go_wp2
            refine ⟨⟨j + 1, by omega, by go_num, Hc8.out, Hf8.out, HB8.out⟩, by simp [intOf]; omega⟩
          · have hlo := loose_any wr fb fr _ hf
            rw [crash_loose2] at hlo
            have hca : Calls Try.prog 28 #[.pointer (some ⟨fb, 0, none⟩)] wr fun e w' => e = .returned (.int .i64 0) ∧ wr = w' := calls_any wr fb fr _ hf
            have hde : Calls Try.prog 29 #[.pointer (some ⟨fb, 0, none⟩)] wr fun e w' => e = .returned (.bool false) ∧ wr = w' := dead_any wr fb fr _ hf
            have Hlo := Lib.hid hlo; have HB := Lib.hid hB; have Hca := Lib.hid hca; have Hde := Lib.hid hde
            clear hlo hB hc hf hca hde
            go_wp2_with (with_reducible refine halt_call ?_)
            refine Halted.run (Hca.out.mono ?_); rintro e w' ⟨rfl, rfl⟩
            go_wp2_with (with_reducible refine halt_call ?_)
            refine Halted.run (Hde.out.mono ?_); rintro e w' ⟨rfl, rfl⟩
            go_wp2_with (with_reducible refine halt_call ?_)
            refine Halted.run (Hlo.out.mono ?_); rintro e w9 ⟨v9, rfl, hs9, hb9⟩
            obtain ⟨ao9, cap9, rfl, h91, h92, h93, h94, h95⟩ := hs9
            have HB9 := Lib.hid (below_step HB.out hb9)
            clear Hlo HB h91 h92 h93 h94 h95 hb9
            go_wp2
            go_ret
            exact ⟨rfl, HB9.out⟩
end Go.Proofs.Ytcahhopneobjbaa
