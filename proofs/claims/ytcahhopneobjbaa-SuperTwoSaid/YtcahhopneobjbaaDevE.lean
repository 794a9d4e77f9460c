/- No device; one sector. -/
import Derived.Test.YtcahhopneobjbaaDevD
namespace Go.Proofs.Ytcahhopneobjbaa
open Go.RowKit

theorem rd_new (k : IntKind) (w : World) (xs : List Int) (C : Array Value) (t : TypeId) (m : Nat × Nat) (hC : C = (xs.map (Value.int k)).toArray) : Rd k (w.alloc (.cells C t m)) (some ⟨w.heap.size, 0, none⟩) xs := by
  intro i hi
  refine ⟨_, rfl, ?_⟩
  rw [cell_mark, hC]
  simp [hi]
theorem rdB_new (w : World) (ks : List Bool) (C : Array Value) (t : TypeId) (hC : C = (ks.map Value.bool).toArray) : RdB (w.alloc (.cells C t)) (some ⟨w.heap.size, 0, none⟩) ks := by
  intro i hi
  refine ⟨_, rfl, ?_⟩
  rw [cell_mark, hC]
  simp [hi]

theorem But.cell {bs : List Nat} {w w' : World} (h : But bs w w') {a : Addr} {v : Value} (hc : w.cell? a = some v) (hn : a.block ∉ bs) : w'.cell? a = some v := by
  have hl := World.block_lt_of_cell? _ _ hc
  rw [← hc]
  unfold World.cell?
  rw [h.block _ hl hn]
theorem add_nought (a : Addr) : a.add 0 = a := by unfold Addr.add; simp
theorem add_block (a : Addr) (i : Nat) : (a.add i).block = a.block := by unfold Addr.add; split <;> rfl
theorem SlAt.nth {k : IntKind} {B : Nat} {w : World} {v : Value} {xs : List Int} (h : SlAt k B w v xs) (n i : Nat) (x : Int) (hn : xs.length = n) (hi : xs[i]? = some x) :
    ∃ a cap, v = .slice (some a) n cap ∧ w.cell? (a.add i) = some (.int k x) ∧ n ≤ cap ∧ cap ≤ 9223372036854775807 ∧ B ≤ a.block := by
  subst hn
  obtain ⟨ao, cap, rfl, h1, h2, h3, h4, h5⟩ := h
  obtain ⟨hl, hx⟩ := List.getElem?_eq_some_iff.1 hi
  obtain ⟨a, rfl, hc⟩ := h1 i hl
  exact ⟨a, cap, rfl, by rw [hc, hx], h2, h3, h5 a rfl⟩
theorem below_cell {w w' : World} (h : Below w.heap.size w w') {a : Addr} {v : Value} (hc : w.cell? a = some v) : w'.cell? a = some v := by rw [h.cell (World.block_lt_of_cell? _ _ hc), hc]

/-! ### No device -/
theorem len_nil (w : World) : Calls Try.prog 26 #[.pointer none] w fun e w' => e = .returned (.int .i64 0) ∧ w = w' := by
  go_enter Try.func26, Try.ntmps26
  go_wp2
  go_ret
  exact ⟨rfl, rfl⟩
theorem calls_nil (w : World) : Calls Try.prog 28 #[.pointer none] w fun e w' => e = .returned (.int .i64 0) ∧ w = w' := by
  go_enter Try.func28, Try.ntmps28
  go_wp2
  go_ret
  exact ⟨rfl, rfl⟩
theorem dead_nil (w : World) : Calls Try.prog 29 #[.pointer none] w fun e w' => e = .returned (.bool true) ∧ w = w' := by
  go_enter Try.func29, Try.ntmps29
  go_wp2
  go_ret
  exact ⟨rfl, rfl⟩
theorem at_nil (w : World) (i : Int) : Calls Try.prog 35 #[.pointer none, .int .i64 i] w fun e w' => e = .returned (.int .i64 10) ∧ w = w' := by
  go_enter Try.func35, Try.ntmps35
  go_wp2
  go_ret
  exact ⟨rfl, rfl⟩
theorem read_nil (w : World) (i : Int) : Calls Try.prog 25 #[.pointer none, .int .i64 i] w fun e w' => e = .returned (.tuple #[.slice none 0 0, .int .i64 10]) ∧ w = w' := by
  have Ha := Lib.hid (at_nil w i)
  go_enter Try.func25, Try.ntmps25
  go_wp2_with (with_reducible refine halt_call ?_)
  refine Halted.run (Ha.out.mono ?_); rintro e w' ⟨rfl, rfl⟩
  go_wp2
  go_ret2
  exact ⟨rfl, rfl⟩
theorem write_nil (w : World) (i : Int) (v : Value) : Calls Try.prog 24 #[.pointer none, .int .i64 i, v] w fun e w' => e = .returned (.int .i64 10) ∧ w = w' := by
  have Ha := Lib.hid (dead_nil w)
  go_enter Try.func24, Try.ntmps24
  go_wp2_with (with_reducible refine halt_call ?_)
  refine Halted.run (Ha.out.mono ?_); rintro e w' ⟨rfl, rfl⟩
  go_wp2
  go_ret
  exact ⟨rfl, rfl⟩
theorem flush_nil (w : World) : Calls Try.prog 27 #[.pointer none] w fun e w' => e = .returned (.int .i64 10) ∧ w = w' := by
  have Ha := Lib.hid (dead_nil w)
  go_enter Try.func27, Try.ntmps27
  go_wp2_with (with_reducible refine halt_call ?_)
  refine Halted.run (Ha.out.mono ?_); rintro e w' ⟨rfl, rfl⟩
  go_wp2
  go_ret
  exact ⟨rfl, rfl⟩
theorem loose_nil (w : World) : Calls Try.prog 22 #[.pointer none] w fun e w' => e = .returned (.slice none 0 0) ∧ w = w' := by
  go_enter Try.func22, Try.ntmps22
  go_wp2
  go_ret
  exact ⟨rfl, rfl⟩
theorem fuse_nil (w : World) (n : Int) : Calls Try.prog 16 #[.pointer none, .int .i64 n] w fun e w' => e = .returned (.tuple #[]) ∧ w = w' := by
  go_enter Try.func16, Try.ntmps16
  go_wp2
  go_end0
  exact ⟨rfl, rfl⟩
theorem crash_nil (w : World) (v : Value) : Calls Try.prog 19 #[.pointer none, v] w fun e w' => e = .returned (.pointer none) ∧ w = w' := by
  go_enter Try.func19, Try.ntmps19
  go_wp2
  go_ret
  exact ⟨rfl, rfl⟩

theorem newD_fit (n : Nat) : Fit (newD n) := ⟨by simp [newD], by simp [newD], by simp [newD], by simp [newD]⟩
def beD1 : Dv := (newD 3).wr 1 [97, 98]
theorem beD1_fit : Fit beD1 := by refine ⟨?_, ?_, ?_, ?_⟩ <;> decide
def beD2 : Dv := beD1.fused 0
theorem beD2_fit : Fit beD2 := by refine ⟨?_, ?_, ?_, ?_⟩ <;> decide
theorem begun_any (w : World) : Calls Try.prog 23 #[] w fun e w' => e = .returned (.bool true) ∧ Below w.heap.size w w' := by
  have hnew := new_is 3 w
  rw [show clamp 3 = 3 from by decide] at hnew
  have Hn := Lib.hid hnew
  clear hnew
  go_enter Try.func23, Try.ntmps23
  go_wp2_with (with_reducible refine halt_call ?_)
  refine Halted.run (Hn.out.mono ?_); rintro e w1 ⟨b, r, rfl, hd1, hb, hr, hB1⟩
  have hlen : Calls Try.prog 26 #[.pointer (some ⟨b, 0, none⟩)] w1 fun e w' => e = .returned (.int .i64 3) ∧ w1 = w' := len_any w1 b r _ hd1
  have Hd1 := Lib.hid hd1; have HB1 := Lib.hid hB1; have Hl := Lib.hid hlen
  clear hd1 hB1 hlen
  go_wp2_with (with_reducible refine halt_call ?_)
  refine Halted.run (Hl.out.mono ?_); rintro e w' ⟨rfl, rfl⟩
  have kc := fun (w : World) (C : Array Value) (n c : Nat) => Lib.run_convert_bytes_const (P := Try.prog) w 22 5 C n c Try.underlying22 Try.underlying5
  go_wp2_with (with_reducible refine halt_call ?_)
  have B1 := below_next HB1.out (.cells #[.int .u8 97, .int .u8 98] 5 (2, 3))
  have b1 : Below w1.heap.size w1 (w1.alloc (.cells #[.int .u8 97, .int .u8 98] 5 (2, 3))) := (Below.refl _ _).alloc (Nat.le_refl _) _
  have d1 := Hd1.out.below b1
  have lb := Hd1.out.lt_b; have lr := Hd1.out.lt_r
  have hw := write_any _ b r _ 1 [97, 98] (some ⟨w1.heap.size, 0, none⟩) 2 2 rfl d1 (newD_fit 3) (rd_new .u8 w1 [97, 98] _ 5 (2, 3) rfl) (by intro x hx; simp at hx; omega) (by intro a ha; cases ha; simp; omega) (by simp)
  have hw' : Calls Try.prog 24 #[.pointer (some ⟨b, 0, none⟩), .int .i64 1, .slice (some ⟨w1.heap.size, 0, none⟩) 2 2] (w1.alloc (.cells #[.int .u8 97, .int .u8 98] 5 (2, 3))) fun e w' => e = .returned (.int .i64 0) ∧ DevAt w' b r beD1 ∧ But [b, r] (w1.alloc (.cells #[.int .u8 97, .int .u8 98] 5 (2, 3))) w' := hw
  refine Halted.run (hw'.mono ?_); rintro e w2 ⟨rfl, hd2, hb2⟩
  have B2 := But.step B1 hb2 (by simp; omega)
  have hlo : Calls Try.prog 22 #[.pointer (some ⟨b, 0, none⟩)] w2 fun e w' => ∃ v, e = .returned v ∧ SlAt .i64 w2.heap.size w' v [1] ∧ Below w2.heap.size w2 w' := loose_any w2 b r _ hd2
  have Hlo := Lib.hid hlo; have Hd2 := Lib.hid hd2; have HB2 := Lib.hid B2
  clear Hn Hd1 HB1 Hl B1 b1 d1 lb lr hw hw' hd2 hb2 hlo B2
  go_wp2_with (with_reducible refine halt_call ?_)
  refine Halted.run (Hlo.out.mono ?_); rintro e w3 ⟨v3, rfl, hs3, hb3⟩
  obtain ⟨ao3, cap3, rfl, hr3, h3a, h3b, h3c, h3d⟩ := hs3
  have hd3 := Hd2.out.below hb3
  have B3 := below_step HB2.out hb3
  obtain ⟨a3, rfl, hc3⟩ := hr3 0 (by simp)
  have hcr := crash_any w3 b r _ none 0 0 [] rfl hd3 RdB.nil (by simp)
  have Hcr := Lib.hid hcr; have Hd3 := Lib.hid hd3; have HB3 := Lib.hid B3; have Hc3 := Lib.hid hc3
  have l2 : b < w2.heap.size ∧ r < w2.heap.size := ⟨Hd2.out.lt_b, Hd2.out.lt_r⟩
  have l3 : w2.heap.size ≤ a3.block := h3d a3 rfl
  have l3b : b < w3.heap.size ∧ r < w3.heap.size := ⟨hd3.lt_b, hd3.lt_r⟩
  clear Hlo Hd2 HB2 hr3 h3c h3d hb3 hd3 B3 hcr hc3
  go_wp2_with (with_reducible refine halt_call ?_)
  refine Halted.run (Hcr.out.mono ?_); rintro e w4 ⟨eb, er, rfl, he4, heb, her, hb4⟩
  have hd4 := (Hd3.out.below hb4).below ((Below.refl w4.heap.size w4).alloc (Nat.le_refl _) (.cells #[.bool true] 4))
  have B4 := below_next (below_step HB3.out hb4) (.cells #[.bool true] 4)
  have he4' := he4.below ((Below.refl w4.heap.size w4).alloc (Nat.le_refl _) (.cells #[.bool true] 4))
  have hc4 : (w4.alloc (.cells #[.bool true] 4)).cell? (a3.add 0) = some (.int .i64 1) := by
    have b' := hb4.alloc hb4.size (.cells #[.bool true] 4)
    rw [b'.cell (World.block_lt_of_cell? _ _ Hc3.out), Hc3.out]; rfl
  have hcr := crash_any _ b r _ (some ⟨w4.heap.size, 0, none⟩) 1 1 [true] rfl hd4 (rdB_new w4 [true] _ 4 rfl) (by simp)
  have Hcr2 := Lib.hid hcr; have Hd4 := Lib.hid hd4; have HB4 := Lib.hid B4; have Hc4 := Lib.hid hc4; have He4 := Lib.hid he4'
  clear Hcr Hd3 HB3 Hc3 he4 hb4 hd4 B4 he4' hc4 hcr
  go_wp2_with (with_reducible refine halt_call ?_)
  refine Halted.run (Hcr2.out.mono ?_); rintro e w5 ⟨fb, fr, rfl, hf5, hfb, hfr, hb5⟩
  have hd5 := Hd4.out.below hb5; have he5 := He4.out.below hb5
  have B5 := below_step HB4.out hb5
  have hc5 : w5.cell? (a3.add 0) = some (.int .i64 1) := by rw [hb5.cell (World.block_lt_of_cell? _ _ Hc4.out), Hc4.out]
  have hrd := read_in w5 eb er _ 1 he5 (by decide)
  have Hrd := Lib.hid hrd; have Hd5 := Lib.hid hd5; have HB5 := Lib.hid B5; have Hc5 := Lib.hid hc5; have He5 := Lib.hid he5; have Hf5 := Lib.hid hf5
  clear Hcr2 Hd4 HB4 Hc4 He4 hf5 hb5 hd5 he5 B5 hc5 hrd
  go_wp2_with (with_reducible refine halt_call ?_)
  refine Halted.run (Hrd.out.mono ?_); rintro e w6 ⟨v6, rfl, hs6, hb6⟩
  obtain ⟨a6, cap6, rfl, hc6, h6a, h6b, h6c⟩ := hs6.nth 64 0 0 (by decide) (by decide)
  have hd6 := Hd5.out.below hb6; have he6 := He5.out.below hb6; have hf6 := Hf5.out.below hb6
  have B6 := below_step HB5.out hb6
  have hx6 := below_cell hb6 Hc5.out
  have hrd := read_in w6 fb fr _ 1 hf6 (by decide)
  have Hrd2 := Lib.hid hrd; have Hd6 := Lib.hid hd6; have HB6 := Lib.hid B6; have Hc6 := Lib.hid hc6; have He6 := Lib.hid he6; have Hx6 := Lib.hid hx6
  have l5 : b < w5.heap.size ∧ r < w5.heap.size := ⟨Hd5.out.lt_b, Hd5.out.lt_r⟩
  clear Hrd Hd5 HB5 Hc5 He5 Hf5 hs6 hb6 hd6 he6 hf6 B6 hx6 hrd hc6
  go_wp2_with (with_reducible refine halt_call ?_)
  refine Halted.run (Hrd2.out.mono ?_); rintro e w7 ⟨v7, rfl, hs7, hb7⟩
  obtain ⟨a7, cap7, rfl, hc7, h7a, h7b, h7c⟩ := hs7.nth 64 1 98 (by decide) (by decide)
  have hd7 := Hd6.out.below hb7; have he7 := He6.out.below hb7
  have B7 := below_step HB6.out hb7
  have hx7 := below_cell hb7 Hx6.out
  have hy7 := below_cell hb7 Hc6.out
  have hfu := fuse_any w7 b r _ 0 hd7
  have l6 : b < w6.heap.size ∧ r < w6.heap.size := ⟨Hd6.out.lt_b, Hd6.out.lt_r⟩
  have Hfu := Lib.hid hfu; have He7 := Lib.hid he7; have HB7 := Lib.hid B7
  clear Hrd2 Hd6 HB6 Hc6 He6 Hx6 hs7 hb7 hd7 he7 B7 hfu
  have Hx7 := Lib.hid hx7; have Hy7 := Lib.hid hy7; have Hc7 := Lib.hid hc7
  clear hx7 hy7 hc7
  go_wp2_with (with_reducible refine halt_call ?_)
  refine Halted.run (Hfu.out.mono ?_); rintro e w8 ⟨rfl, hd8, hb8⟩
  have hx8 := hb8.cell Hx7.out (by rw [add_block]; simp; omega)
  have hy8 := hb8.cell Hy7.out (by rw [add_block]; simp; omega)
  have hc8 := hb8.cell Hc7.out (by rw [add_block]; simp; omega)
  have he8 := He7.out.but hb8 (by simp; omega) (by simp; omega)
  have hd8' : DevAt w8 b r beD2 := hd8
  have B8 := But.step HB7.out hb8 (by simp; omega)
  have hww : Calls Try.prog 24 #[.pointer (some ⟨b, 0, none⟩), .int .i64 9, .slice none 0 0] w8 fun e w' => e = .returned (.int .i64 10) ∧ DevAt w' b r beD2 ∧ But [b, r] w8 w' := write_any w8 b r beD2 9 [] none 0 0 rfl hd8' beD2_fit Rd.nil (fun x hx => by cases hx) (fun a ha => by cases ha) (by simp)
  have Hww := Lib.hid hww; have He8 := Lib.hid he8; have HB8 := Lib.hid B8
  clear Hfu He7 HB7 Hx7 Hy7 Hc7 hd8 hb8 he8 hd8' B8 hww
  rw [add_nought] at hx8 hy8
  rw [Addr.add_succ' a7 0] at hc8
  have d0 : ((0 : Int) == 0) = true := rfl
  have d1 : ((1 : Int) == 1) = true := rfl
  have d2 : ((98 : Int) == 98) = true := rfl
  have d3 : ((10 : Int) == 10) = true := rfl
  go_wp2_with (with_reducible refine halt_call ?_)
  refine Halted.run (Hww.out.mono ?_); rintro e w9 ⟨rfl, hd9, hb9⟩
  have he9 := He8.out.but hb9 (by simp; omega) (by simp; omega)
  have B9 := But.step HB8.out hb9 (by simp; omega)
  have hfl : Calls Try.prog 27 #[.pointer (some ⟨b, 0, none⟩)] w9 fun e w' => e = .returned (.int .i64 10) ∧ DevAt w' b r beD2 ∧ But [b, r] w9 w' := flush_any w9 b r beD2 hd9 beD2_fit
  have Hfl := Lib.hid hfl; have He9 := Lib.hid he9; have HB9 := Lib.hid B9
  clear Hww He8 HB8 hx8 hy8 hc8 hd9 hb9 he9 B9 hfl
  go_wp2_with (with_reducible refine halt_call ?_)
  refine Halted.run (Hfl.out.mono ?_); rintro e w10 ⟨rfl, hd10, hb10⟩
  have he10 := He9.out.but hb10 (by simp; omega) (by simp; omega)
  have B10 := But.step HB9.out hb10 (by simp; omega)
  have hca : Calls Try.prog 28 #[.pointer (some ⟨b, 0, none⟩)] w10 fun e w' => e = .returned (.int .i64 1) ∧ w10 = w' := calls_any w10 b r beD2 hd10
  have hde : Calls Try.prog 29 #[.pointer (some ⟨b, 0, none⟩)] w10 fun e w' => e = .returned (.bool true) ∧ w10 = w' := dead_any w10 b r beD2 hd10
  have hdf : Calls Try.prog 29 #[.pointer (some ⟨eb, 0, none⟩)] w10 fun e w' => e = .returned (.bool false) ∧ w10 = w' := dead_any w10 eb er _ he10
  have Hca := Lib.hid hca; have Hde := Lib.hid hde; have Hdf := Lib.hid hdf; have HB10 := Lib.hid B10
  clear Hfl He9 HB9 hd10 hb10 he10 B10 hca hde hdf
  go_wp2_with (with_reducible refine halt_call ?_)
  refine Halted.run (Hca.out.mono ?_); rintro e w' ⟨rfl, rfl⟩
  go_wp2_with (with_reducible refine halt_call ?_)
  refine Halted.run (Hde.out.mono ?_); rintro e w' ⟨rfl, rfl⟩
  go_wp2_with (with_reducible refine halt_call ?_)
  refine Halted.run (Hdf.out.mono ?_); rintro e w' ⟨rfl, rfl⟩
  go_wp2
  go_ret
  exact ⟨rfl, HB10.out⟩
end Go.Proofs.Ytcahhopneobjbaa
