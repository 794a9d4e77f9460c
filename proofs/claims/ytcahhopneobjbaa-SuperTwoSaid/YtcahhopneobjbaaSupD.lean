/- Open. -/
import Derived.Test.YtcahhopneobjbaaSupC
import Derived.Test.YtcahhopneobjbaaOwnWalk
import Derived.Lib.QuietBelow
import Derived.BigQuiet
namespace Go.Proofs.Ytcahhopneobjbaa
open Go.RowKit CrcM Go.Sort

/-- What a slot holds: nothing yet, or a text with its turn. -/
def Cont (o : Option (Int × List Int)) (xs : List Int) : Prop :=
  match o with
  | none => xs = zeros
  | some (n, ys) => xs = image n ys ∧ 1 ≤ n ∧ n < 1000000 ∧ ys.length ≤ 40 ∧ Byt ys
structure St where
  slot : Int
  turn : Int
  text : List Int
def acc (st : St) (k : Int) (o : Option (Int × List Int)) : St :=
  match o with
  | none => st
  | some (n, ys) => if st.turn < n then ⟨k, n, ys⟩ else st
def accTo (o : Nat → Option (Int × List Int)) : Nat → St
  | 0 => ⟨0, 0, []⟩
  | k + 1 => acc (accTo o k) k (o k)
theorem acc_turn (st : St) (k : Int) (o : Option (Int × List Int)) (h : 0 ≤ st.turn) : 0 ≤ (acc st k o).turn := by
  unfold acc
  split
  · exact h
  · split
    · show 0 ≤ _; rename_i h2; simp only at *; omega
    · exact h
theorem accTo_turn (o : Nat → Option (Int × List Int)) : ∀ k, 0 ≤ (accTo o k).turn
  | 0 => Int.le_refl _
  | k + 1 => acc_turn _ _ _ (accTo_turn o k)
theorem rd_sub {k : IntKind} {w : World} {g : Nat} {xs : List Int} (h : Rd k w (some ⟨g, 0, none⟩) xs) (o n : Nat) : Rd k w (some ⟨g, o, none⟩) ((xs.drop o).take n) := by
  intro i hi
  have hi' : i < n ∧ o + i < xs.length := by simp at hi; omega
  obtain ⟨a, ha, hc⟩ := h (o + i) hi'.2
  cases ha
  refine ⟨_, rfl, ?_⟩
  rw [Addr.add_mid, Nat.zero_add] at hc
  rw [Addr.add_mid, hc]
  simp
theorem Rd.drew {k : IntKind} {w : World} {ao : Option Addr} {xs : List Int} (h : Rd k w ao xs) : Rd k w.drew ao xs := h.below (Below.refl _ _).drew
theorem gv_zeros : gv ((zeros.drop 4).take 8) = 0 := by decide
theorem image_turn (n : Int) (ys : List Int) : ((image n ys).drop 4).take 8 = be 8 n := by
  unfold image tailOf
  rw [List.drop_append, List.drop_of_length_le (by simp [be_length]), be_length]
  simp [be_length]
theorem image_tail (n : Int) (ys : List Int) : (image n ys).drop 4 = tailOf n ys := by
  unfold image
  rw [List.drop_append, List.drop_of_length_le (by simp [be_length]), be_length]
  simp
theorem image_head (n : Int) (ys : List Int) : (image n ys).take 4 = be 4 (V (sum (tailOf n ys))) := by
  unfold image
  rw [List.take_append_of_le_length (by simp [be_length]), List.take_of_length_le (by simp [be_length])]
theorem image_len (n : Int) (ys : List Int) : (image n ys)[12]? = some (ys.length : Int) := by
  unfold image tailOf
  rw [List.getElem?_append_right (by simp [be_length]), be_length, List.getElem?_append_right (by simp [be_length]), be_length]
  rfl
theorem image_text (n : Int) (ys : List Int) : ((image n ys).drop 13).take ys.length = ys := by
  unfold image tailOf
  rw [List.drop_append, List.drop_of_length_le (by simp [be_length]), be_length, List.nil_append, List.drop_append, List.drop_of_length_le (by simp [be_length]), be_length, List.nil_append]
  simp

theorem open_out (w : World) (b r : Nat) (D : Dv) (pt : Int) (hd : DevAt w b r D) (hp : ¬ (0 ≤ pt ∧ pt + 1 < D.n)) : Calls Try.prog 20 #[.pointer (some ⟨b, 0, none⟩), .int .i64 pt] w fun e w' => e = .returned (.tuple #[.pointer none, .int .i64 3]) ∧ w = w' := by
  have ht := there_any w b r D pt hd
  rw [show decide (0 ≤ pt ∧ pt + 1 < D.n) = false by simpa using hp] at ht
  have Ht := Lib.hid ht
  clear hd hp ht
  go_enter Try.func20, Try.ntmps20
  go_wp2_with (with_reducible refine halt_call ?_)
  refine Halted.run (Ht.out.mono ?_); rintro e w' ⟨rfl, rfl⟩
  go_wp2
  go_ret2
  exact ⟨rfl, rfl⟩
theorem open_nil (w : World) (pt : Int) : Calls Try.prog 20 #[.pointer none, .int .i64 pt] w fun e w' => e = .returned (.tuple #[.pointer none, .int .i64 3]) ∧ w = w' := by
  have Ht := Lib.hid (there_nil w pt)
  go_enter Try.func20, Try.ntmps20
  go_wp2_with (with_reducible refine halt_call ?_)
  refine Halted.run (Ht.out.mono ?_); rintro e w' ⟨rfl, rfl⟩
  go_wp2
  go_ret2
  exact ⟨rfl, rfl⟩

set_option maxHeartbeats 4000000 in
theorem open_any (w : World) (b r : Nat) (N : List Nat) (D : Dv) (pt : Nat) (o : Nat → Option (Int × List Int))
    (hd : DevAt w b r D) (hp1 : pt + 1 < D.n) (hlt : ∀ k, k ∈ N → k < w.heap.size) (ho : ∀ k, k < 2 → Cont (o k) (D.sec (pt + k)).now) :
    Calls Try.prog 20 #[.pointer (some ⟨b, 0, none⟩), .int .i64 pt] w fun e w' => Below w.heap.size w w' ∧
      (((accTo o 2).turn = 0 ∧ e = .returned (.tuple #[.pointer none, .int .i64 11])) ∨
       (1 ≤ (accTo o 2).turn ∧ ∃ s, e = .returned (.tuple #[.pointer (some ⟨s, 0, none⟩), .int .i64 0]) ∧ w.heap.size ≤ s ∧ SupAt w' s b (s :: N) pt (accTo o 2).slot (accTo o 2).turn (accTo o 2).text)) := by
  have ht := there_any w b r D pt hd
  rw [show decide (0 ≤ (pt : Int) ∧ (pt : Int) + 1 < D.n) = true by simp; omega] at ht
  have h2 := hd.h2
  have Ht := Lib.hid ht; have Hd := Lib.hid hd; have Hlt := Lib.hid hlt; have Ho := Lib.hid ho
  clear ht hd hlt ho
  go_enter Try.func20, Try.ntmps20
  go_wp2_with (with_reducible refine halt_call ?_)
  refine Halted.run (Ht.out.mono ?_); rintro e w' ⟨rfl, rfl⟩
  clear Ht
  have hs1 : SupAt (w.alloc (.cells #[.pointer (some ⟨b, 0, none⟩), .int .i64 pt, .int .i64 0, .int .i64 0, .slice none 0 0] 58)) w.heap.size b (w.heap.size :: N) pt 0 0 [] :=
    ⟨⟨none, 0, blk_new _ _, Rd.nil, fun _ => rfl, fun a ha _ => by cases ha⟩, by simp⟩
  have hb1 : Below w.heap.size w (w.alloc (.cells #[.pointer (some ⟨b, 0, none⟩), .int .i64 pt, .int .i64 0, .int .i64 0, .slice none 0 0] 58)) := (Below.refl _ _).alloc (Nat.le_refl _) _
  have Hs1 := Lib.hid hs1; have Hb1 := Lib.hid hb1
  clear hs1 hb1
  go_wp2
  go_loopw [19] (fun i wx => ∃ k : Nat, k ≤ 2 ∧ i = .int .i64 k ∧ SupAt wx w.heap.size b (w.heap.size :: N) pt (accTo o k).slot (accTo o k).turn (accTo o k).text ∧ Below w.heap.size w wx) (fun i _ => 2 - (intOf i).toNat)
  case atStart => exact ⟨0, by omega, rfl, Hs1.out, Hb1.out⟩
  case round =>
    clear Hs1 Hb1
    obtain ⟨k, hk, rfl, hs, hb⟩ := hrel
    have hd := Hd.out.below hb
    have hturn := accTo_turn o k
    by_cases hk2 : k < 2
    · have hrd := read_own wr b r D (pt + k) hd (by omega)
      have hco := Ho.out k hk2
      have hok := hd.ok (pt + k) (by omega)
      have hstep : accTo o (k + 1) = acc (accTo o k) k (o k) := rfl
      rw [show ((pt + k : Nat) : Int) = (pt : Int) + k by omega] at hrd
      have hpw : IntKind.i64.wrap ((pt : Int) + k) = pt + k := by rw [IntKind.wrap_i64]; omega
      have xl := hok.n; have xb := hok.bn
      generalize (D.sec (pt + k)).now = xs at hrd hco xl xb
      generalize accTo o k = st at hs hturn hstep
      generalize o k = ok at hco hstep
      have Hrd := Lib.hid hrd; have Hs := Lib.hid hs; have Hb := Lib.hid hb; have Hstep := Lib.hid hstep; have Hco := Lib.hid hco; have Xb := Lib.hid xb
      clear hrd hs hb hd hok hco hstep xb
      go_wp2_with (with_reducible refine halt_call ?_)
      refine Halted.run (Hrd.out.mono ?_); rintro e w6 ⟨g, cap, rfl, hx6, hb6⟩
      obtain ⟨ao', cap', ev, hrx, _, hc1, hc2, _⟩ := own_rd hx6
      injection ev with ev1 _ ev3
      subst ev1
      subst ev3
      have hB6 := below_step Hb.out hb6
      have hs6 := Hs.out.below hb6
      have Hrx := Lib.hid hrx; have HB6 := Lib.hid hB6; have Hs6 := Lib.hid hs6
      have g6 : w.heap.size < w6.heap.size := hs6.lt
      have gg : wr.heap.size ≤ g := (World.ownsRow.lt hx6 g rfl).1
      have gw : w.heap.size < wr.heap.size := Hs.out.lt
      clear Hrd Hs Hb hrx hB6 hs6 hx6 hb6
      have hget : ∀ W, Rd .u8 W (some ⟨g, 0, none⟩) xs → Calls Try.prog 32 #[.slice (some ⟨g, 4, none⟩) 8 (cap - 4)] W fun e w' => e = .returned (.int .u64 (gv ((xs.drop 4).take 8))) ∧ W = w' := fun W h =>
        get_any W _ 8 _ _ (by simp; omega) (rd_sub h 4 8) ((Xb.out.drop 4).take 8) (by omega)
      have hget0 : ∀ W, Rd .u8 W (some ⟨g, 0, none⟩) xs → Calls Try.prog 32 #[.slice (some ⟨g, 0, none⟩) 4 cap] W fun e w' => e = .returned (.int .u64 (gv (xs.take 4))) ∧ W = w' := fun W h =>
        get_any W _ 4 _ _ (by simp; omega) (by have := rd_sub h 0 4; rwa [List.drop_zero] at this) (Xb.out.take 4) (by omega)
      have hsum : ∀ W, Rd .u8 W (some ⟨g, 0, none⟩) xs → Calls Try.prog 33 #[.slice (some ⟨g, 4, none⟩) 60 (cap - 4)] W fun e w' => e = .returned (.int .u32 (V (sum (xs.drop 4)))) ∧ W = w' := fun W h =>
        sum_any _ _ 60 _ W (by simp; omega) (by omega) (Xb.out.drop 4) (by have := rd_sub h 4 60; rwa [List.take_of_length_le (by simp; omega)] at this)
      have Hget := Lib.hid hget; have Hget0 := Lib.hid hget0; have Hsum := Lib.hid hsum
      clear hget hget0 hsum
      go_wp2_with (with_reducible refine halt_call ?_)
      refine Halted.run ((Hget.out _ Hrx.out).mono ?_); rintro e w' ⟨rfl, rfl⟩
      have c3 := Hs6.out.c3
      have hVw : IntKind.u64.wrap (V (sum (xs.drop 4))) = V (sum (xs.drop 4)) := by
        have := V_bounds (sum (xs.drop 4))
        rw [IntKind.wrap_u64]; omega
      cases ok with
      | none =>
        have hx0 : xs = zeros := Hco.out
        have hnv : gv ((xs.drop 4).take 8) = 0 := by rw [hx0]; exact gv_zeros
        have hst1 : accTo o (k + 1) = st := Hstep.out
        have Hst1 := Lib.hid hst1
        rw [hnv]
        clear hx0 hnv hst1 Hstep Hco Hget
        have dg : decide (st.turn < 0) = false := by simp; omega
        by_cases hq : V (sum (xs.drop 4)) = gv (xs.take 4)
        · have hqb : (V (sum (xs.drop 4)) == gv (xs.take 4)) = true := by simp [hq]
          clear hq
          generalize V (sum (xs.drop 4)) = sv at *
          generalize gv (xs.take 4) = g4 at *
          have kc3 := cell_regrown c3
          have cS : ∀ d os, Calls Try.prog 33 #[.slice (some ⟨g, 4, none⟩) 60 (cap - 4)] (grow (redrawn w6 d) os) fun e w'' => e = .returned (.int .u32 sv) ∧ ∃ x : Regrown, w'' = grow (redrawn w6 x.d) x.os := fun d os => Calls.regrown_of ((Hsum.out _ (Hrx.out.below (below_regrown w6 d os))).mono (by rintro e w' ⟨rfl, rfl⟩; exact ⟨rfl, Below.refl _ _⟩))
          have cG : ∀ d os, Calls Try.prog 32 #[.slice (some ⟨g, 0, none⟩) 4 cap] (grow (redrawn w6 d) os) fun e w'' => e = .returned (.int .u64 g4) ∧ ∃ x : Regrown, w'' = grow (redrawn w6 x.d) x.os := fun d os => Calls.regrown_of ((Hget0.out _ (Hrx.out.below (below_regrown w6 d os))).mono (by rintro e w' ⟨rfl, rfl⟩; exact ⟨rfl, Below.refl _ _⟩))
          go_wp2
          refine wp_region_quiet_below (by kernel_rfl) (by kernel_rfl) ?_
          repeat (first | go_big_quiet_step ((first | exact cS _ _ | exact cG _ _)) | quiet_step ((first | exact cS _ _ | exact cG _ _)))
          refine wpQuiet_nil ?_
          intro _ hw'
          obtain ⟨⟨dq, osq⟩, hw''⟩ := hw'
          subst hw''
          have bq := below_regrown w6 dq osq
          have Hs7 := Lib.hid (Hs6.out.below bq); have HB7 := Lib.hid (below_step HB6.out bq); have Hrx7 := Lib.hid (Hrx.out.below bq)
          generalize grow (redrawn w6 dq) osq = w7 at *
          clear kc3 cS cG bq c3 Hsum Hget0
          go_wp2
          refine ⟨⟨k + 1, by omega, by go_num, by rw [Hst1.out]; exact Hs7.out, HB7.out⟩, by simp [intOf]; omega⟩
        · have hqb : (V (sum (xs.drop 4)) == gv (xs.take 4)) = false := by simp [hq]
          clear hq
          generalize V (sum (xs.drop 4)) = sv at *
          generalize gv (xs.take 4) = g4 at *
          have kc3 := cell_regrown c3
          have cS : ∀ d os, Calls Try.prog 33 #[.slice (some ⟨g, 4, none⟩) 60 (cap - 4)] (grow (redrawn w6 d) os) fun e w'' => e = .returned (.int .u32 sv) ∧ ∃ x : Regrown, w'' = grow (redrawn w6 x.d) x.os := fun d os => Calls.regrown_of ((Hsum.out _ (Hrx.out.below (below_regrown w6 d os))).mono (by rintro e w' ⟨rfl, rfl⟩; exact ⟨rfl, Below.refl _ _⟩))
          have cG : ∀ d os, Calls Try.prog 32 #[.slice (some ⟨g, 0, none⟩) 4 cap] (grow (redrawn w6 d) os) fun e w'' => e = .returned (.int .u64 g4) ∧ ∃ x : Regrown, w'' = grow (redrawn w6 x.d) x.os := fun d os => Calls.regrown_of ((Hget0.out _ (Hrx.out.below (below_regrown w6 d os))).mono (by rintro e w' ⟨rfl, rfl⟩; exact ⟨rfl, Below.refl _ _⟩))
          go_wp2
          refine wp_region_quiet_below (by kernel_rfl) (by kernel_rfl) ?_
          repeat (first | go_big_quiet_step ((first | exact cS _ _ | exact cG _ _)) | quiet_step ((first | exact cS _ _ | exact cG _ _)))
          refine wpQuiet_nil ?_
          intro _ hw'
          obtain ⟨⟨dq, osq⟩, hw''⟩ := hw'
          subst hw''
          have bq := below_regrown w6 dq osq
          have Hs7 := Lib.hid (Hs6.out.below bq); have HB7 := Lib.hid (below_step HB6.out bq); have Hrx7 := Lib.hid (Hrx.out.below bq)
          generalize grow (redrawn w6 dq) osq = w7 at *
          clear kc3 cS cG bq c3 Hsum Hget0
          go_wp2
          refine ⟨⟨k + 1, by omega, by go_num, by rw [Hst1.out]; exact Hs7.out, HB7.out⟩, by simp [intOf]; omega⟩
      | some p =>
        obtain ⟨n, ys⟩ := p
        obtain ⟨hx0, hn1, hn2, hy1, hy2⟩ : xs = image n ys ∧ 1 ≤ n ∧ n < 1000000 ∧ ys.length ≤ 40 ∧ Byt ys := Hco.out
        have hnv : gv ((xs.drop 4).take 8) = n := by rw [hx0, image_turn]; exact gv_be 8 n (by omega) (by omega)
        have hq : gv (xs.take 4) = V (sum (xs.drop 4)) := by
          have hb := V_bounds (sum (tailOf n ys))
          rw [hx0, image_head, image_tail]
          exact gv_be 4 _ hb.1 (by omega)
        have htx : (xs.drop 13).take ys.length = ys := by rw [hx0]; exact image_text n ys
        have h12 : xs[12]? = some (ys.length : Int) := by rw [hx0]; exact image_len n ys
        have hqb : (V (sum (xs.drop 4)) == gv (xs.take 4)) = true := by simp [hq]
        rw [hnv]
        have Htx := Lib.hid htx
        clear hx0 hnv hq htx Hco Hget hy2
        obtain ⟨hl12, he12⟩ := List.getElem?_eq_some_iff.1 h12
        obtain ⟨a12, ha12, c12⟩ := Hrx.out 12 hl12
        cases ha12
        rw [he12, Addr.add_mid, Nat.zero_add] at c12
        clear he12 h12
        by_cases hacc : st.turn < n
        · have hst1 : accTo o (k + 1) = ⟨k, n, ys⟩ := Hstep.out.trans (by show (if st.turn < n then _ else _) = _; rw [if_pos hacc])
          have Hst1 := Lib.hid hst1
          clear hst1 Hstep
          generalize V (sum (xs.drop 4)) = sv at *
          generalize gv (xs.take 4) = g4 at *
          have kc3 := cell_regrown c3
          have kc12 := cell_regrown c12
          have cS : ∀ d os, Calls Try.prog 33 #[.slice (some ⟨g, 4, none⟩) 60 (cap - 4)] (grow (redrawn w6 d) os) fun e w'' => e = .returned (.int .u32 sv) ∧ ∃ x : Regrown, w'' = grow (redrawn w6 x.d) x.os := fun d os => Calls.regrown_of ((Hsum.out _ (Hrx.out.below (below_regrown w6 d os))).mono (by rintro e w' ⟨rfl, rfl⟩; exact ⟨rfl, Below.refl _ _⟩))
          have cG : ∀ d os, Calls Try.prog 32 #[.slice (some ⟨g, 0, none⟩) 4 cap] (grow (redrawn w6 d) os) fun e w'' => e = .returned (.int .u64 g4) ∧ ∃ x : Regrown, w'' = grow (redrawn w6 x.d) x.os := fun d os => Calls.regrown_of ((Hget0.out _ (Hrx.out.below (below_regrown w6 d os))).mono (by rintro e w' ⟨rfl, rfl⟩; exact ⟨rfl, Below.refl _ _⟩))
          go_wp2
          refine wp_region_quiet_below (by kernel_rfl) (by kernel_rfl) ?_
          repeat (first | go_big_quiet_step ((first | exact cS _ _ | exact cG _ _)) | quiet_step ((first | exact cS _ _ | exact cG _ _)))
          refine wpQuiet_nil ?_
          intro _ hw'
          obtain ⟨⟨dq, osq⟩, hw''⟩ := hw'
          subst hw''
          have bq := below_regrown w6 dq osq
          have Hs7 := Lib.hid (Hs6.out.below bq); have HB7 := Lib.hid (below_step HB6.out bq); have Hrx7 := Lib.hid (Hrx.out.below bq); have c12' := below_cell bq c12
          generalize grow (redrawn w6 dq) osq = w7 at *
          clear kc3 kc12 c12 cS cG bq c3 Hsum Hget0
          have hrd7 : Rd .u8 w7 (some ⟨g, 13, none⟩) ys := by have := rd_sub Hrx7.out 13 ys.length; rw [Htx.out] at this; exact this
          have hcl := clone_any w7 (some ⟨g, 13, none⟩) ys.length (cap - 13) ys rfl hrd7 (fun e => by cases e) (by omega)
          have Hcl := Lib.hid hcl
          clear hrd7 hcl Hrx7 Htx hqb hVw
          go_wp2_with (with_reducible refine halt_call ?_)
          refine Halted.run (Hcl.out.mono ?_); rintro e w8 ⟨v8, rfl, hs8, hb8⟩
          have hk8 := Hs7.out.below hb8
          have c2 := hk8.c2; have c3 := hk8.c3
          obtain ⟨ao8, cap8, q8, _⟩ := hk8.h
          have c4 := blk_cell q8 4
          rw [show (#[.pointer (some ⟨b, 0, none⟩), .int .i64 pt, .int .i64 st.slot, .int .i64 st.turn, .slice ao8 st.text.length cap8] : Array Value)[4]? = some (.slice ao8 st.text.length cap8) from rfl] at c4
          have f2 := hk8.free 2; have f3 := hk8.free 3; have f4 := hk8.free 4
          have g1 := blk_set q8 2 (.int .i64 k)
          have g2 := blk_set g1 3 (.int .i64 n)
          have g3 := blk_set g2 4 v8
          obtain ⟨ao9, cap9, rfl, r9, l9, l9b, n9, m9⟩ := hs8
          have hb9 : But [w.heap.size] w8 (((w8.setCell ⟨w.heap.size, 2, none⟩ (.int .i64 k)).setCell ⟨w.heap.size, 3, none⟩ (.int .i64 n)).setCell ⟨w.heap.size, 4, none⟩ (.slice ao9 ys.length cap9)) := (((But.refl _ _).setCell (by simp) _).setCell (by simp) _).setCell (by simp) _
          have hs7l := Hs7.out.lt
          have hN9 : ∀ x, x ∈ w.heap.size :: N → x < w7.heap.size := fun x hx => by
            rcases List.mem_cons.1 hx with rfl | hx
            · exact hs7l
            · have := Hlt.out x hx; omega
          have hs9 : SupAt (((w8.setCell ⟨w.heap.size, 2, none⟩ (.int .i64 k)).setCell ⟨w.heap.size, 3, none⟩ (.int .i64 n)).setCell ⟨w.heap.size, 4, none⟩ (.slice ao9 ys.length cap9)) w.heap.size b (w.heap.size :: N) pt k n ys :=
            ⟨⟨ao9, cap9, g3, r9.but hb9 (fun a ha hk => by have := m9 a ha; simp at hk; omega), n9, fun a ha _ hk => by have := m9 a ha; have := hN9 _ hk; omega⟩, hy1⟩
          have Hs9 := Lib.hid hs9; have HB9 := Lib.hid (But.step (below_step HB7.out hb8) hb9 (by simp))
          clear hk8 q8 g1 g2 g3 r9 l9 l9b n9 m9 hb9 hb8 Hcl Hs7 HB7 hs9 hN9 hs7l
          go_wp2
          refine ⟨⟨k + 1, by omega, by go_num, by rw [Hst1.out]; exact Hs9.out, HB9.out⟩, by simp [intOf]; omega⟩
        · have hst1 : accTo o (k + 1) = st := Hstep.out.trans (by show (if st.turn < n then _ else _) = _; rw [if_neg hacc])
          have Hst1 := Lib.hid hst1
          have dg : decide (st.turn < n) = false := by simp; omega
          clear hst1 Hstep c12
          generalize V (sum (xs.drop 4)) = sv at *
          generalize gv (xs.take 4) = g4 at *
          have kc3 := cell_regrown c3
          have cS : ∀ d os, Calls Try.prog 33 #[.slice (some ⟨g, 4, none⟩) 60 (cap - 4)] (grow (redrawn w6 d) os) fun e w'' => e = .returned (.int .u32 sv) ∧ ∃ x : Regrown, w'' = grow (redrawn w6 x.d) x.os := fun d os => Calls.regrown_of ((Hsum.out _ (Hrx.out.below (below_regrown w6 d os))).mono (by rintro e w' ⟨rfl, rfl⟩; exact ⟨rfl, Below.refl _ _⟩))
          have cG : ∀ d os, Calls Try.prog 32 #[.slice (some ⟨g, 0, none⟩) 4 cap] (grow (redrawn w6 d) os) fun e w'' => e = .returned (.int .u64 g4) ∧ ∃ x : Regrown, w'' = grow (redrawn w6 x.d) x.os := fun d os => Calls.regrown_of ((Hget0.out _ (Hrx.out.below (below_regrown w6 d os))).mono (by rintro e w' ⟨rfl, rfl⟩; exact ⟨rfl, Below.refl _ _⟩))
          go_wp2
          refine wp_region_quiet_below (by kernel_rfl) (by kernel_rfl) ?_
          repeat (first | go_big_quiet_step ((first | exact cS _ _ | exact cG _ _)) | quiet_step ((first | exact cS _ _ | exact cG _ _)))
          refine wpQuiet_nil ?_
          intro _ hw'
          obtain ⟨⟨dq, osq⟩, hw''⟩ := hw'
          subst hw''
          have bq := below_regrown w6 dq osq
          have Hs7 := Lib.hid (Hs6.out.below bq); have HB7 := Lib.hid (below_step HB6.out bq); have Hrx7 := Lib.hid (Hrx.out.below bq)
          generalize grow (redrawn w6 dq) osq = w7 at *
          clear kc3 cS cG bq c3 Hsum Hget0
          go_wp2
          refine ⟨⟨k + 1, by omega, by go_num, by rw [Hst1.out]; exact Hs7.out, HB7.out⟩, by simp [intOf]; omega⟩
    · have hk2 : k = 2 := by omega
      subst hk2
      have c3 := hs.c3
      have Hs := Lib.hid hs; have Hb := Lib.hid hb
      clear hs hb hd
      by_cases h0 : (accTo o 2).turn = 0
      · rw [h0] at c3
        clear hturn
        have H0 := Lib.hid h0
        clear h0
        go_wp2
        go_ret2
        exact ⟨Hb.out, .inl ⟨H0.out, rfl⟩⟩
      · have h1 : 1 ≤ (accTo o 2).turn := by omega
        have dq : ((accTo o 2).turn == 0) = false := by simp [h0]
        go_wp2
        go_ret2
        exact ⟨Hb.out, .inr ⟨h1, w.heap.size, rfl, Nat.le_refl _, Hs.out⟩⟩
end Go.Proofs.Ytcahhopneobjbaa
