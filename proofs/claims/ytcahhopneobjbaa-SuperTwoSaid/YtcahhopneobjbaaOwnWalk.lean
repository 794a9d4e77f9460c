/- DevOwn's walk. -/
import Derived.Test.YtcahhopneobjbaaTwiceWalk
import Derived.Laws.OwnMore
import Derived.Deep.AppendLies
namespace Go.Proofs.Ytcahhopneobjbaa
open Go.RowKit

theorem short_any (ao : Option Addr) (m : Int) (n cap : Nat) (w : World) (_hl : n ≤ cap) (_hm : cap ≤ 9223372036854775807) (hm0 : 0 ≤ m) (hm1 : m ≤ 1000000) :
    Calls Try.prog 13 #[.slice ao n cap, .int .i64 m] w fun e w' => e = .returned (.slice ao (min n m.toNat) cap) ∧ w = w' := by
  obtain ⟨m, rfl⟩ := Int.eq_ofNat_of_zero_le hm0
  rw [Int.toNat_natCast]
  by_cases h : m < n
  · go_enter Try.func13, Try.ntmps13
    go_wp2
    go_ret
    rw [Nat.min_eq_right (by omega)]
    exact ⟨rfl, rfl⟩
  · go_enter Try.func13, Try.ntmps13
    go_wp2
    go_ret
    rw [Nat.min_eq_left (by omega)]
    exact ⟨rfl, rfl⟩

theorem clone_own (w : World) (ad : Addr) (cap : Nat) (xs : List Int) (n : Nat) (hn : n = xs.length) (hrd : Rd .u8 w (some ad) xs) (h63 : xs.length ≤ 140737488355328) :
    Calls Try.prog 34 #[.slice (some ad) n cap] w fun e w' => ∃ v, e = .returned v ∧ w'.ownsRow w.heap.size 5 1 v xs.length (xs.map (Value.int .u8)) ∧ Below w.heap.size w w' := by
  subst hn
  have hnil := fun W a n c n' c' => Lib.run_eql_slice_nil (P := Try.prog) W _ _ a n c n' c' Try.underlying22
  go_enter Try.func34, Try.ntmps34
  go_wp2_with (with_reducible refine halt_op 7 ?_)
  have hgr : (w.alloc (.cells #[] 5)).ownsRow w.heap.size 5 1 (.slice (some ⟨w.heap.size, 0, none⟩) 0 0) 0 ([].map (Value.int .u8)) :=
    ⟨rfl, .inr ⟨w.heap.size, 0, #[], rfl, Nat.le_refl _, blk_new _ _, Nat.le_refl _, by simp, rfl, rfl⟩⟩
  obtain ⟨i0, hi, hz0, hz1, hz2⟩ := info_parts Try.info5
  refine Halted.run (wpList_append_rd (w.alloc (.cells #[] 5)) rfl (.tmp 5) (.tmp 6) 22 rfl w.heap.size 5 _ .u8 1 Try.underlying22 hi hz0 hz1 hz2 _ 0 [] rfl hgr (some ad) xs.length cap xs rfl (fun e => by cases e) rfl (hrd.below ((Below.refl _ _).alloc (Nat.le_refl _) _)) (by simp [maxLen]; omega) (by omega) (by simp) ?_)
  intro v' w' hv hg
  rw [List.nil_append, Nat.zero_add] at hv
  have hB := below_grown_own ((Below.refl w.heap.size w).alloc (Nat.le_refl _) (.cells #[] 5)) hg (fun k hk => by cases hk; exact Nat.le_refl _)
  have Hv := Lib.hid hv
  clear hv hg hgr hrd hnil hi hz0 hz1 hz2
  go_wp2
  go_ret
  exact ⟨_, rfl, Hv.out, hB⟩
theorem read_own (w : World) (b r : Nat) (D : Dv) (i : Nat) (h : DevAt w b r D) (hi : i < D.n) :
    Calls Try.prog 25 #[.pointer (some ⟨b, 0, none⟩), .int .i64 i] w fun e w' => ∃ g cap, e = .returned (.tuple #[.slice (some ⟨g, 0, none⟩) 64 cap, .int .i64 0]) ∧ w'.ownsRow w.heap.size 5 1 (.slice (some ⟨g, 0, none⟩) 64 cap) 64 ((D.sec i).now.map (Value.int .u8)) ∧ Below w.heap.size w w' := by
  have c0 := h.c0
  have hat := at_any w b r D i h
  have hz : D.atErr i = 0 := by unfold Dv.atErr; rw [if_pos ⟨by omega, by omega⟩]
  rw [hz] at hat
  have ok := h.ok i hi
  have hcl := clone_own w ⟨r, i * 129, none⟩ 64 _ 64 ok.n.symm (h.rd_now hi) (by rw [ok.n]; omega)
  rw [ok.n] at hcl
  have h2 := h.h2
  have Ha := Lib.hid hat; have Hc := Lib.hid hcl
  clear hz hat hcl ok h
  go_enter Try.func25, Try.ntmps25
  go_wp2_with (with_reducible refine halt_call ?_)
  refine Halted.run (Ha.out.mono ?_); rintro e w' ⟨rfl, rfl⟩
  go_wp2_with (with_reducible refine halt_call ?_)
  refine Halted.run (Hc.out.mono ?_); rintro e w' ⟨v, rfl, hv, hB⟩
  have Hv := Lib.hid hv; have HB := Lib.hid hB
  clear hv hB
  go_wp2
  go_ret2
  obtain ⟨g, cap, e1, h1⟩ := World.ownsRow.form Hv.out (by omega)
  subst e1
  exact ⟨g, cap, rfl, Hv.out, HB.out⟩

theorem strOf_append (xs ys : List Int) : strOfNums xs ++ strOfNums ys = strOfNums (xs ++ ys) := by
  apply ByteArray.ext
  simp [strOfNums]
def ownD (ys : List Int) : Dv := (newD 2).wr 0 ys
theorem ownD_err (ys : List Int) (h : ys.length ≤ 64) : (newD 2).wErr 0 ys.length = 0 := by
  have h1 : (newD 2).isDead = false := rfl
  have h2 : (newD 2).atErr 0 = 0 := rfl
  unfold Dv.wErr
  rw [h1, h2]
  simp; omega
theorem ownD_is (ys : List Int) (h : ys.length ≤ 64) : ownD ys = (newD 2).burn.put 0 ⟨ys ++ List.replicate (64 - ys.length) 0, List.replicate 64 0, true⟩ := by
  unfold ownD Dv.wr
  rw [ownD_err ys h, if_pos rfl]
  show (newD 2).burn.put 0 { ((newD 2).sec 0).over ys with loose := true } = _
  congr 1
  simp only [Sec.over, newD, zSec, List.drop_replicate]
theorem ownD_loose (ys : List Int) (h : ys.length ≤ 64) : (ownD ys).looseTo 2 = [0] := by rw [ownD_is ys h]; rfl
theorem crash_fit (D : Dv) (ks : List Bool) : Fit (D.crash ks) := ⟨by simp [Dv.crash], by simp [Dv.crash], by simp [Dv.crash], by simp [Dv.crash]⟩
/-- A row of bytes of the call's own, whatever they are. -/
def Bytes (n : Nat) (vs : List Value) : Prop := ∀ i, i < n → ∃ z, vs[i]? = some (.int .u8 z)
theorem bytes_of (n : Nat) (xs : List Int) (h : n ≤ xs.length) : Bytes n (xs.map (Value.int .u8)) := fun i hi => ⟨xs[i], by rw [List.getElem?_map, List.getElem?_eq_getElem (by omega)]; rfl⟩
theorem bytes_set {n : Nat} {vs : List Value} (h : Bytes n vs) (j : Nat) (z : Int) : Bytes n (vs.set j (.int .u8 z)) := by
  intro i hi
  obtain ⟨y, hy⟩ := h i hi
  by_cases e : j = i
  · subst e
    exact ⟨z, by rw [List.getElem?_set_self (List.getElem?_eq_some_iff.1 hy).1]⟩
  · exact ⟨y, by rw [List.getElem?_set_ne e]; exact hy⟩

theorem own_but {bs : List Nat} {w w' : World} {base : Nat} {e : TypeId} {size : Nat} {v : Value} {n : Nat} {xs : List Value} (h : w.ownsRow base e size v n xs) (hb : But bs w w') (hn : ∀ k, v.ownBlock = some k → k ∉ bs) : w'.ownsRow base e size v n xs := by
  refine ⟨h.1, ?_⟩
  rcases h.2 with h0 | ⟨g, c, cur, rfl, q0, q1, q2⟩
  · exact .inl h0
  · exact .inr ⟨g, c, cur, rfl, q0, (hb.block g (Array.getElem?_eq_some_iff.1 q1).1 (hn g rfl)).trans q1, q2⟩

set_option maxHeartbeats 1000000 in
theorem devOwn_any (ao : Option Addr) (m cap : Nat) (xs : List Int) (w : World) (hm : m = xs.length) (hmc : m ≤ cap) (hcap : cap ≤ 9223372036854775807) (hcn : ao = none → cap = 0) (hx : Rd .u8 w ao xs) (hb : Byt xs) :
    Calls Try.prog 5 #[.slice ao m cap] w fun e w' => e = .returned (.bool true) ∧ Below w.heap.size w w' := by
  subst hm
  have Hb := Lib.hid (begun_any w)
  have Hx := Lib.hid hx; have Hbt := Lib.hid hb; have Hcn := Lib.hid hcn
  clear hx hb hcn
  obtain ⟨i0, hi, hz0, hz1, hz2⟩ := info_parts Try.info5
  have Hi := Lib.hid hi; have Hz0 := Lib.hid hz0; have Hz1 := Lib.hid hz1; have Hz2 := Lib.hid hz2
  clear hi hz0 hz1 hz2
  go_enter Try.func5, Try.ntmps5
  go_wp2_with (with_reducible refine halt_call ?_)
  refine Halted.run (Hb.out.mono ?_); rintro e w1 ⟨rfl, hB⟩
  have HB := Lib.hid hB
  have hsh := short_any ao 64 xs.length cap w1 hmc hcap (by omega) (by omega)
  have Hsh := Lib.hid hsh
  clear hB Hb hsh
  go_wp2_with (with_reducible refine halt_call ?_)
  refine Halted.run (Hsh.out.mono ?_); rintro e w' ⟨rfl, rfl⟩
  clear Hsh
  go_wp2_with (with_reducible refine halt_op 18 ?_)
  have hl0 : min xs.length (64 : Int).toNat = (xs.take 64).length := by rw [List.length_take]; exact Nat.min_comm _ _
  refine Halted.run (wpList_append_rd w1 rfl (.const (.slice none 0 0)) (.tmp 17) 22 rfl w1.heap.size 5 i0 .u8 1 Try.underlying22 Hi.out Hz0.out Hz1.out Hz2.out _ 0 [] rfl (World.ownsRow_nil _ _ _ _) ao _ cap (xs.take 64) hl0 Hcn.out rfl ((Hx.out.take 64).below HB.out) (by unfold maxLen; omega) (by omega) (Nat.le_refl _) ?_)
  intro v w2 hv hg
  have hB2 := below_step HB.out (below_grown_none hg)
  rw [Nat.zero_add, List.nil_append] at hv
  have hyl : (xs.take 64).length ≤ 64 := by rw [List.length_take]; omega
  have hby := Hbt.out.take 64
  have h1 := HB.out.size
  rw [show min xs.length (64 : Int).toNat = (xs.take 64).length from hl0] at hv
  generalize xs.take 64 = ys at *
  obtain ⟨vo, vc, rfl, hrd, _, hv1, hv2, hv3⟩ := own_rd hv
  have Hv := Lib.hid hv; have HB2 := Lib.hid hB2; have Hrd := Lib.hid hrd; have Hby := Lib.hid hby; have Hv3 := Lib.hid hv3
  clear hv hg hB2 HB hrd hby hv3 Hx Hbt Hcn hl0
  have hnew := new_is 2 w2
  rw [show clamp 2 = 2 from by decide] at hnew
  have Hn := Lib.hid hnew
  clear hnew
  go_wp2_with (with_reducible refine halt_call ?_)
  refine Halted.run (Hn.out.mono ?_); rintro e w3 ⟨b, r, rfl, hd, hb, hr, hB⟩
  have hB3 := below_step HB2.out hB
  have hv3 := own_but Hv.out (But.of_below (bs := []) hB) (by simp)
  have hlt := World.ownsRow.lt Hv.out
  have g2 := HB2.out.size
  have g3 := hB.size
  have hnb : ∀ k, (Value.slice vo ys.length vc).ownBlock = some k → k ∉ [b, r] := by
    intro k hk
    have := (hlt k hk).2
    simp
    omega
  have hva : ∀ a, vo = some a → a.block ∉ [b, r] := fun a ha => hnb _ (Hv3.out a ha).2
  have hw := write_any w3 b r _ 0 ys vo ys.length vc rfl hd (newD_fit 2) (Hrd.out.below hB) Hby.out hva (by omega)
  rw [ownD_err ys hyl] at hw
  have hw' : Calls Try.prog 24 #[.pointer (some ⟨b, 0, none⟩), .int .i64 0, .slice vo ys.length vc] w3 fun e w' => e = .returned (.int .i64 0) ∧ DevAt w' b r (ownD ys) ∧ But [b, r] w3 w' := hw
  have Hw := Lib.hid hw'; have HB3 := Lib.hid hB3; have Hv3' := Lib.hid hv3; have Hnb := Lib.hid hnb
  have hb0 : w.heap.size ≤ b := by omega
  have hr0 : w.heap.size ≤ r := by omega
  clear Hn hd hB hw hw' hB3 hv3 hlt hnb hva HB2 Hv Hrd Hv3 hb hr g2 g3
  go_wp2_with (with_reducible refine halt_call ?_)
  refine Halted.run (Hw.out.mono ?_); rintro e w4 ⟨rfl, hd4, hb4⟩
  have hB4 := But.step HB3.out hb4 (by simp; omega)
  have hv4 := own_but Hv3'.out hb4 Hnb.out
  have h14 := hB4.size
  have hlt := World.ownsRow.lt hv4
  have Hd4 := Lib.hid hd4; have HB4 := Lib.hid hB4; have Hv4 := Lib.hid hv4
  clear hd4 hb4 hB4 hv4 HB3 Hv3' Hw
  have hmk := run_make (P := Try.prog) w4.drew 22 5 i0 (.int .u8 0) Try.underlying22 Hi.out Hz0.out .i64 .i64 (64 - (ys.length : Int)) (64 - (ys.length : Int)) (by omega) (by omega) (by rw [Hz2.out]; omega) (by omega)
  have hs1 := slAt_string (slAt_own (World.ownsRow.drew Hv4.out))
  have hs2 := slAt_string ((slAt_own (World.ownsRow.drew Hv4.out)).below ((Below.refl w4.drew.heap.size w4.drew).alloc (Nat.le_refl _) (.cells (madeCells (Value.int .u8 0).cells ((64 - (ys.length : Int)).toNat * i0.size)) 5)))
  rw [Hz1.out, Nat.mul_one] at hmk hs2
  have hmc : madeCells (Value.int .u8 0).cells (64 - (ys.length : Int)).toNat = ((List.replicate (64 - ys.length) (0 : Int)).map (Value.int .u8)).toArray := by
    rw [List.map_replicate]
    apply Array.ext'
    have := toList_madeCells_one (.int .u8 0) (64 - (ys.length : Int)).toNat
    rw [show (64 - (ys.length : Int)).toNat = 64 - ys.length by omega] at this ⊢
    exact this
  rw [hmc] at hmk hs2
  have hs3 : (convert 22 9 (.slice (some ⟨w4.drew.heap.size, 0, none⟩) (64 - (ys.length : Int)).toNat (64 - (ys.length : Int)).toNat)).run Try.prog (w4.drew.alloc (.cells ((List.replicate (64 - ys.length) (0 : Int)).map (Value.int .u8)).toArray 5)) = .ok (.string (strOfNums (List.replicate (64 - ys.length) (0 : Int)))) (w4.drew.alloc (.cells ((List.replicate (64 - ys.length) (0 : Int)).map (Value.int .u8)).toArray 5)) := by
    refine slAt_string (B := 0) ⟨some ⟨w4.drew.heap.size, 0, none⟩, (64 - (ys.length : Int)).toNat, ?_, rd_new .u8 w4.drew _ _ 5 (0, 0) rfl, ?_, ?_, (fun e => by cases e), fun _ _ => Nat.zero_le _⟩
    · rw [List.length_replicate]; congr 1; omega
    · rw [List.length_replicate]; omega
    · omega
  generalize hC : ((List.replicate (64 - ys.length) (0 : Int)).map (Value.int .u8)).toArray = C at *
  have hwant : strOfNums ys ++ strOfNums (List.replicate (64 - ys.length) 0) = strOfNums (((ownD ys).sec 0).now) := by
    rw [strOf_append, ownD_is ys hyl]; rfl
  have Hwant := Lib.hid hwant
  have hcat := fun (W : World) => run_string_add (P := Try.prog) W (strOfNums ys) (strOfNums (List.replicate (64 - ys.length) (0 : Int))) (by rw [strOfNums_size]; omega) (by rw [strOfNums_size, List.length_replicate]; omega)
  generalize strOfNums (List.replicate (64 - ys.length) 0) = s2 at *
  generalize strOfNums ys = s1 at *
  rw [show (64 - (ys.length : Int)).toNat = 64 - ys.length by omega] at hs3
  have hs2 : (convert 22 9 (.slice vo ys.length vc)).run Try.prog (w4.alloc (.cells C 5)).drew = .ok (.string s1) (w4.alloc (.cells C 5)).drew := hs2
  have hs3 : (convert 22 9 (.slice (some ⟨w4.heap.size, 0, none⟩) (64 - ys.length) (64 - ys.length))).run Try.prog (w4.alloc (.cells C 5)).drew = .ok (.string s2) (w4.alloc (.cells C 5)).drew := hs3
  clear hC hmc hwant
  generalize s1 ++ s2 = sw at *
  go_wp2
  go_region
  have b45 : Below w4.heap.size w4 (w4.alloc (.cells C 5)).drew := ((Below.refl w4.heap.size w4).alloc (Nat.le_refl _) (.cells C 5)).drew
  have hd5 := Hd4.out.below b45
  have hB5 := below_step HB4.out b45
  have hv5 := own_but Hv4.out (But.of_below (bs := []) b45) (by simp)
  clear hmk hs1 hs2 hs3 hcat b45 Hd4 HB4 Hv4
  generalize (w4.alloc (.cells C 5)).drew = w5 at *
  have Hd5 := Lib.hid hd5; have HB5 := Lib.hid hB5; have Hv5 := Lib.hid hv5
  clear hd5 hB5 hv5
  go_wp2
  go_loopw [33] (fun i wx => ∃ (j : Nat) (vs : List Value), j ≤ ys.length ∧ i = .int .i64 j ∧ DevAt wx b r (ownD ys) ∧ Below w.heap.size w wx ∧ wx.ownsRow w1.heap.size 5 1 (.slice vo ys.length vc) ys.length vs ∧ Bytes ys.length vs) (fun i _ => ys.length - (intOf i).toNat)
  case atStart => exact ⟨0, _, by omega, rfl, Hd5.out, HB5.out, Hv5.out, bytes_of _ _ (Nat.le_refl _)⟩
  case round =>
    clear Hd5 HB5 Hv5
    obtain ⟨j, vs, hjl, rfl, hd, hB, hv, hbs⟩ := hrel
    by_cases hlj : j < ys.length
    · obtain ⟨z, hz⟩ := hbs j hlj
      obtain ⟨g, c, hvo, q1⟩ := World.ownsRow.form hv (by omega)
      injection hvo with hvo _ hvc
      subst hvo
      subst hvc
      have hc := World.ownsRow.cellAt hv j (by omega)
      rw [hz] at hc
      have hfz := World.ownsRow.frozenAt hv j
      have hnb := Hnb.out g rfl
      have hge := World.ownsRow.lt hv g rfl
      have hst := fun u => (World.ownsRow.stored hv j (.int .u8 u)).1
      have hdd := fun u => hd.but ((But.refl [g] wr).setCell (a := ⟨g, j, none⟩) (by simp) (.int .u8 u)) (by simp at hnb ⊢; omega) (by simp at hnb ⊢; omega)
      have hBB := fun u => But.step hB ((But.refl [g] wr).setCell (a := ⟨g, j, none⟩) (by simp) (.int .u8 u)) (by simp; omega)
      have Hst := Lib.hid hst; have Hdd := Lib.hid hdd; have HBB := Lib.hid hBB; have Hbs := Lib.hid (fun u => bytes_set hbs j u)
      clear hv hbs hd hB hst hdd hBB hnb q1 hz
      go_wp2
      refine ⟨⟨j + 1, _, by omega, by go_num, Hdd.out _, HBB.out _, Hst.out _, Hbs.out _⟩, by simp [intOf]; omega⟩
    · have hjl : j = ys.length := by omega
      have hrd := read_own wr b r _ 0 hd (by rw [ownD_is ys hyl]; show 0 < 2; omega)
      have Hrd := Lib.hid hrd; have Hd := Lib.hid hd; have HB := Lib.hid hB
      have hlb := hd.lt_b; have hlr := hd.lt_r
      clear hrd hd hB hv hbs Hnb
      go_wp2_with (with_reducible refine halt_call ?_)
      refine Halted.run (Hrd.out.mono ?_); rintro e w6 ⟨xg, xc, rfl, hx6, hb6⟩
      have Hd6 := Lib.hid (Hd.out.below hb6); have HB6 := Lib.hid (below_step HB.out hb6); have Hx6 := Lib.hid hx6
      have gB := HB.out.size
      clear Hrd Hd HB hx6 hb6
      go_wp2
      go_loopw [50] (fun i wx => ∃ (j : Nat) (vs : List Value), j ≤ 64 ∧ i = .int .i64 j ∧ DevAt wx b r (ownD ys) ∧ Below w.heap.size w wx ∧ wx.ownsRow wr.heap.size 5 1 (.slice (some ⟨xg, 0, none⟩) 64 xc) 64 vs ∧ Bytes 64 vs) (fun i _ => 64 - (intOf i).toNat)
      case atStart => exact ⟨0, _, by omega, rfl, Hd6.out, HB6.out, Hx6.out, bytes_of _ _ (by rw [ownD_is ys hyl]; show 64 ≤ (ys ++ List.replicate (64 - ys.length) 0).length; simp; omega)⟩
      case round =>
        clear Hd6 HB6 Hx6
        obtain ⟨j, vs, hj64, rfl, hd, hB, hv, hbs⟩ := hrel
        by_cases hlj : j < 64
        · obtain ⟨z, hz⟩ := hbs j hlj
          have hc := World.ownsRow.cellAt hv j (by omega)
          rw [hz] at hc
          have hfz := World.ownsRow.frozenAt hv j
          have hge := World.ownsRow.lt hv xg rfl
          have hst := fun u => (World.ownsRow.stored hv j (.int .u8 u)).1
          have hdd := fun u => hd.but ((But.refl [xg] wr).setCell (a := ⟨xg, j, none⟩) (by simp) (.int .u8 u)) (by simp; omega) (by simp; omega)
          have hBB := fun u => But.step hB ((But.refl [xg] wr).setCell (a := ⟨xg, j, none⟩) (by simp) (.int .u8 u)) (by simp; omega)
          have Hst := Lib.hid hst; have Hdd := Lib.hid hdd; have HBB := Lib.hid hBB; have Hbs := Lib.hid (fun u => bytes_set hbs j u)
          clear hv hbs hd hB hst hdd hBB hz
          go_wp2
          refine ⟨⟨j + 1, _, by omega, by go_num, Hdd.out _, HBB.out _, Hst.out _, Hbs.out _⟩, by simp [intOf]; omega⟩
        · have hd1 := hd.below ((Below.refl wr.heap.size wr).alloc (Nat.le_refl _) (.cells #[.bool true] 4))
          have hB1 := below_next hB (.cells #[.bool true] 4)
          have hcr := crash_any _ b r _ (some ⟨wr.heap.size, 0, none⟩) 1 1 [true] rfl hd1 (rdB_new wr [true] _ 4 rfl) (by simp)
          have Hcr := Lib.hid hcr; have Hd1 := Lib.hid hd1; have HB1 := Lib.hid hB1
          have lb := hd1.lt_b; have lr := hd1.lt_r
          have gs := hB1.size
          clear hcr hd1 hB1 hd hB hv hbs
          go_wp2_with (with_reducible refine halt_call ?_)
          refine Halted.run (Hcr.out.mono ?_); rintro e w7 ⟨eb, er, rfl, he, heb, her, hb7⟩
          have he1 := he.below ((Below.refl w7.heap.size w7).alloc (Nat.le_refl _) (.cells #[.int .u8 1, .int .u8 2, .int .u8 3] 5))
          have hd7 := Hd1.out.below hb7
          have hd8 := hd7.below ((Below.refl w7.heap.size w7).alloc (Nat.le_refl _) (.cells #[.int .u8 1, .int .u8 2, .int .u8 3] 5))
          have hB7 := below_step HB1.out hb7
          have hB8 := below_next hB7 (.cells #[.int .u8 1, .int .u8 2, .int .u8 3] 5)
          have le := he.lt_b; have ler := he.lt_r; have ld := hd7.lt_b; have ldr := hd7.lt_r
          have hw := write_any _ eb er _ 0 [1, 2, 3] (some ⟨w7.heap.size, 0, none⟩) 3 3 rfl he1 (crash_fit _ _) (rd_new .u8 w7 [1, 2, 3] _ 5 (0, 0) rfl) (by intro x hx; simp at hx; omega) (by intro a ha; cases ha; simp; omega) (by simp)
          have Hw := Lib.hid hw; have Hd8 := Lib.hid hd8; have HB8 := Lib.hid hB8
          clear Hcr Hd1 HB1 he he1 hd7 hd8 hB7 hB8 hw hb7
          go_wp2_with (with_reducible refine halt_call ?_)
          refine Halted.run (Hw.out.mono ?_); rintro e w8 ⟨rfl, _, hb8⟩
          have hd9 := Hd8.out.but hb8 (by simp; omega) (by simp; omega)
          have hB9 := But.step HB8.out hb8 (by simp; omega)
          have hrd := read_in w8 b r _ 0 hd9 (by rw [ownD_is ys hyl]; show 0 < 2; omega)
          have Hrd := Lib.hid hrd; have Hd9 := Lib.hid hd9; have HB9 := Lib.hid hB9
          clear Hw Hd8 HB8 hb8 hd9 hB9 hrd
          generalize Dv.wErr _ _ _ = er8
          go_wp2_with (with_reducible refine halt_call ?_)
          refine Halted.run (Hrd.out.mono ?_); rintro e w9 ⟨v9, rfl, hs9, hb9⟩
          have hst := slAt_string hs9
          rw [← Hwant.out] at hst
          have hlo := loose_any w9 b r _ (Hd9.out.below hb9)
          rw [show (ownD ys).n = 2 by rw [ownD_is ys hyl]; rfl, ownD_loose ys hyl] at hlo
          have Hlo := Lib.hid hlo; have HB10 := Lib.hid (below_step HB9.out hb9)
          clear Hrd Hd9 HB9 hs9 hb9 hlo
          go_wp2_with (with_reducible refine halt_call ?_)
          refine Halted.run (Hlo.out.mono ?_); rintro e w10 ⟨v10, rfl, hs10, hb10⟩
          obtain ⟨ao10, cap10, rfl, h1, h2, h3, h4, h5⟩ := hs10
          have HB11 := Lib.hid (below_step HB10.out hb10)
          clear Hlo HB10 h1 h2 h3 h4 h5 hb10
          go_wp2
          go_ret
          exact ⟨rfl, HB11.out⟩
end Go.Proofs.Ytcahhopneobjbaa
