/- Make. -/
import Derived.Test.YtcahhopneobjbaaSupB
namespace Go.Proofs.Ytcahhopneobjbaa
open Go.RowKit CrcM

/-- A device that lives, with no fuse. -/
structure Live (c : Int) (D : Dv) : Prop where
  lit : D.lit = false
  dead : D.dead = false
  c0 : 0 ≤ D.calls
  c1 : D.calls ≤ c
  fuse : D.fuse = 0
theorem Live.isDead {c : Int} {D : Dv} (h : Live c D) : D.isDead = false := by unfold Dv.isDead; rw [h.lit, h.dead]; rfl
theorem Live.fit {c : Int} {D : Dv} (h : Live c D) (hc : c < 1000000) : Fit D := by
  have := h.c1; have := h.fuse
  exact ⟨h.c0, by omega, by omega, by omega⟩
theorem Live.wErr {c : Int} {D : Dv} (h : Live c D) (p : Int) (n : Nat) (hp : 0 ≤ p ∧ p < D.n) (hn : n ≤ 64) : D.wErr p n = 0 := by
  unfold Dv.wErr Dv.atErr
  rw [h.isDead, if_pos hp]
  simp; omega
theorem Live.wr_is {c : Int} {D : Dv} (h : Live c D) (p : Int) (bs : List Int) (hp : 0 ≤ p ∧ p < D.n) (hn : bs.length ≤ 64) : D.wr p bs = D.burn.put p.toNat { (D.sec p.toNat).over bs with loose := true } := by
  unfold Dv.wr
  rw [h.wErr p _ hp hn, if_pos rfl]
theorem Live.wr {c : Int} {D : Dv} (h : Live c D) (p : Int) (bs : List Int) (hp : 0 ≤ p ∧ p < D.n) (hn : bs.length ≤ 64) : Live (c + 1) (D.wr p bs) ∧ (D.wr p bs).n = D.n := by
  rw [h.wr_is p bs hp hn]
  have := h.c0; have := h.c1
  refine ⟨⟨h.lit, h.dead, ?_, ?_, ?_⟩, rfl⟩
  · show 0 ≤ D.calls + 1; omega
  · show D.calls + 1 ≤ _; omega
  · show (if D.lit then D.fuse - 1 else D.fuse) = 0; rw [h.lit]; simpa using h.fuse
theorem Live.fl {c : Int} {D : Dv} (h : Live c D) : Live (c + 1) D.fl ∧ D.fl.n = D.n ∧ ∀ i, i < D.n → D.fl.sec i = (D.sec i).fl := by
  unfold Dv.fl
  rw [h.isDead]
  have := h.c0; have := h.c1
  simp only [Bool.false_eq_true, ↓reduceIte]
  refine ⟨⟨h.lit, h.dead, ?_, ?_, ?_⟩, rfl, ?_⟩
  · show 0 ≤ D.calls + 1; omega
  · show D.calls + 1 ≤ _; omega
  · show (if D.lit then D.fuse - 1 else D.fuse) = 0; rw [h.lit]; simpa using h.fuse
  · intro i hi
    show (if i < D.n then _ else _) = _
    rw [if_pos hi]; rfl

def zeros : List Int := List.replicate 64 0
theorem zeros_byt : Byt zeros := fun x hx => by have := (List.mem_replicate.1 hx).2; omega
/-- The device in Make's loop. -/
def mkTo (D : Dv) (pt : Int) : Nat → Dv
  | 0 => D
  | k + 1 => (mkTo D pt k).wr (pt + k) zeros
def mkD (D : Dv) (pt : Int) (ys : List Int) : Dv := ((mkTo D pt 2).wr pt (image 1 ys)).fl
theorem mkTo_live {c : Int} {D : Dv} (h : Live c D) (pt : Int) (h0 : 0 ≤ pt) (h1 : pt + 1 < D.n) : ∀ k : Nat, k ≤ 2 → Live (c + k) (mkTo D pt k) ∧ (mkTo D pt k).n = D.n
  | 0, _ => ⟨by rw [show c + ((0 : Nat) : Int) = c by omega]; exact h, rfl⟩
  | k + 1, hk => by
    obtain ⟨i1, i2⟩ := mkTo_live h pt h0 h1 k (by omega)
    obtain ⟨j1, j2⟩ := i1.wr (pt + k) zeros (by rw [i2]; omega) (by simp [zeros])
    refine ⟨?_, j2.trans i2⟩
    have e : c + ((k + 1 : Nat) : Int) = c + k + 1 := by omega
    rw [e]
    exact j1
theorem But.fresh {bs cs : List Nat} {w w1 w2 : World} (h : But bs w w1) (k : But cs w1 w2) (hc : ∀ x, x ∈ cs → x ∈ bs ∨ w.heap.size ≤ x) : But bs w w2 :=
  ⟨k.os.trans h.os, k.tape.trans h.tape, k.output.trans h.output, Nat.le_trans h.size k.size, fun i hi hn => (k.block i (Nat.lt_of_lt_of_le hi h.size) (fun hx => by
    rcases hc i hx with hx | hx
    · exact hn hx
    · omega)).trans (h.block i hi hn)⟩

theorem make_long (w : World) (p : Value) (pt : Int) (ao : Option Addr) (m cap : Nat) (h : 40 < m) : Calls Try.prog 15 #[p, .int .i64 pt, .slice ao m cap] w fun e w' => e = .returned (.tuple #[.pointer none, .int .i64 1]) ∧ w = w' := by
  go_enter Try.func15, Try.ntmps15
  go_wp2
  go_ret2
  exact ⟨rfl, rfl⟩
theorem make_out (w : World) (b r : Nat) (D : Dv) (pt : Int) (ao : Option Addr) (m cap : Nat) (h : m ≤ 40) (hd : DevAt w b r D) (hp : ¬ (0 ≤ pt ∧ pt + 1 < D.n)) : Calls Try.prog 15 #[.pointer (some ⟨b, 0, none⟩), .int .i64 pt, .slice ao m cap] w fun e w' => e = .returned (.tuple #[.pointer none, .int .i64 3]) ∧ w = w' := by
  have ht := there_any w b r D pt hd
  rw [show decide (0 ≤ pt ∧ pt + 1 < D.n) = false by simpa using hp] at ht
  have Ht := Lib.hid ht
  clear hd hp ht
  go_enter Try.func15, Try.ntmps15
  go_wp2_with (with_reducible refine halt_call ?_)
  refine Halted.run (Ht.out.mono ?_); rintro e w' ⟨rfl, rfl⟩
  go_wp2
  go_ret2
  exact ⟨rfl, rfl⟩

set_option maxHeartbeats 1000000 in
theorem make_any (w : World) (b r : Nat) (N : List Nat) (c : Int) (D : Dv) (pt : Int) (ao : Option Addr) (m cap : Nat) (ys : List Int)
    (hd : DevAt w b r D) (hl : Live c D) (hc : c < 800000) (hp0 : 0 ≤ pt) (hp1 : pt + 1 < D.n) (hbN : b ∈ N) (hrN : r ∈ N) (hlt : ∀ k, k ∈ N → k < w.heap.size)
    (hm : m = ys.length) (h40 : ys.length ≤ 40) (hrd : Rd .u8 w ao ys) (hby : Byt ys) (hao : ∀ a, ao = some a → ys ≠ [] → a.block ∉ N) (hcn : ao = none → cap = 0) (hmc : m ≤ cap) :
    Calls Try.prog 15 #[.pointer (some ⟨b, 0, none⟩), .int .i64 pt, .slice ao m cap] w fun e w' => ∃ s, e = .returned (.tuple #[.pointer (some ⟨s, 0, none⟩), .int .i64 0]) ∧ w.heap.size ≤ s ∧ DevAt w' b r (mkD D pt ys) ∧ But [b, r] w w' ∧ SupAt w' s b (s :: N) pt 0 1 ys := by
  subst hm
  have ht := there_any w b r D pt hd
  rw [show decide (0 ≤ pt ∧ pt + 1 < D.n) = true by simp; omega] at ht
  obtain ⟨i0, hi, hz0, hz1, hz2⟩ := info_parts Try.info5
  have hz : madeCells (Value.int .u8 0).cells ((64 : Int).toNat * 1) = (zeros.map (Value.int .u8)).toArray := by kernel_rfl
  have hmk := fun W => run_make (P := Try.prog) W 22 5 i0 (.int .u8 0) Try.underlying22 hi hz0 .i64 .i64 64 64 (by omega) (by omega) (by rw [hz2]; omega) (by omega)
  rw [hz1, hz] at hmk
  have h2 := hd.h2
  have hal := hrd.lt
  have Ht := Lib.hid ht; have Hd := Lib.hid hd; have Hl := Lib.hid hl; have Hlt := Lib.hid hlt; have Hrd := Lib.hid hrd; have Hby := Lib.hid hby; have Hao := Lib.hid hao; have Hcn := Lib.hid hcn; have Hal := Lib.hid hal
  have HbN := Lib.hid hbN; have HrN := Lib.hid hrN
  clear ht hd hl hlt hrd hby hao hcn hal hbN hrN hi hz0 hz1 hz2 hz
  go_enter Try.func15, Try.ntmps15
  go_wp2_with (with_reducible refine halt_call ?_)
  refine Halted.run (Ht.out.mono ?_); rintro e w' ⟨rfl, rfl⟩
  clear Ht
  go_wp2
  go_loopw [21] (fun i wx => ∃ k : Nat, k ≤ 2 ∧ i = .int .i64 k ∧ DevAt wx b r (mkTo D pt k) ∧ But [b, r] w wx) (fun i _ => 2 - (intOf i).toNat)
  case atStart => exact ⟨0, by omega, rfl, Hd.out, But.refl _ _⟩
  case round =>
    obtain ⟨k, hk, rfl, hd, hb⟩ := hrel
    obtain ⟨l1, l2⟩ := mkTo_live Hl.out pt hp0 hp1 k hk
    by_cases hlt : k < 2
    · have hd1 := hd.below ((Below.refl wr.heap.size wr).alloc (Nat.le_refl _) (.cells (zeros.map (Value.int .u8)).toArray 5))
      have hb1 := hb.alloc (.cells (zeros.map (Value.int .u8)).toArray 5)
      have lb := hd.lt_b; have lr := hd.lt_r
      have hw := write_any _ b r _ (pt + k) zeros (some ⟨wr.heap.size, 0, none⟩) 64 64 rfl hd1 (l1.fit (by omega)) (rd_new .u8 wr zeros _ 5 (0, 0) rfl) zeros_byt (by intro a ha; cases ha; simp; omega) (by simp [zeros])
      rw [l1.wErr (pt + k) zeros.length (by rw [l2]; omega) (by simp [zeros])] at hw
      have Hw := Lib.hid hw; have Hb1 := Lib.hid hb1
      have hpw : IntKind.i64.wrap (pt + k) = pt + k := by rw [IntKind.wrap_i64]; omega
      clear hw hd1 hb1 hd hb l1 l2 Hd
      generalize hza : (zeros.map (Value.int .u8)).toArray = za at *
      clear hza
      go_wp2_with (with_reducible refine halt_call ?_)
      refine Halted.run (Hw.out.mono ?_); rintro e w6 ⟨rfl, hd6, hb6⟩
      have Hd6 := Lib.hid hd6; have Hb6 := Lib.hid (Hb1.out.trans hb6)
      clear Hw Hb1 hd6 hb6
      go_wp2
      refine ⟨⟨k + 1, by omega, by go_num, Hd6.out, Hb6.out⟩, by simp [intOf]; omega⟩
    · have hk2 : k = 2 := by omega
      subst hk2
      have hg := hb.size
      have hd1 := hd.below ((Below.refl wr.heap.size wr).alloc (Nat.le_refl _) (.cells #[.pointer (some ⟨b, 0, none⟩), .int .i64 pt, .int .i64 0, .int .i64 0, .slice none 0 0] 58))
      have hb1 := hb.alloc (.cells #[.pointer (some ⟨b, 0, none⟩), .int .i64 pt, .int .i64 0, .int .i64 0, .slice none 0 0] 58)
      have hs1 : SupAt (wr.alloc (.cells #[.pointer (some ⟨b, 0, none⟩), .int .i64 pt, .int .i64 0, .int .i64 0, .slice none 0 0] 58)) wr.heap.size b (wr.heap.size :: N) pt 0 0 [] :=
        ⟨⟨none, 0, blk_new _ _, Rd.nil, fun _ => rfl, fun a ha _ => by cases ha⟩, by simp⟩
      have hrd1 := (Hrd.out.but' hb (fun a ha hy hk => by
        simp at hk
        rcases hk with hk | hk
        · exact Hao.out a ha hy (hk ▸ HbN.out)
        · exact Hao.out a ha hy (hk ▸ HrN.out))).below ((Below.refl wr.heap.size wr).alloc (Nat.le_refl _) (.cells #[.pointer (some ⟨b, 0, none⟩), .int .i64 pt, .int .i64 0, .int .i64 0, .slice none 0 0] 58))
      have hz1 : (wr.alloc (.cells #[.pointer (some ⟨b, 0, none⟩), .int .i64 pt, .int .i64 0, .int .i64 0, .slice none 0 0] 58)).heap.size = wr.heap.size + 1 := by simp
      have c1 := l1.c1
      have hw := write_sup _ wr.heap.size b r (wr.heap.size :: N) pt 0 0 [] 0 1 ao ys.length cap ys _ hs1 hd1 (l1.fit (by omega)) (by omega)
        (by intro k hk; simp at hk; rcases hk with rfl | rfl | rfl; exact List.mem_cons_of_mem _ HbN.out; exact List.mem_cons_of_mem _ HrN.out; exact List.mem_cons_self)
        (by intro k hk; rw [hz1]; rcases List.mem_cons.1 hk with rfl | hk; omega; have := Hlt.out k hk; omega)
        hp0 (by rw [l2]; exact hp1) (by omega) (by omega) (by omega) (by omega) rfl h40 hrd1 Hby.out
        (by intro a ha hy hk; rcases List.mem_cons.1 hk with hk | hk; have := Hal.out a ha hy; omega; exact Hao.out a ha hy hk) Hcn.out hmc
      have hw2 := hw.mono (R' := fun e w' => e = .returned (.int .i64 0) ∧ DevAt w' b r (mkD D pt ys) ∧ But [b, r] w w' ∧ SupAt w' wr.heap.size b (wr.heap.size :: N) pt 0 1 ys) (by
        rintro e w' ⟨hb', hp⟩
        have il := image_length 1 ys (by omega)
        obtain ⟨j1, j2⟩ := l1.wr (pt + 0) (image 1 ys) (by rw [l2]; omega) (by omega)
        rcases hp with ⟨h1, _⟩ | ⟨_, h1, _⟩ | ⟨_, _, rfl, h3, h4⟩
        · rw [l1.isDead] at h1; cases h1
        · rw [j1.isDead] at h1; cases h1
        · refine ⟨rfl, ?_, hb1.fresh hb' (by intro x hx; simp at hx ⊢; omega), h4⟩
          rw [Int.add_zero] at h3
          exact h3)
      have Hw := Lib.hid hw2
      clear hw hw2 hs1 hd1 hb1 hrd1 hd hb l1 l2 hz1 c1 Hd Hl
      go_wp2_with (with_reducible refine halt_call ?_)
      refine Halted.run (Hw.out.mono ?_); rintro e w6 ⟨rfl, hd6, hb6, hs6⟩
      have Hd6 := Lib.hid hd6; have Hb6 := Lib.hid hb6; have Hs6 := Lib.hid hs6
      clear Hw hd6 hb6 hs6
      go_wp2
      go_ret2
      exact ⟨wr.heap.size, rfl, hg, Hd6.out, Hb6.out, Hs6.out⟩
end Go.Proofs.Ytcahhopneobjbaa
