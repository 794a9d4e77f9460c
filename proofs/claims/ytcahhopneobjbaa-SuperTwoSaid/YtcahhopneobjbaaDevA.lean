/- The device's functions that read, and the small ones that write. -/
import Derived.Test.YtcahhopneobjbaaProg
import Derived.Test.YtcahhopneobjbaaDev
namespace Go.Proofs.Ytcahhopneobjbaa
open Go.RowKit

def zc129 : Array Value := Array.replicate 64 (.int .u8 0) ++ Array.replicate 64 (.int .u8 0) ++ #[.bool false]
def z129 : Value := .agg zc129
theorem Try.info62 : (Try.prog.info? 62).map (fun i => (i.zero, i.size, i.bytes)) = some (some z129, 129, 129) := by kernel_rfl
def zSec : Sec := ⟨List.replicate 64 0, List.replicate 64 0, false⟩
def newD (m : Nat) : Dv := ⟨m, fun _ => zSec, 0, false, 0, false⟩
def clamp (n : Int) : Nat := (mnI (mxI n 1) 2048).toNat
theorem clamp_is (n : Int) : mnI (mxI n 1) 2048 = (clamp n : Int) ∧ 1 ≤ clamp n ∧ clamp n ≤ 2048 := by
  unfold clamp mnI mxI; split <;> split <;> omega
theorem clamp_in (n : Nat) (h1 : 1 ≤ n) (h2 : n ≤ 2048) : clamp n = n := by
  unfold clamp mnI mxI; split <;> split <;> omega
theorem zSec_ok : SecOk zSec := by
  refine ⟨by simp [zSec], by simp [zSec], ?_, ?_⟩ <;> intro x hx <;> simp [zSec] at hx <;> omega
theorem zc_at (j : Nat) (h : j < 129) : zc129[j]? = some (secCell zSec j) := by
  have e0 : ∀ k, (List.replicate 64 (0 : Int)).getD k 0 = 0 := by
    intro k
    rw [List.getD_eq_getElem?_getD, List.getElem?_replicate]
    split <;> rfl
  unfold zc129 secCell zSec
  simp only [e0]
  by_cases h1 : j < 64
  · rw [if_pos h1, Array.getElem?_append_left (by simp; omega), Array.getElem?_append_left (by simp; omega)]
    simp [h1]
  · rw [if_neg h1]
    by_cases h2 : j < 128
    · rw [if_pos h2, Array.getElem?_append_left (by simp; omega), Array.getElem?_append_right (by simp; omega)]
      rw [Array.getElem?_replicate, if_pos (by simp; omega)]
    · rw [if_neg h2, Array.getElem?_append_right (by simp; omega)]
      have : j = 128 := by omega
      subst this
      simp
theorem DevAt.new (w : World) (m : Nat) (h1 : 1 ≤ m) (h2 : m ≤ 2048) :
    DevAt ((w.alloc (.cells (madeCells zc129 (m * 129)) 62)).alloc (.cells #[.slice (some ⟨w.heap.size, 0, none⟩) m m, .int .i64 0, .bool false, .int .i64 0, .bool false] 55)) (w.heap.size + 1) w.heap.size (newD m) := by
  refine ⟨?_, ⟨madeCells zc129 (m * 129), ?_, size_madeCells _ _, ?_⟩, fun _ _ => zSec_ok, h1, h2⟩
  · have := blk_new (w.alloc (.cells (madeCells zc129 (m * 129)) 62)) (.cells #[.slice (some ⟨w.heap.size, 0, none⟩) m m, .int .i64 0, .bool false, .int .i64 0, .bool false] 55)
    rw [World.size_alloc] at this
    exact this
  · rw [Below.heap_alloc _ _ _ (by simp)]
    exact blk_new _ _
  · intro i j hi hj
    have hi' : i < m := hi
    have hlt : i * 129 + j < m * 129 := by omega
    have hz : zc129.size = 129 := by simp [zc129]
    have hm : (i * 129 + j) % 129 = j := by omega
    show (madeCells zc129 (m * 129))[i * 129 + j]? = some (secCell zSec j)
    have hj' := zc_at j hj
    rw [← hj']
    unfold madeCells
    rw [Array.getElem?_map, Array.getElem?_range, if_pos hlt]
    simp only [Option.map_some, hz, hm]
    rw [getElem!_pos zc129 j (by omega), Array.getElem?_eq_getElem (by omega)]

attribute [local go_sem high] run_min_mn run_max_mx

theorem new_any (n : Int) (w : World) :
    Calls Try.prog 14 #[.int .i64 n] w fun e w' => e = .returned (.pointer (some ⟨w.heap.size + 1, 0, none⟩)) ∧
      ((w.alloc (.cells (madeCells zc129 (clamp n * 129)) 62)).alloc (.cells #[.slice (some ⟨w.heap.size, 0, none⟩) (clamp n) (clamp n), .int .i64 0, .bool false, .int .i64 0, .bool false] 55)) = w' := by
  obtain ⟨i0, hi, hz0, hz1, hz2⟩ := info_parts Try.info62
  obtain ⟨hm, h1, h2⟩ := clamp_is n
  generalize clamp n = m at *
  have hmk := fun w => run_make (P := Try.prog) w 53 62 i0 z129 Try.underlying53 hi hz0 .i64 .i64 m m (by omega) (by omega) (by rw [hz2]; omega) (by omega)
  rw [hz1, show z129.cells = zc129 from rfl, Int.toNat_natCast] at hmk
  go_enter Try.func14, Try.ntmps14
  go_wp2
  go_ret
  exact ⟨rfl, rfl⟩

/-- A new device: two new blocks. -/
def IsNew (w : World) (m : Nat) (e : Ending) (w' : World) : Prop :=
  ∃ b r, e = .returned (.pointer (some ⟨b, 0, none⟩)) ∧ DevAt w' b r (newD m) ∧ w.heap.size ≤ b ∧ w.heap.size ≤ r ∧ Below w.heap.size w w'
theorem new_is (n : Int) (w : World) : Calls Try.prog 14 #[.int .i64 n] w (IsNew w (clamp n)) := by
  refine (new_any n w).mono ?_
  rintro e w' ⟨rfl, rfl⟩
  obtain ⟨_, h1, h2⟩ := clamp_is n
  exact ⟨_, _, rfl, DevAt.new w _ h1 h2, by omega, by omega, ((Below.refl _ _).alloc (Nat.le_refl _) _).alloc (by simp) _⟩

theorem len_any (w : World) (b r : Nat) (D : Dv) (h : DevAt w b r D) : Calls Try.prog 26 #[.pointer (some ⟨b, 0, none⟩)] w fun e w' => e = .returned (.int .i64 D.n) ∧ w = w' := by
  have c0 := h.c0
  go_enter Try.func26, Try.ntmps26
  go_wp2
  go_ret
  exact ⟨rfl, rfl⟩
theorem calls_any (w : World) (b r : Nat) (D : Dv) (h : DevAt w b r D) : Calls Try.prog 28 #[.pointer (some ⟨b, 0, none⟩)] w fun e w' => e = .returned (.int .i64 D.calls) ∧ w = w' := by
  have c1 := h.c1
  go_enter Try.func28, Try.ntmps28
  go_wp2
  go_ret
  exact ⟨rfl, rfl⟩
def Dv.isDead (D : Dv) : Bool := D.dead || (D.lit && D.fuse == 0)
theorem dead_any (w : World) (b r : Nat) (D : Dv) (h : DevAt w b r D) : Calls Try.prog 29 #[.pointer (some ⟨b, 0, none⟩)] w fun e w' => e = .returned (.bool D.isDead) ∧ w = w' := by
  have c2 := h.c2; have c3 := h.c3; have c4 := h.c4
  unfold Dv.isDead
  cases h4 : D.dead <;> rw [h4] at c4
  · cases h2 : D.lit <;> rw [h2] at c2
    · clear h h2 h4
      go_enter Try.func29, Try.ntmps29
      go_wp2
      go_ret
      exact ⟨rfl, rfl⟩
    · generalize hf : (D.fuse == 0) = f
      clear h h2 h4
      go_enter Try.func29, Try.ntmps29
      go_wp2
      go_ret
      exact ⟨rfl, rfl⟩
  · clear h h4
    go_enter Try.func29, Try.ntmps29
    go_wp2
    go_ret
    exact ⟨rfl, rfl⟩
/-- The error of a place. -/
def Dv.atErr (D : Dv) (i : Int) : Int := if 0 ≤ i ∧ i < D.n then 0 else 3
theorem at_any (w : World) (b r : Nat) (D : Dv) (i : Int) (h : DevAt w b r D) : Calls Try.prog 35 #[.pointer (some ⟨b, 0, none⟩), .int .i64 i] w fun e w' => e = .returned (.int .i64 (D.atErr i)) ∧ w = w' := by
  have c0 := h.c0
  unfold Dv.atErr
  by_cases h0 : 0 ≤ i
  · by_cases h1 : i < D.n
    · rw [if_pos ⟨h0, h1⟩]
      clear h
      go_enter Try.func35, Try.ntmps35
      go_wp2
      go_ret
      exact ⟨rfl, rfl⟩
    · rw [if_neg (fun e => h1 e.2)]
      clear h
      go_enter Try.func35, Try.ntmps35
      go_wp2
      go_ret
      exact ⟨rfl, rfl⟩
  · rw [if_neg (fun e => h0 e.1)]
    clear h
    go_enter Try.func35, Try.ntmps35
    go_wp2
    go_ret
    exact ⟨rfl, rfl⟩

/-- A call more. -/
def Dv.burn (D : Dv) : Dv := { D with calls := D.calls + 1, fuse := if D.lit then D.fuse - 1 else D.fuse }
/-- What the counters may hold. -/
structure Fit (D : Dv) : Prop where
  c0 : 0 ≤ D.calls
  c1 : D.calls < 1000000
  f0 : 0 ≤ D.fuse
  f1 : D.fuse ≤ 9223372036854775807
theorem burns_any (w : World) (b r : Nat) (D : Dv) (h : DevAt w b r D) (hf : Fit D) (ha : D.isDead = false) :
    Calls Try.prog 36 #[.pointer (some ⟨b, 0, none⟩)] w fun e w' => e = .returned (.tuple #[]) ∧ DevAt w' b r D.burn ∧ But [b, r] w w' := by
  have c1 := h.c1; have c2 := h.c2; have c3 := h.c3
  have f1 := h.fb 1; have f3 := h.fb 3
  have q0 := hf.c0; have q1 := hf.c1; have q2 := hf.f0; have q3 := hf.f1
  unfold Dv.burn
  unfold Dv.isDead at ha
  have H := Lib.hid h
  cases h2 : D.lit <;> rw [h2] at c2 ha
  · have Hx : Hid (∀ v, DevAt (w.setCell ⟨b, 1, none⟩ (.int .i64 v)) b r { D with calls := v }) := Lib.hid h.setCalls
    have H2 := Lib.hid h2
    clear h h2 ha hf
    go_enter Try.func36, Try.ntmps36
    go_wp2
    go_end0
    refine ⟨rfl, ?_, (But.refl _ _).setCell (by simp) _⟩
    have := Hx.out (D.calls + 1)
    rw [H2.out] at this
    simpa using this
  · have hq : 1 ≤ D.fuse := by
      rcases Int.lt_or_le 0 D.fuse with h | h
      · omega
      · have : D.fuse = 0 := by omega
        rw [this] at ha
        simp at ha
    have Hx : Hid (∀ u v, DevAt ((w.setCell ⟨b, 3, none⟩ (.int .i64 u)).setCell ⟨b, 1, none⟩ (.int .i64 v)) b r { D with calls := v, fuse := u }) := Lib.hid (fun u v => (h.setFuse u).setCalls v)
    have H2 := Lib.hid h2
    clear h h2 ha hf
    go_enter Try.func36, Try.ntmps36
    go_wp2
    go_end0
    refine ⟨rfl, ?_, ((But.refl _ _).setCell (by simp) _).setCell (by simp) _⟩
    have := Hx.out (D.fuse - 1) (D.calls + 1)
    rw [H2.out] at this
    simpa using this
theorem Dv.burn_fit {D : Dv} (hf : Fit D) (hc : D.calls < 999999) (ha : D.isDead = false) : Fit D.burn := by
  obtain ⟨h1, h2, h3, h4⟩ := hf
  unfold Dv.isDead at ha
  refine ⟨by show 0 ≤ D.calls + 1; omega, by show D.calls + 1 < 1000000; omega, ?_, ?_⟩
  · show 0 ≤ if D.lit then D.fuse - 1 else D.fuse
    split
    · rename_i hl
      rw [hl] at ha
      rcases Int.lt_or_le 0 D.fuse with h | h
      · omega
      · have : D.fuse = 0 := by omega
        rw [this] at ha
        simp at ha
    · omega
  · show (if D.lit then D.fuse - 1 else D.fuse) ≤ _
    split <;> omega

def Dv.fused (D : Dv) (n : Int) : Dv := { D with dead := D.isDead || n == 0, lit := decide (0 ≤ n), fuse := mxI n 0 }
attribute [local go_sem high] run_max_mx
theorem fuse_any (w : World) (b r : Nat) (D : Dv) (n : Int) (h : DevAt w b r D) :
    Calls Try.prog 16 #[.pointer (some ⟨b, 0, none⟩), .int .i64 n] w fun e w' => e = .returned (.tuple #[]) ∧ DevAt w' b r (D.fused n) ∧ But [b, r] w w' := by
  have f2 := h.fb 2; have f3 := h.fb 3; have f4 := h.fb 4
  have c2 := h.c2; have c3 := h.c3; have c4 := h.c4
  have Hx : Hid (∀ x y z, DevAt (((w.setCell ⟨b, 4, none⟩ (.bool x)).setCell ⟨b, 2, none⟩ (.bool y)).setCell ⟨b, 3, none⟩ (.int .i64 z)) b r { D with dead := x, lit := y, fuse := z }) := Lib.hid (fun x y z => ((h.setDead x).setLit y).setFuse z)
  have H := Lib.hid h
  unfold Dv.fused
  have hd := dead_any w b r D h
  generalize D.isDead = da at hd ⊢
  have Hd := Lib.hid hd
  generalize hz : (n == 0) = z
  have Hz := Lib.hid hz
  clear h hd
  cases da
  · go_enter Try.func16, Try.ntmps16
    go_wp2_with (go_at_call 29; refine (Hd.out).mono ?_; rintro e w' ⟨rfl, rfl⟩)
    go_end0
    refine ⟨rfl, ?_, (((But.refl _ _).setCell (by simp) _).setCell (by simp) _).setCell (by simp) _⟩
    exact Hx.out _ _ _
  · go_enter Try.func16, Try.ntmps16
    go_wp2_with (go_at_call 29; refine (Hd.out).mono ?_; rintro e w' ⟨rfl, rfl⟩)
    go_end0
    refine ⟨rfl, ?_, (((But.refl _ _).setCell (by simp) _).setCell (by simp) _).setCell (by simp) _⟩
    exact Hx.out _ _ _

end Go.Proofs.Ytcahhopneobjbaa
