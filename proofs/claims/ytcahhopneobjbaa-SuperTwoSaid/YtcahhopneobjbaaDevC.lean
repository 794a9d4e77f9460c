/- The device's readers: Clone, Read, Loose. -/
import Derived.Test.YtcahhopneobjbaaDevB
import Derived.Lib.SliceRun
namespace Go.Proofs.Ytcahhopneobjbaa
open Go.RowKit

/-- A slice of whole numbers in blocks from 'B' on. -/
def SlAt (k : IntKind) (B : Nat) (w : World) (v : Value) (xs : List Int) : Prop :=
  ∃ ao cap, v = .slice ao xs.length cap ∧ Rd k w ao xs ∧ xs.length ≤ cap ∧ cap ≤ 9223372036854775807 ∧ (ao = none → cap = 0) ∧ ∀ a, ao = some a → B ≤ a.block
theorem slAt_own {w : World} {base n : Nat} {e : TypeId} {k : IntKind} {v : Value} {xs : List Int} (h : w.ownsRow base e 1 v n (xs.map (Value.int k))) : SlAt k base w v xs := by
  have hl : xs.length = n := by simpa using h.1
  subst hl
  obtain ⟨ao, cap, h1, h2, _, h4, h5, h6⟩ := own_rd h
  rcases h.2 with ⟨hv, hn⟩ | ⟨g, c, cur, hv, hb, hh, q1, q2, q3, q4⟩
  · subst hv
    injection h1 with e1 e2 e3
    subst e1; subst e3
    exact ⟨none, 0, by rw [← e2], h2, h4, by omega, fun _ => rfl, fun a ha => by cases ha⟩
  · subst hv
    injection h1 with e1 e2 e3
    subst e1; subst e3
    exact ⟨_, c, rfl, h2, h4, h5, fun e => by (cases e), fun a ha => (h6 a ha).1⟩

theorem Try.info5 : (Try.prog.info? 5).map (fun i => (i.zero, i.size, i.bytes)) = some (some (.int .u8 0), 1, 1) := by kernel_rfl
theorem Try.info3 : (Try.prog.info? 3).map (fun i => (i.zero, i.size, i.bytes)) = some (some (.int .i64 0), 1, 8) := by kernel_rfl
theorem clone_any (w : World) (ao : Option Addr) (n cap : Nat) (xs : List Int) (hn : n = xs.length) (hrd : Rd .u8 w ao xs) (hc : ao = none → cap = 0) (h63 : xs.length ≤ 140737488355328) :
    Calls Try.prog 34 #[.slice ao n cap] w fun e w' => ∃ v, e = .returned v ∧ SlAt .u8 w.heap.size w' v xs ∧ Below w.heap.size w w' := by
  subst hn
  have hnil := fun W a n c n' c' => Lib.run_eql_slice_nil (P := Try.prog) W _ _ a n c n' c' Try.underlying22
  cases ao with
  | none =>
    have : xs = [] := by
      cases xs with
      | nil => rfl
      | cons y ys => obtain ⟨_, h, _⟩ := hrd 0 (by simp); cases h
    subst this
    have hcap := hc rfl
    subst hcap
    clear hrd hc
    go_enter Try.func34, Try.ntmps34
    go_wp2
    go_ret
    exact ⟨_, rfl, ⟨none, 0, rfl, Rd.nil, by simp, by simp, fun _ => rfl, fun a ha => by cases ha⟩, Below.refl _ _⟩
  | some ad =>
    go_enter Try.func34, Try.ntmps34
    go_wp2_with (with_reducible refine halt_op 7 ?_)
    have hgr : (w.alloc (.cells #[] 5)).ownsRow w.heap.size 5 1 (.slice (some ⟨w.heap.size, 0, none⟩) 0 0) 0 ([].map (Value.int .u8)) :=
      ⟨rfl, .inr ⟨w.heap.size, 0, #[], rfl, Nat.le_refl _, blk_new _ _, Nat.le_refl _, by simp, rfl, rfl⟩⟩
    obtain ⟨i0, hi, hz0, hz1, hz2⟩ := info_parts Try.info5
    refine Halted.run (wpList_append_rd (w.alloc (.cells #[] 5)) rfl (.tmp 5) (.tmp 6) 22 rfl w.heap.size 5 _ .u8 1 Try.underlying22 hi hz0 hz1 hz2 _ 0 [] rfl hgr (some ad) xs.length cap xs rfl (fun e => by cases e) rfl (hrd.below ((Below.refl _ _).alloc (Nat.le_refl _) _)) (by simp [maxLen]; omega) (by omega) (by simp) ?_)
    intro v' w' hv hg
    rw [List.nil_append] at hv
    have hB := below_grown_own ((Below.refl w.heap.size w).alloc (Nat.le_refl _) (.cells #[] 5)) hg (fun k hk => by cases hk; exact Nat.le_refl _)
    have hS := slAt_own hv
    clear hv hg hgr hrd hc hnil hi hz0 hz1 hz2
    go_wp2
    go_ret
    exact ⟨_, rfl, hS, hB⟩

theorem DevAt.rd_now {w : World} {b r : Nat} {D : Dv} (h : DevAt w b r D) {i : Nat} (hi : i < D.n) : Rd .u8 w (some ⟨r, i * 129, none⟩) (D.sec i).now := by
  intro j hj
  refine ⟨_, rfl, ?_⟩
  have ok := h.ok i hi
  rw [Addr.add_mid, h.cs hi (by have := ok.n; omega), secCell_at_now (by have := ok.n; omega)]
  simp [hj]
/-- What Read answers. -/
theorem read_in (w : World) (b r : Nat) (D : Dv) (i : Nat) (h : DevAt w b r D) (hi : i < D.n) :
    Calls Try.prog 25 #[.pointer (some ⟨b, 0, none⟩), .int .i64 i] w fun e w' => ∃ v, e = .returned (.tuple #[v, .int .i64 0]) ∧ SlAt .u8 w.heap.size w' v (D.sec i).now ∧ Below w.heap.size w w' := by
  have c0 := h.c0
  have hat := at_any w b r D i h
  have hz : D.atErr i = 0 := by unfold Dv.atErr; rw [if_pos ⟨by omega, by omega⟩]
  rw [hz] at hat
  have ok := h.ok i hi
  have hcl := clone_any w (some ⟨r, i * 129, none⟩) 64 64 _ ok.n.symm (h.rd_now hi) (fun e => by cases e) (by rw [ok.n]; omega)
  have h2 := h.h2
  have Ha := Lib.hid hat; have Hc := Lib.hid hcl
  clear hz hat hcl ok h
  go_enter Try.func25, Try.ntmps25
  go_wp2_with (with_reducible refine halt_call ?_)
  refine Halted.run (Ha.out.mono ?_); rintro e w' ⟨rfl, rfl⟩
  go_wp2_with (with_reducible refine halt_call ?_)
  refine Halted.run (Hc.out.mono ?_); rintro e w' ⟨v, rfl, hv, hB⟩
  have Hv := Lib.hid hv; have HB := Lib.hid hB
  clear hv hB
  go_wp2
  go_ret2
  exact ⟨_, rfl, Hv.out, HB.out⟩
theorem read_out (w : World) (b r : Nat) (D : Dv) (i : Int) (h : DevAt w b r D) (hi : ¬ (0 ≤ i ∧ i < D.n)) :
    Calls Try.prog 25 #[.pointer (some ⟨b, 0, none⟩), .int .i64 i] w fun e w' => e = .returned (.tuple #[.slice none 0 0, .int .i64 3]) ∧ w = w' := by
  have hat := at_any w b r D i h
  have hz : D.atErr i = 3 := by unfold Dv.atErr; rw [if_neg hi]
  rw [hz] at hat
  have Ha := Lib.hid hat
  clear hz hat h hi
  go_enter Try.func25, Try.ntmps25
  go_wp2_with (with_reducible refine halt_call ?_)
  refine Halted.run (Ha.out.mono ?_); rintro e w' ⟨rfl, rfl⟩
  go_wp2
  go_ret2
  exact ⟨rfl, rfl⟩

/-- The loose ones, up to k. -/
def Dv.looseTo (D : Dv) : Nat → List Int
  | 0 => []
  | k + 1 => if (D.sec k).loose then D.looseTo k ++ [(k : Int)] else D.looseTo k
theorem Dv.looseTo_le (D : Dv) : ∀ k, (D.looseTo k).length ≤ k
  | 0 => by simp [Dv.looseTo]
  | k + 1 => by
    have := D.looseTo_le k
    unfold Dv.looseTo
    split
    · simp; omega
    · omega
theorem loose_any (w : World) (b r : Nat) (D : Dv) (h : DevAt w b r D) :
    Calls Try.prog 22 #[.pointer (some ⟨b, 0, none⟩)] w fun e w' => ∃ v, e = .returned v ∧ SlAt .i64 w.heap.size w' v (D.looseTo D.n) ∧ Below w.heap.size w w' := by
  have c0 := h.c0
  have h2 := h.h2
  have H := Lib.hid h
  obtain ⟨i0, hi, hz0, hz1, hz2⟩ := info_parts Try.info3
  have Hi := Lib.hid hi; have Hz0 := Lib.hid hz0; have Hz1 := Lib.hid hz1; have Hz2 := Lib.hid hz2
  clear h hi hz0 hz1 hz2
  go_enter Try.func22, Try.ntmps22
  go_wp2
  go_loopw [3, 12] (fun v i wx => ∃ j : Nat, j ≤ D.n ∧ i = .int .i64 j ∧ wx.ownsRow w.heap.size 3 1 v (D.looseTo j).length ((D.looseTo j).map (Value.int .i64)) ∧ Below w.heap.size w wx) (fun _ i _ => D.n - (intOf i).toNat)
  case atStart => exact ⟨0, by omega, rfl, World.ownsRow_nil _ _ _ _, Below.refl _ _⟩
  case round =>
    clear c0
    obtain ⟨j, hjn, rfl, hown, hB⟩ := hrel
    have hd := H.out.below hB
    have hle := D.looseTo_le j
    by_cases hlt : j < D.n
    · have c0 := hd.c0
      have k0 := hd.loose hlt
      have hnx : D.looseTo (j + 1) = if (D.sec j).loose then D.looseTo j ++ [(j : Int)] else D.looseTo j := rfl
      cases hz : (D.sec j).loose <;> rw [hz] at k0 hnx
      · have Hown := Lib.hid hown; have HB := Lib.hid hB; have Hx := Lib.hid hnx
        clear hown hB hd hz hnx
        go_wp2
        go_roundw
        case rel => exact ⟨j + 1, by omega, by go_num, by rw [Hx.out]; exact Hown.out, HB.out⟩
        case measure => simp [intOf]; omega
      · have hnx : D.looseTo (j + 1) = D.looseTo j ++ [(j : Int)] := by rw [hnx]; rfl
        have Hown := Lib.hid hown; have HB := Lib.hid hB; have Hx := Lib.hid hnx
        clear hown hB hd hz hnx
        go_wp2_with (with_reducible refine halt_op 26 ?_)
        have hB1 := below_next HB.out (.cells #[.int .i64 j] 3)
        refine Halted.run (wpList_append_rd (wr.alloc (.cells #[.int .i64 j] 3)) rfl (.tmp 23) (.tmp 25) 40 rfl w.heap.size 3 i0 .i64 8 Try.underlying40 Hi.out Hz0.out Hz1.out Hz2.out _ _ _ rfl (World.ownsRow.alloc Hown.out _) (some ⟨wr.heap.size, 0, none⟩) 1 1 [(j : Int)] rfl (fun e => by cases e) rfl (fun i hi => ⟨_, rfl, ?_⟩) (by show _ ≤ 9223372036854775807; omega) (by omega) hB1.size ?_)
        · rw [cell_mark]
          have : i = 0 := by simpa using hi
          subst this; rfl
        intro v' w' hv hg
        have hB2 := below_grown_own hB1 hg (fun k hk => (World.ownsRow.lt Hown.out k hk).1)
        have hl : (D.looseTo (j + 1)).length = (D.looseTo j).length + 1 := by rw [Hx.out]; simp
        rw [← Hx.out, ← hl] at hv
        have Hv := Lib.hid hv; have HB2 := Lib.hid hB2
        clear hv hg hB1 hB2 hl hle
        go_wp2
        go_roundw
        case rel => exact ⟨j + 1, by omega, by go_num, Hv.out, HB2.out⟩
        case measure => simp [intOf]; omega
    · have hjn : j = D.n := by omega
      have HS := Lib.hid (slAt_own hown); have HB := Lib.hid hB
      clear hown hd hB
      go_wp2
      go_ret
      refine ⟨_, rfl, ?_, HB.out⟩
      have := HS.out
      rw [hjn] at this
      exact this
end Go.Proofs.Ytcahhopneobjbaa
