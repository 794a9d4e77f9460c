/- there, Text, Turn, Save, Make. -/
import Derived.Test.YtcahhopneobjbaaSupA
namespace Go.Proofs.Ytcahhopneobjbaa
open Go.RowKit CrcM

theorem there_any (w : World) (b r : Nat) (D : Dv) (i : Int) (h : DevAt w b r D) : Calls Try.prog 30 #[.pointer (some ⟨b, 0, none⟩), .int .i64 i] w fun e w' => e = .returned (.bool (decide (0 ≤ i ∧ i + 1 < D.n))) ∧ w = w' := by
  have hl := len_any w b r D h
  have h2 := h.h2
  have Hl := Lib.hid hl
  clear hl h
  by_cases h0 : 0 ≤ i
  · by_cases h1 : i + 1 < D.n
    · have : decide (0 ≤ i ∧ i + 1 < D.n) = true := by simp; omega
      rw [this]
      clear this
      have h3 : i < D.n - 1 := by omega
      go_enter Try.func30, Try.ntmps30
      go_wp2_with (with_reducible refine halt_call ?_)
      refine Halted.run (Hl.out.mono ?_); rintro e w' ⟨rfl, rfl⟩
      go_wp2
      go_ret
      exact ⟨by first | rfl | simp | (simp; omega), rfl⟩
    · have : decide (0 ≤ i ∧ i + 1 < D.n) = false := by simp; omega
      rw [this]
      clear this
      have h3 : ¬ i < D.n - 1 := by omega
      have h4 : decide (i < D.n - 1) = false := by simp; omega
      go_enter Try.func30, Try.ntmps30
      go_wp2_with (with_reducible refine halt_call ?_)
      refine Halted.run (Hl.out.mono ?_); rintro e w' ⟨rfl, rfl⟩
      go_wp2
      go_ret
      exact ⟨by first | rfl | simp | (simp; omega), rfl⟩
  · have : decide (0 ≤ i ∧ i + 1 < D.n) = false := by simp; omega
    rw [this]
    clear this
    go_enter Try.func30, Try.ntmps30
    go_wp2
    go_ret
    exact ⟨rfl, rfl⟩
theorem there_nil (w : World) (i : Int) : Calls Try.prog 30 #[.pointer none, .int .i64 i] w fun e w' => e = .returned (.bool false) ∧ w = w' := by
  have Hl := Lib.hid (len_nil w)
  by_cases h0 : 0 ≤ i
  · have h4 : decide (i < -1) = false := by simp; omega
    go_enter Try.func30, Try.ntmps30
    go_wp2_with (with_reducible refine halt_call ?_)
    refine Halted.run (Hl.out.mono ?_); rintro e w' ⟨rfl, rfl⟩
    go_wp2
    go_ret
    exact ⟨by first | rfl | simp | (simp; omega), rfl⟩
  · go_enter Try.func30, Try.ntmps30
    go_wp2
    go_ret
    exact ⟨rfl, rfl⟩
theorem text_any (w : World) (s b : Nat) (N : List Nat) (pt slot turn : Int) (xs : List Int) (h : SupAt w s b N pt slot turn xs) :
    Calls Try.prog 21 #[.pointer (some ⟨s, 0, none⟩)] w fun e w' => ∃ v, e = .returned v ∧ SlAt .u8 w.heap.size w' v xs ∧ Below w.heap.size w w' := by
  have hl := h.l
  obtain ⟨ao, cap, h1, h2, h3, _⟩ := h.h
  have c4 := blk_cell h1 4
  rw [show (#[.pointer (some ⟨b, 0, none⟩), .int .i64 pt, .int .i64 slot, .int .i64 turn, .slice ao xs.length cap] : Array Value)[4]? = some (.slice ao xs.length cap) from rfl] at c4
  have Hc := Lib.hid (clone_any w ao xs.length cap xs rfl h2 h3 (by omega))
  clear h h1 h2 h3
  go_enter Try.func21, Try.ntmps21
  go_wp2_with (with_reducible refine halt_call ?_)
  refine Halted.run (Hc.out.mono ?_); rintro e w' ⟨v, rfl, hv, hB⟩
  have Hv := Lib.hid hv; have HB := Lib.hid hB
  clear hv hB
  go_wp2
  go_ret
  exact ⟨_, rfl, Hv.out, HB.out⟩
theorem text_nil (w : World) : Calls Try.prog 21 #[.pointer none] w fun e w' => e = .returned (.slice none 0 0) ∧ w = w' := by
  go_enter Try.func21, Try.ntmps21
  go_wp2
  go_ret
  exact ⟨rfl, rfl⟩
theorem turn_any (w : World) (s b : Nat) (N : List Nat) (pt slot turn : Int) (xs : List Int) (h : SupAt w s b N pt slot turn xs) :
    Calls Try.prog 18 #[.pointer (some ⟨s, 0, none⟩)] w fun e w' => e = .returned (.int .i64 turn) ∧ w = w' := by
  have c3 := h.c3
  clear h
  go_enter Try.func18, Try.ntmps18
  go_wp2
  go_ret
  exact ⟨rfl, rfl⟩
theorem turn_nil (w : World) : Calls Try.prog 18 #[.pointer none] w fun e w' => e = .returned (.int .i64 0) ∧ w = w' := by
  go_enter Try.func18, Try.ntmps18
  go_wp2
  go_ret
  exact ⟨rfl, rfl⟩
theorem save_nil (w : World) (v : Value) : Calls Try.prog 17 #[.pointer none, v] w fun e w' => e = .returned (.int .i64 10) ∧ w = w' := by
  go_enter Try.func17, Try.ntmps17
  go_wp2
  go_ret
  exact ⟨rfl, rfl⟩
theorem save_long (w : World) (s : Nat) (ao : Option Addr) (m cap : Nat) (h : 40 < m) : Calls Try.prog 17 #[.pointer (some ⟨s, 0, none⟩), .slice ao m cap] w fun e w' => e = .returned (.int .i64 1) ∧ w = w' := by
  go_enter Try.func17, Try.ntmps17
  go_wp2
  go_ret
  exact ⟨rfl, rfl⟩
set_option maxHeartbeats 1000000 in
theorem save_any (w : World) (s b r : Nat) (N : List Nat) (pt slot turn : Int) (xs : List Int) (ao : Option Addr) (m cap : Nat) (ys : List Int) (D : Dv)
    (hs : SupAt w s b N pt slot turn xs) (hd : DevAt w b r D) (hf : Fit D) (hc : D.calls < 900000) (hN : ∀ k, k ∈ [b, r, s] → k ∈ N) (hlt : ∀ k, k ∈ N → k < w.heap.size)
    (hp0 : 0 ≤ pt) (hp1 : pt + 1 < D.n) (hs0 : 0 ≤ slot) (hs1 : slot ≤ 1) (hn0 : 0 ≤ turn) (hn1 : turn < 900000)
    (hm : m = ys.length) (h40 : ys.length ≤ 40) (hrd : Rd .u8 w ao ys) (hby : Byt ys) (hao : ∀ a, ao = some a → ys ≠ [] → a.block ∉ N) (hcn : ao = none → cap = 0) (hmc : m ≤ cap) :
    Calls Try.prog 17 #[.pointer (some ⟨s, 0, none⟩), .slice ao m cap] w (WrPost w s b r N pt slot turn xs (1 - slot) (turn + 1) ys D) := by
  subst hm
  have hw := write_sup w.drew s b r N pt slot turn xs (1 - slot) (turn + 1) ao ys.length cap ys D (hs.below (Below.refl _ _).drew) hd.drew hf hc hN hlt hp0 hp1 (by omega) (by omega) (by omega) (by omega) rfl h40 (hrd.below (Below.refl _ _).drew) hby hao hcn hmc
  have hw := hw.mono (R' := fun e w' => ∃ q : Int, e = .returned (.int .i64 q) ∧ WrPost w s b r N pt slot turn xs (1 - slot) (turn + 1) ys D (.returned (.int .i64 q)) w') (by
    rintro e w' ⟨hb, hp⟩
    have hb : But [b, r, s] w w' := ⟨hb.os, hb.tape, hb.output, hb.size, hb.block⟩
    rcases hp with ⟨h1, rfl, h2⟩ | ⟨h1, h2, rfl, h3⟩ | ⟨h1, h2, rfl, h3⟩
    · exact ⟨_, rfl, hb, .inl ⟨h1, rfl, h2⟩⟩
    · exact ⟨_, rfl, hb, .inr (.inl ⟨h1, h2, rfl, h3⟩)⟩
    · exact ⟨_, rfl, hb, .inr (.inr ⟨h1, h2, rfl, h3⟩)⟩)
  have hk := hs.below (Below.refl w.heap.size w).drew
  have k2 := hk.c2; have k3 := hk.c3
  have Hw := Lib.hid hw
  clear hs hd hf hc hN hlt hrd hby hao hcn hw hk
  go_enter Try.func17, Try.ntmps17
  have hw1 : IntKind.i64.wrap (1 - slot) = 1 - slot := by rw [IntKind.wrap_i64]; omega
  have hw2 : IntKind.i64.wrap (turn + 1) = turn + 1 := by rw [IntKind.wrap_i64]; omega
  clear hp1
  go_wp2
  go_region_with (first | (go_at_call 31; with_reducible refine (Hw.out).mono ?_; rintro e w6 ⟨q, rfl, hp⟩))
  all_goals go_wp2
  all_goals go_ret
  all_goals exact hp
end Go.Proofs.Ytcahhopneobjbaa
