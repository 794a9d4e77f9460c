/- One text: begun; no scopes. -/
import Derived.Test.YtjobdofnehajpaaScF
namespace Go.Proofs.Ytjobdofnehajpaa
open Go.RowKit

def X : ByteArray := { data := #[120] }
theorem look_self (s : ByteArray) (d : Dc) (m : Mp) : look ((s, d) :: m) s = some d := by
  have : (s == s) = true := by simp [MapKept.bytes_beq]
  simp [look, this]
theorem cellsD (d1 d2 d3 : Int) : (Dc.mk d1 d2 d3).v = .agg #[.int .i64 d1, .int .i64 d2, .int .i64 d3] := rfl
theorem add_new (w : World) (s : Nat) (F : Nat → Prop) (ms : List Mp) (m : Mp) (name : ByteArray) (d1 d2 d3 : Int) (h : ScAt w s F (ms ++ [m])) (hlen : ms.length < 100000) (hl : look m name = none) :
    Calls Try.prog 12 #[.pointer (some ⟨s, 0, none⟩), .string name, .agg #[.int .i64 d1, .int .i64 d2, .int .i64 d3]] w fun e w' => e = .returned (.bool true) ∧ ScAt w' s F (ms ++ [m ++ [(name, ⟨d1, d2, d3⟩)]]) ∧ Fo F w w' := by
  have := add_any w s F ms m name ⟨d1, d2, d3⟩ h hlen
  rw [hl] at this
  exact this
theorem add_old (w : World) (s : Nat) (F : Nat → Prop) (ms : List Mp) (m : Mp) (name : ByteArray) (d1 d2 d3 : Int) (d : Dc) (h : ScAt w s F (ms ++ [m])) (hlen : ms.length < 100000) (hl : look m name = some d) :
    Calls Try.prog 12 #[.pointer (some ⟨s, 0, none⟩), .string name, .agg #[.int .i64 d1, .int .i64 d2, .int .i64 d3]] w fun e w' => e = .returned (.bool false) ∧ ScAt w' s F (ms ++ [m]) ∧ Fo F w w' := by
  have := add_any w s F ms m name ⟨d1, d2, d3⟩ h hlen
  rw [hl] at this
  exact this
theorem here_is (w : World) (s : Nat) (F : Nat → Prop) (ms : List Mp) (m : Mp) (name : ByteArray) (d1 d2 d3 : Int) (is : Bool) (h : ScAt w s F (ms ++ [m])) (hlen : ms.length < 100000) (hl : (look m name).getD Dc.z = ⟨d1, d2, d3⟩) (hi : (look m name).isSome = is) :
    Calls Try.prog 14 #[.pointer (some ⟨s, 0, none⟩), .string name] w fun e w' => e = .returned (.tuple #[.agg #[.int .i64 d1, .int .i64 d2, .int .i64 d3], .bool is]) ∧ Below w.heap.size w w' := by
  have := here_any w s F ms m name h hlen
  rw [hl, hi] at this
  exact this
theorem find_is (w : World) (s : Nat) (F : Nat → Prop) (ms : List Mp) (name : ByteArray) (d1 d2 d3 : Int) (is : Bool) (h : ScAt w s F ms) (hlen : ms.length < 100000) (hl : (findD ms name).getD Dc.z = ⟨d1, d2, d3⟩) (hi : (findD ms name).isSome = is) :
    Calls Try.prog 13 #[.pointer (some ⟨s, 0, none⟩), .string name] w fun e w' => e = .returned (.tuple #[.agg #[.int .i64 d1, .int .i64 d2, .int .i64 d3], .bool is]) ∧ Below w.heap.size w w' := by
  have := find_any w s F ms name h hlen
  rw [hl, hi] at this
  exact this
/-- A block of three numbers that the call laid. -/
theorem tri_cells {w : World} {b : Nat} {d1 d2 d3 : Int} {t : TypeId} (h : w.heap[b]? = some (.cells #[.int .i64 d1, .int .i64 d2, .int .i64 d3] t (0, 0))) :
    w.cell? ⟨b, 0, none⟩ = some (.int .i64 d1) ∧ w.cell? ⟨b, 1, none⟩ = some (.int .i64 d2) ∧ w.cell? ⟨b, 2, none⟩ = some (.int .i64 d3) := ⟨blk_cell h 0, blk_cell h 1, blk_cell h 2⟩
theorem below_lay {w0 w w1 : World} (h0 : Below w0.heap.size w0 w) (h : Below w.heap.size w w1) (o : Obj) : Below w0.heap.size w0 (w1.alloc o) := (below_step h0 h).alloc (below_step h0 h).size _
set_option maxHeartbeats 2000000 in
theorem begun_any (w : World) : Calls Try.prog 7 #[] w fun e w' => e = .returned (.bool true) ∧ Below w.heap.size w w' := by
  have Hn := Lib.hid (new_any w)
  have hX : ({ data := #[120] } : ByteArray) = X := rfl
  go_enter Try.func7, Try.ntmps7
  rw [hX]
  clear hX
  go_wp2_with (with_reducible refine halt_call ?_)
  refine Halted.run (Hn.out.mono ?_); rintro e w1 ⟨s, rfl, hs, h1, b1⟩
  have Ha := Lib.hid (add_new w1 s _ [] [] X 0 1 0 h1 (by decide) rfl); have B1 := Lib.hid b1
  clear h1 b1 Hn
  go_wp2_with (with_reducible refine halt_call ?_)
  refine Halted.run (Ha.out.mono ?_); rintro e w2 ⟨rfl, h2, f2⟩
  have B2 := Lib.hid (Fo.below B1.out f2 (fun k hk => hk)); have Hp := Lib.hid (push_any w2 s _ _ h2 (by decide) (fun k hk => by have := f2.size; have := B1.out.size; omega))
  clear h2 f2 Ha B1
  go_wp2_with (with_reducible refine halt_call ?_)
  refine Halted.run (Hp.out.mono ?_); rintro e w3 ⟨rfl, h3, f3⟩
  have B3 := Lib.hid (Fo.below B2.out f3 (fun k hk => hk)); have Hh := Lib.hid (here_is w3 s _ _ [] X 0 0 0 false h3 (by decide) rfl rfl); have H3 := Lib.hid h3
  clear h3 f3 Hp B2
  go_wp2_with (with_reducible refine halt_call ?_)
  refine Halted.run (Hh.out.mono ?_); rintro e w4 ⟨rfl, b4⟩
  have b4' : Below w3.heap.size w3 (w4.alloc (.cells #[.int .i64 0, .int .i64 0, .int .i64 0] 34)) := b4.alloc b4.size _
  have B4 := Lib.hid (below_lay B3.out b4 (.cells #[.int .i64 0, .int .i64 0, .int .i64 0] 34)); have H4 := Lib.hid (H3.out.below b4')
  have Ha := Lib.hid (add_new _ s _ [_] [] X 0 2 0 H4.out (by decide) rfl)
  clear Hh b4 b4' H3 B3 H4
  go_wp2_with (with_reducible refine halt_call ?_)
  refine Halted.run (Ha.out.mono ?_); rintro e w5 ⟨rfl, h5, f5⟩
  have B5 := Lib.hid (Fo.below B4.out f5 (fun k hk => hk)); have Ha2 := Lib.hid (add_old w5 s _ [_] [_] X 0 3 0 _ h5 (by decide) (look_self _ _ _))
  clear h5 f5 Ha B4
  go_wp2_with (with_reducible refine halt_call ?_)
  refine Halted.run (Ha2.out.mono ?_); rintro e w6 ⟨rfl, h6, f6⟩
  have hf : findD ([[] ++ [(X, ⟨0, 1, 0⟩)]] ++ [[(X, ⟨0, 2, 0⟩)]]) X = some ⟨0, 2, 0⟩ := by rw [findD_snoc, look_self]; rfl
  have B6 := Lib.hid (Fo.below B5.out f6 (fun k hk => hk)); have Hf := Lib.hid (find_is w6 s _ _ X 0 2 0 true h6 (by decide) (by rw [hf]; rfl) (by rw [hf]; rfl)); have H6 := Lib.hid h6
  clear h6 f6 Ha2 B5 hf
  go_wp2_with (with_reducible refine halt_call ?_)
  refine Halted.run (Hf.out.mono ?_); rintro e w7 ⟨rfl, b7⟩
  have b7' : Below w6.heap.size w6 (w7.alloc (.cells #[.int .i64 0, .int .i64 2, .int .i64 0] 34)) := b7.alloc b7.size _
  have B7 := Lib.hid (below_lay B6.out b7 (.cells #[.int .i64 0, .int .i64 2, .int .i64 0] 34)); have H7 := Lib.hid (((H6.out.below b7).mono (F' := fun k => k < w.heap.size ∨ k = w7.heap.size) (fun k hk => hk.imp id (fun e => by omega))).below ((Below.refl _ _).alloc (Nat.le_refl _) (.cells #[.int .i64 0, .int .i64 2, .int .i64 0] 34)))
  have Z7 := Lib.hid (blk_new w7 (.cells #[.int .i64 0, .int .i64 2, .int .i64 0] 34))
  have g7 : w7.heap.size < (w7.alloc (.cells #[.int .i64 0, .int .i64 2, .int .i64 0] 34)).heap.size := by simp
  have s7 : w.heap.size ≤ w7.heap.size := (below_step B6.out b7).size
  have Hp := Lib.hid (pop_any _ s _ [_] [_] H7.out (by simp) (by decide))
  clear Hf b7 b7' H6 B6 H7
  go_wp2_with (with_reducible refine halt_call ?_)
  refine Halted.run (Hp.out.mono ?_); rintro e w8 ⟨rfl, h8, f8⟩
  have B8 := Lib.hid (Fo.below B7.out f8 (fun k hk => .inl hk)); have Z8 := Lib.hid ((f8.block _ g7 (.inr rfl)).trans Z7.out)
  have Hp2 := Lib.hid (pop_one w8 s _ _ h8 (by decide))
  have hf : findD ([([] ++ [(X, ⟨0, 1, 0⟩)] : Mp)]) X = some ⟨0, 1, 0⟩ := rfl
  have Hf := Lib.hid (find_is w8 s _ _ X 0 1 0 true h8 (by decide) (by rw [hf]; rfl) (by rw [hf]; rfl)); have H8 := Lib.hid h8
  clear h8 f8 Hp B7 Z7 g7 hf
  go_wp2_with (with_reducible refine halt_call ?_)
  refine Halted.run (Hp2.out.mono ?_); rintro e w' ⟨rfl, rfl⟩
  go_wp2_with (with_reducible refine halt_call ?_)
  refine Halted.run (Hf.out.mono ?_); rintro e w9 ⟨rfl, b9⟩
  have B9 := Lib.hid (below_lay B8.out b9 (.cells #[.int .i64 0, .int .i64 1, .int .i64 0] 34)); have H9 := Lib.hid ((H8.out.below b9).below ((Below.refl _ _).alloc (Nat.le_refl _) (.cells #[.int .i64 0, .int .i64 1, .int .i64 0] 34)))
  have Z9 := Lib.hid (blk_new w9 (.cells #[.int .i64 0, .int .i64 1, .int .i64 0] 34))
  have l7 : w7.heap.size < w8.heap.size := World.block_lt_of_cell? _ _ (tri_cells Z8.out).1
  have Y9 := Lib.hid ((b9.block _ l7).trans Z8.out)
  have l9 : w7.heap.size < w9.heap.size := by have := b9.size; omega
  have Hd := Lib.hid (deep_any _ s _ _ H9.out)
  clear Hp2 Hf H8 B8 Z8 b9 l7
  obtain ⟨q0, q1, q2⟩ := tri_cells Y9.out
  go_wp2_with (with_reducible refine halt_call ?_)
  refine Halted.run (Hd.out.mono ?_); rintro e w' ⟨rfl, rfl⟩
  go_wp2
  go_ret
  exact ⟨rfl, B9.out⟩
theorem add_nil (w : World) (name : ByteArray) (d1 d2 d3 : Int) : Calls Try.prog 12 #[.pointer none, .string name, .agg #[.int .i64 d1, .int .i64 d2, .int .i64 d3]] w fun e w' => e = .returned (.bool false) ∧ Below w.heap.size w w' := by
  have H3 := Lib.hid here_nil; have H5 := Lib.hid deep_nil
  go_enter Try.func12, Try.ntmps12
  go_wp2_with (with_reducible refine halt_call ?_)
  refine Halted.run ((H3.out _ name).mono ?_); rintro e w1 ⟨rfl, b1⟩
  have B1 := Lib.hid (below_lay (below_step ((Below.refl _ _).alloc (Nat.le_refl _) _) b1) (Below.refl _ _) (.cells #[.int .i64 0, .int .i64 0, .int .i64 0] 34))
  clear b1
  rw [show Dc.z.v = .agg #[.int .i64 0, .int .i64 0, .int .i64 0] from rfl]
  go_wp2_with (with_reducible refine halt_call ?_)
  refine Halted.run ((H5.out _).mono ?_); rintro e w' ⟨rfl, rfl⟩
  go_wp2
  all_goals go_ret
  all_goals exact ⟨rfl, B1.out⟩
theorem none_any (w : World) : Calls Try.prog 5 #[] w fun e w' => e = .returned (.bool true) ∧ Below w.heap.size w w' := by
  have Hb := Lib.hid (begun_any); have H1 := Lib.hid push_nil; have H2 := Lib.hid find_nil; have H3 := Lib.hid here_nil; have H4 := Lib.hid pop_nil; have H5 := Lib.hid deep_nil
  have hX : ({ data := #[120] } : ByteArray) = X := rfl
  go_enter Try.func5, Try.ntmps5
  rw [hX]
  clear hX
  go_wp2_with (with_reducible refine halt_call ?_)
  refine Halted.run ((H1.out _).mono ?_); rintro e w' ⟨rfl, rfl⟩
  go_wp2_with (with_reducible refine halt_call ?_)
  refine Halted.run ((H2.out _ X).mono ?_); rintro e w1 ⟨rfl, b1⟩
  have B1 := Lib.hid (below_lay (Below.refl _ _) b1 (.cells #[.int .i64 0, .int .i64 0, .int .i64 0] 34))
  clear b1
  rw [show Dc.z.v = .agg #[.int .i64 0, .int .i64 0, .int .i64 0] from rfl]
  go_wp2_with (with_reducible refine halt_call ?_)
  refine Halted.run ((H3.out _ X).mono ?_); rintro e w2 ⟨rfl, b2⟩
  have B2 := Lib.hid (below_lay B1.out b2 (.cells #[.int .i64 0, .int .i64 0, .int .i64 0] 34))
  clear b2 B1
  rw [show Dc.z.v = .agg #[.int .i64 0, .int .i64 0, .int .i64 0] from rfl]
  go_wp2_with (with_reducible refine halt_call ?_)
  refine Halted.run ((Hb.out _).mono ?_); rintro e w3 ⟨rfl, b3⟩
  have B3 := Lib.hid (below_step B2.out b3)
  clear b3 B2
  go_wp2_with (with_reducible refine halt_call ?_)
  refine Halted.run ((H4.out _).mono ?_); rintro e w' ⟨rfl, rfl⟩
  have H6 := Lib.hid (add_nil w3 X 0 0 0)
  go_wp2_with (with_reducible refine halt_call ?_)
  refine Halted.run (H6.out.mono ?_); rintro e w4 ⟨rfl, b4⟩
  have B4 := Lib.hid (below_step B3.out b4)
  clear b4 B3 H6
  go_wp2_with (with_reducible refine halt_call ?_)
  refine Halted.run ((H5.out _).mono ?_); rintro e w' ⟨rfl, rfl⟩
  go_wp2
  go_ret
  exact ⟨rfl, B4.out⟩
end Go.Proofs.Ytjobdofnehajpaa
