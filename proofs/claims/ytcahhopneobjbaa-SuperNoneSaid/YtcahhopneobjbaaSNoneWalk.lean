/- SuperNone's walk. -/
import Derived.Test.YtcahhopneobjbaaSupF
namespace Go.Proofs.Ytcahhopneobjbaa
open Go.RowKit CrcM
theorem superNone_any (w : World) : Calls Try.prog 10 #[] w fun e w' => e = .returned (.bool true) ∧ Below w.heap.size w w' := by
  have hnew := new_is 2 w
  obtain ⟨i0, hi, hz0, hz1, hz2⟩ := info_parts Try.info5
  have hmk := fun W => run_make (P := Try.prog) W 22 5 i0 (.int .u8 0) Try.underlying22 hi hz0 .i64 .i64 41 41 (by omega) (by omega) (by rw [hz2]; omega) (by omega)
  have Hn := Lib.hid hnew
  clear hnew hi hz0 hz1 hz2
  generalize madeCells (Value.int .u8 0).cells ((41 : Int).toNat * i0.size) = C at hmk
  go_enter Try.func10, Try.ntmps10
  go_wp2_with (with_reducible refine halt_call ?_)
  refine Halted.run (Hn.out.mono ?_); rintro e w1 ⟨b, r, rfl, _, _, _, hB1⟩
  have hml := make_long (w1.alloc (.cells C 5)) (.pointer (some ⟨b, 0, none⟩)) 0 (some ⟨w1.heap.size, 0, none⟩) 41 41 (by omega)
  have Hml := Lib.hid hml; have HB1 := Lib.hid (below_next hB1 (.cells C 5))
  clear hml hB1 Hn
  go_wp2_with (with_reducible refine halt_call ?_)
  refine Halted.run (Hml.out.mono ?_); rintro e w' ⟨rfl, rfl⟩
  have Hop := Lib.hid (open_nil (w1.alloc (.cells C 5)) 0); have Hbe := Lib.hid (begun21_any (w1.alloc (.cells C 5)))
  clear Hml
  generalize w1.alloc (.cells C 5) = w2 at *
  go_wp2_with (with_reducible refine halt_call ?_)
  refine Halted.run (Hop.out.mono ?_); rintro e w' ⟨rfl, rfl⟩
  go_wp2_with (with_reducible refine halt_call ?_)
  refine Halted.run (Hbe.out.mono ?_); rintro e w3 ⟨rfl, hB3⟩
  have Hs := Lib.hid (save_nil w3 (.slice none 0 0)); have Ht := Lib.hid (text_nil w3); have Hu := Lib.hid (turn_nil w3); have HB3 := Lib.hid (below_step HB1.out hB3)
  clear Hop Hbe hB3 HB1
  go_wp2_with (with_reducible refine halt_call ?_)
  refine Halted.run (Hs.out.mono ?_); rintro e w' ⟨rfl, rfl⟩
  go_wp2_with (with_reducible refine halt_call ?_)
  refine Halted.run (Ht.out.mono ?_); rintro e w' ⟨rfl, rfl⟩
  go_wp2_with (with_reducible refine halt_call ?_)
  refine Halted.run (Hu.out.mono ?_); rintro e w' ⟨rfl, rfl⟩
  go_wp2
  go_ret
  exact ⟨rfl, HB3.out⟩
end Go.Proofs.Ytcahhopneobjbaa
