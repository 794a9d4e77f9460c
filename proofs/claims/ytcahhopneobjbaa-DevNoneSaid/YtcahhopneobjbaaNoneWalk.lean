/- DevNone's walk. -/
import Derived.Test.YtcahhopneobjbaaDevE
namespace Go.Proofs.Ytcahhopneobjbaa
open Go.RowKit
theorem devNone_any (w : World) : Calls Try.prog 6 #[] w fun e w' => e = .returned (.bool true) ∧ Below w.heap.size w w' := by
  have Hr := Lib.hid (read_nil w 0)
  have Hf := Lib.hid (fuse_nil w 3)
  have Hb := Lib.hid (begun_any w)
  go_enter Try.func6, Try.ntmps6
  go_wp2_with (with_reducible refine halt_call ?_)
  refine Halted.run (Hr.out.mono ?_); rintro e w' ⟨rfl, rfl⟩
  go_wp2_with (with_reducible refine halt_call ?_)
  refine Halted.run (Hf.out.mono ?_); rintro e w' ⟨rfl, rfl⟩
  go_wp2_with (with_reducible refine halt_call ?_)
  refine Halted.run (Hb.out.mono ?_); rintro e w1 ⟨rfl, hB⟩
  have HB := Lib.hid hB
  clear hB Hr Hf Hb
  have Hl := Lib.hid (len_nil w1); have Hw := Lib.hid (write_nil w1 0 (.slice none 0 0)); have Hfl := Lib.hid (flush_nil w1); have Hlo := Lib.hid (loose_nil w1)
  have Hc := Lib.hid (calls_nil w1); have Hd := Lib.hid (dead_nil w1); have Hcr := Lib.hid (crash_nil w1 (.slice none 0 0))
  go_wp2_with (with_reducible refine halt_call ?_)
  refine Halted.run (Hl.out.mono ?_); rintro e w' ⟨rfl, rfl⟩
  go_wp2_with (with_reducible refine halt_call ?_)
  refine Halted.run (Hw.out.mono ?_); rintro e w' ⟨rfl, rfl⟩
  go_wp2_with (with_reducible refine halt_call ?_)
  refine Halted.run (Hfl.out.mono ?_); rintro e w' ⟨rfl, rfl⟩
  go_wp2_with (with_reducible refine halt_call ?_)
  refine Halted.run (Hlo.out.mono ?_); rintro e w' ⟨rfl, rfl⟩
  go_wp2_with (with_reducible refine halt_call ?_)
  refine Halted.run (Hc.out.mono ?_); rintro e w' ⟨rfl, rfl⟩
  go_wp2_with (with_reducible refine halt_call ?_)
  refine Halted.run (Hd.out.mono ?_); rintro e w' ⟨rfl, rfl⟩
  go_wp2_with (with_reducible refine halt_call ?_)
  refine Halted.run (Hcr.out.mono ?_); rintro e w' ⟨rfl, rfl⟩
  go_wp2
  go_ret
  exact ⟨rfl, HB.out⟩
end Go.Proofs.Ytcahhopneobjbaa
