/- The walk of CrcMany. -/
import Derived.Test.YtfdfkcapgjijiaaLeaf
namespace Go.Proofs.Ytfdfkcapgjijiaa
open Go.RowKit CrcM

set_option maxHeartbeats 1600000 in
theorem crcMany_walk (ao bo : Option Addr) (n m ca cb : Nat) (xs zs : List Int) (w : World) (hn : n = xs.length) (hm : m = zs.length) (hna : n ≤ ca) (_hnb : m ≤ cb)
    (hca : ca ≤ 9223372036854775807) (_hcb : cb ≤ 9223372036854775807) (ba : Byt xs) (ra : Rd .u8 w ao xs) (rb : Rd .i64 w bo zs) :
    Calls Try.prog 7 #[.slice ao n ca, .slice bo m cb] w fun e w' => e = .returned (.bool true) ∧ Below w.heap.size w w' := by
  have Hn := Lib.hid hn; have Hm := Lib.hid hm; clear hn hm
  have Ba := Lib.hid ba; have Ra := Lib.hid ra; have Rb := Lib.hid rb; clear ba ra rb
  go_enter Try.func7, Try.ntmps7
  go_wp2_with fail
  refine (begun_any _).mono ?_
  rintro e w1 ⟨rfl, hB1⟩
  go_wp2_with fail
  refine (short_any _ _ _ _ _ hna hca (by omega) (by omega)).mono ?_
  rintro e w' ⟨rfl, rfl⟩
  rw [show (300 : Int).toNat = 300 from rfl]
  generalize hn' : min n 300 = n'
  have hl1 : n' ≤ 300 := by omega
  have hl2 : n' ≤ ca := by omega
  have Hl : Hid (n' = (xs.take n').length) := Lib.hid (by rw [List.length_take]; have := Hn.out; omega)
  have B := Lib.hid (Ba.out.take n')
  have R := Lib.hid ((Ra.out.take n').below hB1)
  have Z := Lib.hid (Rb.out.below hB1)
  have HB := Lib.hid hB1
  clear hn' Ba Ra Rb Hn hB1
  generalize xs.take n' = ys at *
  go_wp2_with fail
  go_loop [6, 7, 8] (fun s p i => ∃ (q j : Nat), q ≤ n' ∧ j ≤ 40 ∧ j ≤ m ∧ p = .int .i64 q ∧ i = .int .i64 j ∧ s = .int .u32 (V (sum (ys.take q)))) (fun _ _ i => 40 - (intOf i).toNat)
  case atStart => exact ⟨0, 0, by omega, by omega, by omega, rfl, rfl, by rw [List.take_zero, nought]; rfl⟩
  case round =>
    obtain ⟨q, j, hq, hj, hjm, rfl, rfl, rfl⟩ := hrel
    obtain ⟨A, hif, hq'⟩ : ∃ A, (if ca = q then ao else ao.map (·.add q)) = A ∧ (ca = q ∧ A = ao ∨ ¬ ca = q ∧ A = ao.map (·.add q)) := by
      by_cases h : ca = q
      · exact ⟨_, if_pos h, .inl ⟨h, rfl⟩⟩
      · exact ⟨_, if_neg h, .inr ⟨h, rfl⟩⟩
    have HR : Hid (Rd .u8 w1 A (ys.drop q)) := Lib.hid (by rw [← hif]; exact R.out.drop (by have := Hl.out; omega) q)
    clear hif
    have hcs : q = ca ∧ A = ao ∨ ¬ ca = q ∧ A = ao.map (·.add q) := hq'.imp (fun h => ⟨h.1.symm, h.2⟩) id
    clear hq'
    rcases hcs with ⟨rfl, rfl⟩ | ⟨hcq, rfl⟩
    all_goals
      by_cases hin : j < 40 ∧ j < m
      · obtain ⟨h40, hmm⟩ := hin
        obtain ⟨a, ha, hcell⟩ := Z.out j (by have := Hm.out; omega)
        generalize zs[j]'(by have := Hm.out; omega) = z at hcell
        subst ha
        have hz0 : -40 < z.tmod 40 := by have := Int.lt_tmod_of_pos z (show (0 : Int) < 40 by omega); omega
        have hz1 : z.tmod 40 < 40 := by have := Int.tmod_lt_of_pos z (show (0 : Int) < 40 by omega); omega
        all_goals go_wp2_with (with_reducible refine halt_op 42 ?_)
        all_goals refine Halted.run ?_
        all_goals
          first
            | (have hlt : z.tmod 40 % 40 < ↑n' - ↑q := by first | assumption | omega
               obtain ⟨d, hd⟩ : ∃ d : Nat, z.tmod 40 % 40 = (d : Int) := Int.eq_ofNat_of_zero_le (by omega)
               have hdq : q + d ≤ n' := by omega
               rw [hd]
               clear hd hlt)
            | (have hlt : ↑n' - ↑q ≤ z.tmod 40 % 40 := by first | assumption | omega
               obtain ⟨d, hd⟩ : ∃ d : Nat, (n' : Int) - (q : Int) = (d : Int) := Int.eq_ofNat_of_zero_le (by omega)
               have hdq : q + d ≤ n' := by omega
               rw [hd]
               clear hd hlt)
        all_goals
          have ht : ((q : Int) + (d : Int)).toNat = q + d := by omega
          have Hs : Hid (V (more (sum (ys.take q)) ((ys.drop q).take d)) = V (sum (ys.take (q + d)))) := Lib.hid (by unfold sum; rw [← more_append, ← List.take_add])
          go_wp2_with (with_reducible refine halt_call ?_)
          refine Halted.run ((more_any _ _ _ ((ys.drop q).take d) _ _ _ rfl (by rw [List.length_take, List.length_drop, ← Hl.out]; omega) (by omega) ((B.out.drop q).take d) (HR.out.take d)).mono ?_)
          rintro e w' ⟨rfl, rfl⟩
          rw [Hs.out]
          go_wp2_with (with_reducible refine halt_call ?_)
          refine Halted.run ((sum_any _ (ys.take (q + d)) _ _ _ (by rw [List.length_take, ← Hl.out]; omega) (by omega) (B.out.take _) (R.out.take _)).mono ?_)
          rintro e w' ⟨rfl, rfl⟩
          have hne : (V (sum (ys.take (q + d))) != V (sum (ys.take (q + d)))) = false := by simp
          go_wp2
          go_round
          case rel => exact ⟨q + d, j + 1, by omega, by omega, by omega, by go_num, by go_num, rfl⟩
          case measure => simp [intOf]; omega
      · have Hs : Hid (V (more (sum (ys.take q)) (ys.drop q)) = V (sum ys)) := Lib.hid (by unfold sum; rw [← more_append, List.take_append_drop])
        by_cases h40 : j < 40
        · have hmm : ¬ j < m := fun h => hin ⟨h40, h⟩
          clear hin
          go_wp2_with (with_reducible refine halt_call ?_)
          refine Halted.run ((more_any _ _ _ (ys.drop q) _ _ _ rfl (by have := Hl.out; simp only [List.length_drop]; omega) (by omega) (B.out.drop q) HR.out).mono ?_)
          rintro e w' ⟨rfl, rfl⟩
          rw [Hs.out]
          go_wp2_with (with_reducible refine halt_call ?_)
          refine Halted.run ((sum_any _ ys _ _ _ Hl.out (by omega) B.out R.out).mono ?_)
          rintro e w' ⟨rfl, rfl⟩
          go_wp2
          go_ret
          exact ⟨by simp, HB.out⟩
        · clear hin
          go_wp2_with (with_reducible refine halt_call ?_)
          all_goals
            refine Halted.run ((more_any _ _ _ (ys.drop q) _ _ _ rfl (by have := Hl.out; simp only [List.length_drop]; omega) (by omega) (B.out.drop q) HR.out).mono ?_)
            rintro e w' ⟨rfl, rfl⟩
            rw [Hs.out]
            go_wp2_with (with_reducible refine halt_call ?_)
            refine Halted.run ((sum_any _ ys _ _ _ Hl.out (by omega) B.out R.out).mono ?_)
            rintro e w' ⟨rfl, rfl⟩
            go_wp2
            go_ret
            exact ⟨by simp, HB.out⟩
end Go.Proofs.Ytfdfkcapgjijiaa
