/- The walk of KindAll. -/
import Derived.Test.YtnpoleeflannjaaBegun
import Derived.Deep.DeepCutAuto
namespace Go.Proofs.Ytnpoleeflannjaa
open Go.RowKit

def good (n : Int) : Bool := decide (0 ≤ n ∧ n ≤ 2)
def may (f t : Int) : Bool := decide (0 ≤ f ∧ 0 ≤ t)
def same (f t f2 t2 : Int) : Bool := (may f t == may f2 t2) && (!may f t || (f == f2 && t == t2))
theorem world_is (n : Int) : (good n = true → wF n = -1 ∧ wT n = n) ∧ (good n = false → wF n = -2 ∧ wT n = 0) := by
  unfold good wF wT
  constructor <;> intro h
  · have h := of_decide_eq_true h
    rw [if_pos h, if_pos h]; exact ⟨rfl, rfl⟩
  · have h := of_decide_eq_false h
    rw [if_neg h, if_neg h]; exact ⟨rfl, rfl⟩
theorem struct_is (f t : Int) : (may f t = true → sF f t = f ∧ sT f t = t ∧ 0 ≤ f) ∧ (may f t = false → sF f t = -2 ∧ sT f t = 0) := by
  unfold may sF sT
  constructor <;> intro h
  · have h := of_decide_eq_true h
    rw [if_pos h, if_pos h]; exact ⟨rfl, rfl, h.1⟩
  · have h := of_decide_eq_false h
    rw [if_neg h, if_neg h]; exact ⟨rfl, rfl⟩
theorem wF_lt (n : Int) : wF n < 0 := by unfold wF; split <;> omega
theorem same_is (f t f2 t2 : Int) : (sF f t == sF f2 t2 && sT f t == sT f2 t2) = same f t f2 t2 := by
  unfold same
  cases h1 : may f t <;> cases h2 : may f2 t2
  · rw [((struct_is f t).2 h1).1, ((struct_is f t).2 h1).2, ((struct_is f2 t2).2 h2).1, ((struct_is f2 t2).2 h2).2]; rfl
  · obtain ⟨e1, e2⟩ := (struct_is f t).2 h1
    obtain ⟨e3, e4, e5⟩ := (struct_is f2 t2).1 h2
    rw [e1, e3]
    have : ((-2 : Int) == f2) = false := by rw [beq_eq_false_iff_ne]; omega
    simp [this]
  · obtain ⟨e1, e2⟩ := (struct_is f2 t2).2 h2
    obtain ⟨e3, e4, e5⟩ := (struct_is f t).1 h1
    rw [e1, e3]
    have : (f == (-2 : Int)) = false := by rw [beq_eq_false_iff_ne]; omega
    simp [this]
  · rw [((struct_is f t).1 h1).1, ((struct_is f t).1 h1).2.1, ((struct_is f2 t2).1 h2).1, ((struct_is f2 t2).1 h2).2.1]; rfl
theorem beq_swap (a b c d : Int) : (a == b && c == d) = (b == a && d == c) := by
  rw [Bool.eq_iff_iff]; simp; omega

set_option maxRecDepth 100000 in
set_option maxHeartbeats 3200000 in
theorem kindAll_walk (n f t f2 t2 : Int) (w : World) :
    Calls Try.prog 3 #[.int .i64 n, .int .i64 f, .int .i64 t, .int .i64 f2, .int .i64 t2] w fun e w' => e = .returned (.bool true) ∧ Below w.heap.size w w' := by
  go_enter Try.func3, Try.ntmps3
  go_wp2_with (with_reducible refine halt_call ?_)
  refine Halted.run ((begun_any _).mono ?_)
  rintro e w1 ⟨rfl, hB1⟩
  go_wp2_with (with_reducible refine halt_call ?_)
  refine Halted.run ((world_any _ _).mono ?_)
  rintro e w2 ⟨rfl, hB2⟩
  go_wp2_with (with_reducible refine halt_call ?_)
  refine Halted.run ((struct_any _ _ _).mono ?_)
  rintro e w3 ⟨rfl, hB3⟩
  go_wp2_with (with_reducible refine halt_call ?_)
  refine Halted.run ((struct_any _ _ _).mono ?_)
  rintro e w4 ⟨rfl, hB4⟩
  have HB : Hid (Below w.heap.size w w4) := Lib.hid (below_step (below_step (below_step hB1 hB2) hB3) hB4)
  clear hB1 hB2 hB3 hB4
  go_upto_region 5 with fail
  have hK := KK.new w4 (wF n) (wT n) (sF f t) (sT f t) (sF f2 t2) (sT f2 t2)
  have hBW := below_next (below_next (below_next HB.out (KO (wF n) (wT n))) (KO (sF f t) (sT f t))) (KO (sF f2 t2) (sT f2 t2))
  generalize hWW : ((w4.alloc (KO (wF n) (wT n))).alloc (KO (sF f t) (sT f t))).alloc (KO (sF f2 t2) (sT f2 t2)) = W at hK hBW ⊢
  generalize w4.heap.size = B at hK ⊢
  clear hWW HB
  go_cut [15] (fun g wx => g = .bool (good n) ∧ wx = W)
  case first =>
    by_cases h0 : 0 ≤ n
    · by_cases h1 : n ≤ 2
      · go_wp2
        go_meet
        exact ⟨by rw [show good n = true from decide_eq_true ⟨h0, h1⟩], rfl⟩
      · go_wp2
        go_meet
        exact ⟨by rw [show good n = false from decide_eq_false (by omega)], rfl⟩
    · go_wp2
      go_meet
      exact ⟨by rw [show good n = false from decide_eq_false (by omega)], rfl⟩
  case rest =>
    obtain ⟨rfl, rfl⟩ := hcut
    have Hw := Lib.hid (world_is n); have Hs := Lib.hid (struct_is f t)
    have Hsame := Lib.hid (same_is f t f2 t2)
    have Hneg := Lib.hid (wF_lt n)
    generalize wF n = a at *
    generalize wT n = b at *
    generalize sF f t = c at *
    generalize sT f t = d at *
    generalize sF f2 t2 = p at *
    generalize sT f2 t2 = q at *
    generalize good n = g at *
    go_upto_region 6 with fail
    go_cut [64] (fun s wx => s = .bool false ∧ KK B a b c d p q wx ∧ Below w.heap.size w wx)
    case first =>
      obtain ⟨k0, k1, k2, k3, k4, k5, k6⟩ := id hK
      cases g
      · obtain ⟨rfl, rfl⟩ := Hw.out.2 rfl
        go_wp2_with (first | (go_at_call 9; refine (is_b _ _ _).mono ?_; rintro e w' ⟨rfl, hb⟩; replace hK := KK.below hK hb; replace hBW := below_step hBW hb; clear hb k0 k1 k2 k3 k4 k5 k6; obtain ⟨k0, k1, k2, k3, k4, k5, k6⟩ := id hK) | (go_at_call 10; refine (fields_b _ _ _).mono ?_; rintro e w' ⟨rfl, hb⟩; replace hK := KK.below hK hb; replace hBW := below_step hBW hb; clear hb k0 k1 k2 k3 k4 k5 k6; obtain ⟨k0, k1, k2, k3, k4, k5, k6⟩ := id hK))
        go_meet
        exact ⟨rfl, hK, hBW⟩
      · obtain ⟨rfl, rfl⟩ := Hw.out.1 rfl
        go_wp2_with (first | (go_at_call 9; refine (is_b _ _ _).mono ?_; rintro e w' ⟨rfl, hb⟩; replace hK := KK.below hK hb; replace hBW := below_step hBW hb; clear hb k0 k1 k2 k3 k4 k5 k6; obtain ⟨k0, k1, k2, k3, k4, k5, k6⟩ := id hK) | (go_at_call 10; refine (fields_b _ _ _).mono ?_; rintro e w' ⟨rfl, hb⟩; replace hK := KK.below hK hb; replace hBW := below_step hBW hb; clear hb k0 k1 k2 k3 k4 k5 k6; obtain ⟨k0, k1, k2, k3, k4, k5, k6⟩ := id hK))
        go_meet
        exact ⟨rfl, hK, hBW⟩
    case rest =>
      obtain ⟨rfl, hK2, hBW2⟩ := hcut
      clear hK hBW Hw
      go_upto_region 8 with fail
      go_cut [16, 17] (fun m1 m2 wx => m1 = .bool (may f t) ∧ m2 = .bool (may f2 t2) ∧ KK B a b c d p q wx ∧ Below w.heap.size w wx)
      case first =>
        by_cases h0 : 0 ≤ f <;> by_cases h1 : 0 ≤ t <;> by_cases h2 : 0 ≤ f2 <;> by_cases h3 : 0 ≤ t2
        all_goals
          go_wp2
          go_meet
          refine ⟨?_, ?_, hK2, hBW2⟩
          · first | rw [show may f t = true from decide_eq_true ⟨h0, h1⟩] | rw [show may f t = false from decide_eq_false (by omega)]
          · first | rw [show may f2 t2 = true from decide_eq_true ⟨h2, h3⟩] | rw [show may f2 t2 = false from decide_eq_false (by omega)]
      case rest =>
        clear hK2 hBW2
        obtain ⟨rfl, rfl, hK2, hBW2⟩ := hcut
        generalize hm1 : may f t = m1 at *
        generalize hm2 : may f2 t2 = m2 at *
        have Hm1 := Lib.hid hm1; have Hm2 := Lib.hid hm2
        clear hm1 hm2
        go_upto_region 9 with fail
        go_cut [101] (fun s wx => s = .bool false ∧ KK B a b c d p q wx ∧ Below w.heap.size w wx)
        case first =>
          obtain ⟨k0, k1, k2, k3, k4, k5, k6⟩ := id hK2
          cases m1
          · obtain ⟨rfl, rfl⟩ := Hs.out.2 rfl
            go_wp2_with (first | (go_at_call 9; refine (is_b _ _ _).mono ?_; rintro e w' ⟨rfl, hb⟩; replace hK2 := KK.below hK2 hb; replace hBW2 := below_step hBW2 hb; clear hb k0 k1 k2 k3 k4 k5 k6; obtain ⟨k0, k1, k2, k3, k4, k5, k6⟩ := id hK2) | (go_at_call 10; refine (fields_b _ _ _).mono ?_; rintro e w' ⟨rfl, hb⟩; replace hK2 := KK.below hK2 hb; replace hBW2 := below_step hBW2 hb; clear hb k0 k1 k2 k3 k4 k5 k6; obtain ⟨k0, k1, k2, k3, k4, k5, k6⟩ := id hK2))
            go_meet
            exact ⟨rfl, hK2, hBW2⟩
          · obtain ⟨rfl, rfl, h0⟩ := Hs.out.1 rfl
            have fn2 : (c != -2) = true := by rw [bne_iff_ne]; omega
            go_wp2_with (first | (go_at_call 9; refine (is_b _ _ _).mono ?_; rintro e w' ⟨rfl, hb⟩; replace hK2 := KK.below hK2 hb; replace hBW2 := below_step hBW2 hb; clear hb k0 k1 k2 k3 k4 k5 k6; obtain ⟨k0, k1, k2, k3, k4, k5, k6⟩ := id hK2) | (go_at_call 10; refine (fields_b _ _ _).mono ?_; rintro e w' ⟨rfl, hb⟩; replace hK2 := KK.below hK2 hb; replace hBW2 := below_step hBW2 hb; clear hb k0 k1 k2 k3 k4 k5 k6; obtain ⟨k0, k1, k2, k3, k4, k5, k6⟩ := id hK2))
            go_meet
            exact ⟨rfl, hK2, hBW2⟩
        case rest =>
          clear hK2 hBW2
          obtain ⟨rfl, hK2, hBW2⟩ := hcut
          go_upto_region 11 with fail
          have Hsd : Hid (same f t f2 t2 = ((m1 == m2) && (!m1 || (f == f2 && t == t2)))) := Lib.hid (by unfold same; rw [Hm1.out, Hm2.out])
          generalize same f t f2 t2 = sm at *
          go_cut [18] (fun s wx => s = .bool sm ∧ KK B a b c d p q wx ∧ Below w.heap.size w wx)
          case first =>
            cases m1 <;> cases m2
            · go_wp2
              go_meet
              exact ⟨by rw [Hsd.out]; rfl, hK2, hBW2⟩
            · go_wp2
              go_meet
              exact ⟨by rw [Hsd.out]; rfl, hK2, hBW2⟩
            · go_wp2
              go_meet
              exact ⟨by rw [Hsd.out]; rfl, hK2, hBW2⟩
            · by_cases e1 : f = f2
              · have e1' : (f == f2) = true := by simp [e1]
                have E1 := Lib.hid e1
                clear e1
                by_cases e2 : t = t2
                · have e2' : (t == t2) = true := by simp [e2]
                  clear e2
                  go_wp2
                  go_meet
                  exact ⟨by rw [Hsd.out, e1', e2']; rfl, hK2, hBW2⟩
                · have e2' : (t == t2) = false := by simp [e2]
                  clear e2
                  go_wp2
                  go_meet
                  exact ⟨by rw [Hsd.out, e1', e2']; rfl, hK2, hBW2⟩
              · have e1' : (f == f2) = false := by simp [e1]
                clear e1
                go_wp2
                go_meet
                exact ⟨by rw [Hsd.out, e1']; rfl, hK2, hBW2⟩
          case rest =>
            clear hK2 hBW2
            obtain ⟨rfl, hK2, hBW2⟩ := hcut
            obtain ⟨k0, k1, k2, k3, k4, k5, k6⟩ := id hK2
            go_wp2_with (with_reducible refine halt_call ?_)
            refine Halted.run ((eq_b _ _ _ _ _).mono ?_)
            rintro e w' ⟨rfl, hb⟩
            rw [Hsame.out]
            replace hK2 := KK.below hK2 hb; replace hBW2 := below_step hBW2 hb; clear hb k0 k1 k2 k3 k4 k5 k6; obtain ⟨k0, k1, k2, k3, k4, k5, k6⟩ := id hK2
            go_wp2_with (with_reducible refine halt_call ?_)
            refine Halted.run ((eq_b _ _ _ _ _).mono ?_)
            rintro e w' ⟨rfl, hb⟩
            rw [beq_swap, Hsame.out]
            replace hK2 := KK.below hK2 hb; replace hBW2 := below_step hBW2 hb; clear hb k0 k1 k2 k3 k4 k5 k6; obtain ⟨k0, k1, k2, k3, k4, k5, k6⟩ := id hK2
            go_wp2_with (with_reducible refine halt_call ?_)
            refine Halted.run ((eq_b _ _ _ _ _).mono ?_)
            rintro e w' ⟨rfl, hb⟩
            replace hK2 := KK.below hK2 hb; replace hBW2 := below_step hBW2 hb; clear hb k0 k1 k2 k3 k4 k5 k6; obtain ⟨k0, k1, k2, k3, k4, k5, k6⟩ := id hK2
            have eaa : (a == a && b == b) = true := by simp
            cases m1
            · go_wp2_with (with_reducible refine halt_call ?_)
              refine Halted.run ((none_b _).mono ?_)
              rintro e w' ⟨rfl, hb⟩
              replace hK2 := KK.below hK2 hb; replace hBW2 := below_step hBW2 hb; clear hb k0 k1 k2 k3 k4 k5 k6; obtain ⟨k0, k1, k2, k3, k4, k5, k6⟩ := id hK2
              go_wp2_with (with_reducible refine halt_call ?_)
              refine Halted.run ((world_any _ _).mono ?_)
              rintro e w' ⟨rfl, hb⟩
              rw [show wF 3 = -2 from rfl, show wT 3 = 0 from rfl]
              replace hK2 := KK.below hK2 hb; replace hBW2 := below_step hBW2 hb; clear hb k0 k1 k2 k3 k4 k5 k6; obtain ⟨k0, k1, k2, k3, k4, k5, k6⟩ := id hK2
              go_wp2_with (with_reducible refine halt_call ?_)
              refine Halted.run ((eq_b _ _ _ _ _).mono ?_)
              rintro e w' ⟨rfl, hb⟩
              replace hK2 := KK.below hK2 hb; replace hBW2 := below_step hBW2 hb; clear hb k0 k1 k2 k3 k4 k5 k6; obtain ⟨k0, k1, k2, k3, k4, k5, k6⟩ := id hK2
              go_wp2
              go_ret
              exact ⟨rfl, hBW2⟩
            · have h0 := (Hs.out.1 rfl).1
              have h1 := (Hs.out.1 rfl).2.2
              have hn := Hneg.out
              have eca : (c == a && d == b) = false := by
                have : (c == a) = false := by rw [beq_eq_false_iff_ne]; omega
                rw [this]; rfl
              clear h0 h1 hn
              go_wp2_with (with_reducible refine halt_call ?_)
              refine Halted.run ((eq_b _ _ _ _ _).mono ?_)
              rintro e w' ⟨rfl, hb⟩
              rw [eca]
              replace hK2 := KK.below hK2 hb; replace hBW2 := below_step hBW2 hb; clear hb k0 k1 k2 k3 k4 k5 k6; obtain ⟨k0, k1, k2, k3, k4, k5, k6⟩ := id hK2
              clear eca
              go_wp2_with (with_reducible refine halt_call ?_)
              refine Halted.run ((none_b _).mono ?_)
              rintro e w' ⟨rfl, hb⟩
              replace hK2 := KK.below hK2 hb; replace hBW2 := below_step hBW2 hb; clear hb k0 k1 k2 k3 k4 k5 k6; obtain ⟨k0, k1, k2, k3, k4, k5, k6⟩ := id hK2
              go_wp2_with (with_reducible refine halt_call ?_)
              refine Halted.run ((world_any _ _).mono ?_)
              rintro e w' ⟨rfl, hb⟩
              rw [show wF 3 = -2 from rfl, show wT 3 = 0 from rfl]
              replace hK2 := KK.below hK2 hb; replace hBW2 := below_step hBW2 hb; clear hb k0 k1 k2 k3 k4 k5 k6; obtain ⟨k0, k1, k2, k3, k4, k5, k6⟩ := id hK2
              go_wp2_with (with_reducible refine halt_call ?_)
              refine Halted.run ((eq_b _ _ _ _ _).mono ?_)
              rintro e w' ⟨rfl, hb⟩
              replace hK2 := KK.below hK2 hb; replace hBW2 := below_step hBW2 hb; clear hb k0 k1 k2 k3 k4 k5 k6; obtain ⟨k0, k1, k2, k3, k4, k5, k6⟩ := id hK2
              go_wp2
              go_ret
              exact ⟨rfl, hBW2⟩
end Go.Proofs.Ytnpoleeflannjaa
