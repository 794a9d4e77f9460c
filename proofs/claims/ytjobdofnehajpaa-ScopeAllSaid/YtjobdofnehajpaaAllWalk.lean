/- ScopeAll's walk. -/
import Derived.Test.YtjobdofnehajpaaAllCells
import Derived.Maps.AppendAt
import Derived.Deep.DeepCutAuto
import Derived.BigQuiet
namespace Go.Proofs.Ytjobdofnehajpaa
open Go.RowKit

theorem info31' : (Try.prog.info? 31).map (fun i => (i.zero, i.size, i.bytes)) = some (some (.agg #[.string { data := #[] }, .int .i64 0, .int .i64 0]), 3, 32) := by kernel_rfl
set_option maxHeartbeats 40000000 in
set_option maxRecDepth 20000 in
theorem allWalk_any (ao : Option Addr) (m cap : Nat) (ops : List (Int × ByteArray)) (w : World) (hm : m = ops.length) (hcap : m ≤ 9223372036854775807) (hx : RdP w ao ops) :
    Calls Try.prog 3 #[.slice ao m cap] w fun e w' => e = .returned (.bool true) ∧ Below w.heap.size w w' := by
  subst hm
  obtain ⟨i0, hi, hz0, hz1, hz2⟩ := info_parts info31'
  have Hb := Lib.hid (begun_any w); have Hx := Lib.hid hx
  have Hi := Lib.hid hi; have Hz0 := Lib.hid hz0; have Hz1 := Lib.hid hz1; have Hz2 := Lib.hid hz2
  clear hi hz0 hz1 hz2
  clear hx
  go_enter Try.func3, Try.ntmps3
  go_wp2_with (with_reducible refine halt_call ?_)
  refine Halted.run (Hb.out.mono ?_); rintro e w1 ⟨rfl, b1⟩
  have Hn := Lib.hid (new_any w1); have B1 := Lib.hid b1
  clear b1 Hb
  go_wp2_with (with_reducible refine halt_call ?_)
  refine Halted.run (Hn.out.mono ?_); rintro e w2 ⟨s, rfl, hs, h2, b2⟩
  have l1 := B1.out.size
  have H2 := Lib.hid (h2.mono (F' := Fv w.heap.size (.slice none 0 0)) (fun k hk => hk.imp (fun h => by omega) (fun h => by cases h)))
  have B2 := Lib.hid (below_step B1.out b2)
  clear h2 b2 Hn B1
  go_wp2
  go_loopw [5, 6, 7] (fun v d i wx => ∃ (k : Nat) (ms : List Mp) (m : Mp), k ≤ ops.length ∧ k ≤ 60 ∧ i = .int .i64 k ∧ d = .int .i64 ((ms.length : Int) + 1) ∧ ms.length + (ents (ms ++ [m])).length ≤ k ∧ Tidy (ms ++ [m]) ∧ ScAt wx s (Fv w.heap.size v) (ms ++ [m]) ∧ RowE wx w.heap.size v (ents (ms ++ [m])) ∧ Below w.heap.size w wx) (fun _ _ i _ => 60 - (intOf i).toNat)
  case atStart => exact ⟨0, [], [], Nat.zero_le _, by omega, rfl, rfl, by simp [ents], ⟨fun m hm => by simp at hm; subst hm; exact List.nodup_nil, fun m hm => by simp at hm; subst hm; intro p hp; cases hp⟩, H2.out, World.ownsRow_nil _ _ _ _, B2.out⟩
  case round =>
    obtain ⟨k, ms, m, hk1, hk2, rfl, rfl, hlen, ht, h, ho, hB⟩ := hrel
    have H := Lib.hid h; have HB := Lib.hid hB; have HO := Lib.hid ho; have HT := Lib.hid ht
    clear h hB ho ht H2 B2
    go_upto_region 8 with fail
    go_cut [27] (fun c wx => c = .bool (decide (k < ops.length ∧ k < 60)) ∧ wx = wr)
    case first =>
      by_cases hl : k < ops.length
      all_goals go_wp2
      all_goals go_meet
      all_goals first | exact ⟨congrArg Value.bool (decide_eq_decide.2 (by omega)), rfl⟩ | exact ⟨congrArg Value.bool (decide_eq_false (by omega)).symm, rfl⟩
    case rest =>
      obtain ⟨rfl, rfl⟩ := hcut
      by_cases hlt : k < ops.length ∧ k < 60
      · rw [decide_eq_true hlt]
        obtain ⟨a, ha, hc1, hc2⟩ := (Hx.out.below HB.out) k hlt.1
        subst ha
        generalize ops[k] = op at *
        obtain ⟨kind, name0⟩ := op
        replace hc1 : wc.cell? (a.add (k * 2)) = some (.int .i64 kind) := hc1
        replace hc2 : wc.cell? (a.add (k * 2 + 1)) = some (.string name0) := hc2
        have hc3 : wc.cell? ⟨(a.add (k * 2)).block, (a.add (k * 2)).off + 1, none⟩ = some (.string name0) := by have := hc2; rw [← Go.Deep.add_add, Addr.add_succ' (a.add (k * 2)) 0] at this; exact this
        have Hc := Lib.hid (fun W => cut10 W name0)
        go_wp2_with (with_reducible refine halt_call ?_)
        refine Halted.run ((Hc.out _).mono ?_); rintro e w' ⟨rfl, rfl⟩
        generalize cutS name0 10 = nm at *
        clear hc1 hc2 hc3 Hc Hx
        go_wp2
        have z0 := blk_new wc (.cells #[.int .i64 kind, .string nm] 28)
        have b0 := (Below.refl wc.heap.size wc).alloc (Nat.le_refl _) (.cells #[.int .i64 kind, .string nm] 28)
        have HS3 := Lib.hid ((H.out.mono (F' := FO w.heap.size u5 wc.heap.size) (fun k hk => hk.imp id (fun e => by omega))).below b0)
        have HO3 := Lib.hid (own_below3 HO.out b0); have HB3 := Lib.hid (below_step HB.out b0); have Z0 := Lib.hid z0
        have lO : wc.heap.size < (wc.alloc (.cells #[.int .i64 kind, .string nm] 28)).heap.size := by simp
        have lO2 := HB.out.size
        clear b0 z0 H HO HB
        generalize hw3 : wc.alloc (.cells #[.int .i64 kind, .string nm] 28) = w3 at *
        clear hw3
        generalize hO : wc.heap.size = O at *
        clear hO
        obtain ⟨lo, lcap, hu, hl1, hl2⟩ := row_slice HO3.out
        subst hu
        have hHere := here_all ms m nm HT.out
        have hSome := some_all nm _ (ms ++ [m]) rfl HT.out
        generalize hE : ents (ms ++ [m]) = E at *
        have HE := Lib.hid hE; have HHere := Lib.hid hHere; have HSome := Lib.hid hSome
        clear hE hHere hSome
        go_loopw [9, 10, 11] (fun he so q wx => ∃ q' : Nat, q' ≤ E.length ∧ q = .int .i64 q' ∧ so = .int .i64 (li (isN nm) E q') ∧ he = .int .i64 (li (isH nm ((ms.length : Int) + 1)) E q') ∧ Below w3.heap.size w3 wx) (fun _ _ q _ => E.length - (intOf q).toNat)
        case atStart => exact ⟨0, Nat.zero_le _, rfl, rfl, rfl, Below.refl _ _⟩
        case round =>
          obtain ⟨q, hq, rfl, rfl, rfl, hBx⟩ := hrel
          have hZ := (hBx.block O lO).trans Z0.out
          have y0 : wr.cell? ⟨O, 0, none⟩ = some (.int .i64 kind) := blk_cell hZ 0
          have y1 : wr.cell? ⟨O, 1, none⟩ = some (.string nm) := blk_cell hZ 1
          by_cases hlq : q < E.length
          · obtain ⟨g, hg, c0, c1, c2⟩ := row_at (own_below3 HO3.out hBx) q hlq
            subst hg
            have e1 : li (isN nm) E (q + 1) = if isN nm (E.getD q En.z) then (q : Int) else li (isN nm) E q := rfl
            have e2 : li (isH nm ((ms.length : Int) + 1)) E (q + 1) = if isH nm ((ms.length : Int) + 1) (E.getD q En.z) then (q : Int) else li (isH nm ((ms.length : Int) + 1)) E q := rfl
            generalize E.getD q En.z = en at *
            obtain ⟨en1, en2, en3⟩ := en
            replace e1 : li (isN nm) E (q + 1) = if (en1.toList == nm.toList) then (q : Int) else li (isN nm) E q := by rw [beq_toList]; exact e1
            replace e2 : li (isH nm ((ms.length : Int) + 1)) E (q + 1) = if (en1.toList == nm.toList && en2 == (ms.length : Int) + 1) then (q : Int) else li (isH nm ((ms.length : Int) + 1)) E q := by rw [beq_toList]; exact e2
            replace c0 : wr.cell? ⟨g, q * 3, none⟩ = some (.string en1) := c0
            replace c1 : wr.cell? ⟨g, q * 3 + 1, none⟩ = some (.int .i64 en2) := c1
            have E1 := Lib.hid e1; have E2 := Lib.hid e2; have HBx := Lib.hid hBx
            clear e1 e2 c2 hBx hZ y0
            cases hN : (en1.toList == nm.toList) with
            | false =>
              rw [hN] at E1 E2
              go_wp2
              go_region
              all_goals go_wp2
              all_goals exact ⟨⟨q + 1, by omega, by go_num, by rw [E1.out]; rfl, by rw [E2.out]; rfl, HBx.out.drew⟩, by simp [intOf]; omega⟩
            | true =>
              rw [hN] at E1 E2
              cases hD : (en2 == (ms.length : Int) + 1) with
              | true =>
                rw [hD] at E2
                go_wp2
                go_region
                all_goals go_wp2
                all_goals exact ⟨⟨q + 1, by omega, by go_num, by rw [E1.out]; rfl, by rw [E2.out]; rfl, HBx.out.drew⟩, by simp [intOf]; omega⟩
              | false =>
                rw [hD] at E2
                go_wp2
                go_region
                all_goals go_wp2
                all_goals exact ⟨⟨q + 1, by omega, by go_num, by rw [E1.out]; rfl, by rw [E2.out]; rfl, HBx.out.drew⟩, by simp [intOf]; omega⟩
          · have hqe : q = E.length := by omega
            subst hqe
            have hl3 := li_lt (isH nm ((ms.length : Int) + 1)) E E.length
            have hl4 := li_lt (isN nm) E E.length
            generalize li (isH nm ((ms.length : Int) + 1)) E E.length = hs' at *
            generalize li (isN nm) E E.length = ss at *
            have H4 := Lib.hid (HS3.out.below hBx); have HO4 := Lib.hid (own_below3 HO3.out hBx); have HB4 := Lib.hid (below_step HB3.out hBx); have Z4 := Lib.hid hZ
            have lO4 : O < wr.heap.size := by have := hBx.size; omega
            clear hBx hZ HS3 HO3 HB3 Z0 lO hlq
            generalize hw4 : wr = w4 at *
            clear hw4 wr
            by_cases hk0 : kind = 0
            · as_aux_lemma =>
                subst hk0
                have Hp := Lib.hid (push_any w4 s _ _ H4.out (by simp; omega) (fo_lt HO4.out HB4.out lO4))
                clear y1 HHere HSome
                go_wp2_with (with_reducible refine halt_call ?_)
                refine Halted.run (Hp.out.mono ?_); rintro e w5 ⟨rfl, h5, f5⟩
                have Hd := deep_any w5 s _ _ h5
                have el : ((ms ++ [m] ++ [([] : Mp)]).length : Int) = (ms.length : Int) + 1 + 1 := by simp; omega
                rw [el] at Hd
                clear el
                have Hd := Lib.hid Hd
                have H5 := Lib.hid (h5.mono (F' := Fv w.heap.size (.slice lo E.length lcap)) (fun k hk => .inl (.inl hk))); have HO5 := Lib.hid (row_fo HO4.out f5); have HB5 := Lib.hid (Fo.below HB4.out f5 (fun k hk => .inl (.inl hk)))
                clear h5 f5 Hp H4 HO4 HB4 Z4
                go_wp2_with (with_reducible refine halt_call ?_)
                refine Halted.run (Hd.out.mono ?_); rintro e w' ⟨rfl, rfl⟩
                go_wp2
                refine ⟨⟨k + 1, ms ++ [m], [], by omega, by omega, by go_num, by simp, by rw [ents_push, HE.out]; simp; omega, HT.out.push, H5.out, by rw [ents_push, HE.out]; exact HO5.out, HB5.out⟩, by simp [intOf]; omega⟩
            by_cases hk1' : kind = 1
            · as_aux_lemma =>
                subst hk1'
                by_cases hms : ms = []
                · subst hms
                  have Hp := Lib.hid (pop_one w4 s _ _ H4.out (by simp))
                  have Hd := Lib.hid (deep_any w4 s _ _ H4.out)
                  have H5 := Lib.hid (H4.out.mono (F' := Fv w.heap.size (.slice lo E.length lcap)) (fun k hk => .inl (.inl hk)))
                  clear y1 HHere HSome H4 Z4
                  go_wp2_with (with_reducible refine halt_call ?_)
                  refine Halted.run (Hp.out.mono ?_); rintro e w' ⟨rfl, rfl⟩
                  go_wp2_with (with_reducible refine halt_call ?_)
                  refine Halted.run (Hd.out.mono ?_); rintro e w' ⟨rfl, rfl⟩
                  go_wp2
                  refine ⟨⟨k + 1, [], m, by omega, by omega, by go_num, by simp, by rw [HE.out]; simp at hlen ⊢; omega, HT.out, H5.out, by rw [HE.out]; exact HO4.out, HB4.out⟩, by simp [intOf]; omega⟩
                · obtain ⟨ms1, m1, rfl⟩ : ∃ ms1 m1, ms = ms1 ++ [m1] := ⟨ms.dropLast, ms.getLast hms, (List.dropLast_concat_getLast hms).symm⟩
                  have Hp := Lib.hid (pop_any w4 s _ _ _ H4.out hms (by simp; simp at hlen; omega))
                  have el : (((ms1 ++ [m1]).length : Nat) : Int) = (ms1.length : Int) + 1 := by simp
                  have eE : E = ents (ms1 ++ [m1]) ++ mapE m ((ms1.length : Int) + 1 + 1) := by rw [← HE.out, ents_snoc, el]; rfl
                  have HEE := Lib.hid eE
                  rw [el]
                  rw [List.length_append, List.length_singleton] at hlen
                  clear y1 HHere HSome H4 hms eE
                  go_wp2_with (with_reducible refine halt_call ?_)
                  refine Halted.run (Hp.out.mono ?_); rintro e w5 ⟨rfl, h5, f5⟩
                  have Hd := deep_any w5 s _ _ h5
                  rw [el] at Hd
                  have Hd := Lib.hid Hd
                  have H5 := Lib.hid (h5.mono (F' := Fv w.heap.size (.slice lo E.length lcap)) (fun k hk => .inl (.inl hk))); have HO5 := Lib.hid (row_fo HO4.out f5); have HB5 := Lib.hid (Fo.below HB4.out f5 (fun k hk => .inl (.inl hk)))
                  clear h5 f5 Hp HO4 HB4 Z4
                  have hgt : (1 : Int) < (ms1.length : Int) + 1 + 1 := by omega
                  go_wp2
                  go_loopw [5] (fun v wx => ∃ r : Nat, r ≤ m.length ∧ v = .slice lo (ents (ms1 ++ [m1]) ++ (mapE m ((ms1.length : Int) + 1 + 1)).take r).length lcap ∧ RowE w5 w.heap.size v (ents (ms1 ++ [m1]) ++ (mapE m ((ms1.length : Int) + 1 + 1)).take r) ∧ wx = w5) (fun v _ => vlen v)
                  case atStart =>
                    have e0 : (mapE m ((ms1.length : Int) + 1 + 1)).take m.length = mapE m ((ms1.length : Int) + 1 + 1) := List.take_of_length_le (by simp [mapE])
                    refine ⟨m.length, Nat.le_refl _, ?_, ?_, rfl⟩
                    · rw [e0, ← HEE.out]
                    · rw [e0, ← HEE.out]; exact HO5.out
                  case round =>
                    obtain ⟨r, hr, rfl, hrow, rfl⟩ := hrel
                    have hw1 : IntKind.i64.wrap ((ms1.length : Int) + 1 + 1 - 1) = (ms1.length : Int) + 1 := by rw [show (ms1.length : Int) + 1 + 1 - 1 = (ms1.length : Int) + 1 by omega]; exact IntWalk.i64_in _ (by omega)
                    have hEl : (ents (ms1 ++ [m1])).length + m.length = E.length := by rw [HEE.out, List.length_append]; simp [mapE]
                    cases r with
                    | zero =>
                      rw [List.take_zero, List.append_nil] at *
                      have hdp := ents_deep (ms1 ++ [m1])
                      rw [el] at hdp
                      have H6 := Lib.hid (H5.out.mono (F' := Fv w.heap.size (.slice lo (ents (ms1 ++ [m1])).length lcap)) (fun k hk => .inl (fv_slice hk)))
                      have HR := Lib.hid hrow
                      have HTp := Lib.hid HT.out.pop
                      clear hrow H5 HO5 HEE HE HT
                      generalize hAe : ents (ms1 ++ [m1]) = A at *
                      have HAe := Lib.hid hAe
                      clear hAe
                      by_cases hA : A.length = 0
                      · obtain rfl := List.length_eq_zero_iff.1 hA
                        go_wp2_with (with_reducible refine halt_call ?_)
                        refine Halted.run (Hd.out.mono ?_); rintro e w' ⟨rfl, rfl⟩
                        go_wp2
                        refine ⟨⟨k + 1, ms1, m1, by omega, by omega, by go_num, rfl, by rw [HAe.out]; simp; omega, HTp.out, H6.out, by rw [HAe.out]; exact HR.out, HB5.out⟩, by simp [intOf]; omega⟩
                      · obtain ⟨n, hn⟩ : ∃ n, A.length = n + 1 := ⟨A.length - 1, by omega⟩
                        obtain ⟨g, hg, -, c1, -⟩ := row_at HR.out n (by omega)
                        subst hg
                        have hd1 := hdp (A.getD n En.z) (by rw [getD_at A n En.z (by omega)]; exact List.getElem_mem _)
                        generalize (A.getD n En.z).deep = dd at *
                        have hw2 : IntKind.i64.wrap ((A.length : Int) - 1) = n := by rw [hn, show (((n + 1 : Nat) : Int) - 1) = n by omega]; exact IntWalk.i64_in _ (by omega)
                        have hne : ¬ dd = (ms1.length : Int) + 1 + 1 := by omega
                        have hA0 : 0 < A.length := by omega
                        have hnA : n < A.length := by omega
                        have Hn := Lib.hid hn
                        clear hn hdp
                        go_wp2_with (with_reducible refine halt_call ?_)
                        refine Halted.run (Hd.out.mono ?_); rintro e w' ⟨rfl, rfl⟩
                        go_wp2
                        refine ⟨⟨k + 1, ms1, m1, by omega, by omega, by go_num, rfl, by rw [HAe.out]; omega, HTp.out, H6.out, by rw [HAe.out]; exact HR.out, HB5.out⟩, by simp [intOf]; omega⟩
                    | succ r =>
                      have hrl : r < (mapE m ((ms1.length : Int) + 1 + 1)).length := by simp [mapE]; omega
                      have hed : ((mapE m ((ms1.length : Int) + 1 + 1))[r]).deep = (ms1.length : Int) + 1 + 1 := by simp [mapE]
                      rw [List.take_succ_eq_append_getElem hrl, ← List.append_assoc] at hrow ⊢
                      generalize (mapE m ((ms1.length : Int) + 1 + 1))[r] = en at *
                      generalize hE2 : ents (ms1 ++ [m1]) ++ (mapE m ((ms1.length : Int) + 1 + 1)).take r = E2 at *
                      have hl2' : E2.length < E.length := by
                        have := congrArg List.length hE2
                        rw [List.length_append, List.length_take] at this
                        omega
                      have HE2 := Lib.hid hE2
                      obtain ⟨g, hg, -, c1, -⟩ := row_at hrow E2.length (by simp)
                      have hgd : (E2 ++ [en]).getD E2.length En.z = en := by simp [List.getD_eq_getElem?_getD]
                      rw [hgd, hed] at c1
                      have HR := Lib.hid (row_drop hrow)
                      subst hg
                      have hw2 : IntKind.i64.wrap ((E2.length : Int) + 1 - 1) = E2.length := by rw [show ((E2.length : Int) + 1 - 1) = E2.length by omega]; exact IntWalk.i64_in _ (by omega)
                      rw [List.length_append, List.length_singleton]
                      clear hrow hE2 hgd hed hrl
                      go_wp2
                      refine ⟨⟨r, by omega, by rw [HE2.out], by rw [HE2.out]; exact HR.out, trivial⟩, by simp [vlen]⟩
            by_cases hk2' : kind = 2
            · as_aux_lemma =>
                subst hk2'
                by_cases hh : 0 ≤ hs'
                · obtain ⟨e, he, -⟩ := HHere.out.2 hh
                  have Ha := Lib.hid (add_old w4 s _ ms m nm k ((k : Int) + 1) 3 e H4.out (by omega) he)
                  have hh2 : ¬ hs' < 0 := by omega
                  clear HHere HSome
                  go_wp2_with (with_reducible refine halt_call ?_)
                  refine Halted.run (Ha.out.mono ?_); rintro e w5 ⟨rfl, h5, f5⟩
                  have Hd := deep_any w5 s _ _ h5
                  have el : ((ms ++ [m]).length : Int) = (ms.length : Int) + 1 := by simp
                  rw [el] at Hd
                  have Hd := Lib.hid Hd
                  have H5 := Lib.hid (h5.mono (F' := Fv w.heap.size (.slice lo E.length lcap)) (fun k hk => .inl (.inl hk))); have HO5 := Lib.hid (row_fo HO4.out f5); have HB5 := Lib.hid (Fo.below HB4.out f5 (fun k hk => .inl (.inl hk)))
                  clear h5 f5 Ha H4 HO4 HB4 Z4 el
                  go_wp2_with (with_reducible refine halt_call ?_)
                  refine Halted.run (Hd.out.mono ?_); rintro e w' ⟨rfl, rfl⟩
                  go_wp2
                  refine ⟨⟨k + 1, ms, m, by omega, by omega, by go_num, rfl, by rw [HE.out]; omega, HT.out, H5.out, by rw [HE.out]; exact HO5.out, HB5.out⟩, by simp [intOf]; omega⟩
                · have he : look m nm = none := by
                    cases h : look m nm with
                    | none => rfl
                    | some e => exact absurd (HHere.out.1.2 (by rw [h]; rfl)) hh
                  have Ha := Lib.hid (add_new w4 s _ ms m nm k ((k : Int) + 1) 3 H4.out (by omega) he)
                  have hh2 : hs' < 0 := by omega
                  have HLn := Lib.hid he
                  clear HHere HSome he
                  go_wp2_with (with_reducible refine halt_call ?_)
                  refine Halted.run (Ha.out.mono ?_); rintro e w5 ⟨rfl, h5, f5⟩
                  have y5 : w5.cell? ⟨O, 1, none⟩ = some (.string nm) := blk_cell ((f5.block O lO4 (.inr rfl)).trans Z4.out) 1
                  have lO5 : O < w5.heap.size := World.block_lt_of_cell? _ _ y5
                  have H5 := Lib.hid ((h5.mono (F' := Fv w.heap.size (.slice lo E.length lcap)) (fun k hk => .inl (.inl hk))).below ((Below.refl _ _).alloc (Nat.le_refl _) (.cells #[.string nm, .int .i64 ((ms.length : Int) + 1), .int .i64 k] 31)))
                  have HO5 := Lib.hid (own_below3 (row_fo HO4.out f5) ((Below.refl _ _).alloc (Nat.le_refl _) (.cells #[.string nm, .int .i64 ((ms.length : Int) + 1), .int .i64 k] 31))); have HB5 := Lib.hid (Fo.below HB4.out f5 (fun k hk => .inl (.inl hk)))
                  clear h5 f5 Ha H4 HO4 HB4 Z4
                  go_wp2_with (with_reducible refine halt_op 187 ?_)
                  refine Halted.run (wpList_append_own_at _ rfl (.tmp 180) (.tmp 186) 26 rfl w.heap.size 31 i0 (.agg #[.string { data := #[] }, .int .i64 0, .int .i64 0]) 3 32 Try.underlying26 Hi.out Hz0.out Hz1.out Hz2.out rfl (by decide) _ _ _ rfl HO5.out ⟨w5.heap.size, 0, none⟩ 1 1 [.string nm, .int .i64 ((ms.length : Int) + 1), .int .i64 k] rfl rfl ?_ (by simp [Value.oneCell']) (by unfold maxLen; omega) (by omega) (by have := HB5.out.size; simp; omega) ?_)
                  · intro j u hj
                    rw [add_at, blk_cell (blk_new w5 (.cells #[.string nm, .int .i64 ((ms.length : Int) + 1), .int .i64 k] 31)), ← hj, List.getElem?_toArray]
                  intro v' w6 ho6 hg6 _ hat
                  have el : (ents (ms ++ [m ++ [(nm, ⟨k, (k : Int) + 1, 3⟩)]])) = E ++ [⟨nm, (ms.length : Int) + 1, k⟩] := by rw [ents_add, HE.out]
                  have ho6 : RowE w6 w.heap.size v' (ents (ms ++ [m ++ [(nm, ⟨k, (k : Int) + 1, 3⟩)]])) := by
                    show w6.ownsRow _ _ _ _ _ _
                    rw [el, cellsE_append, List.length_append]; exact ho6
                  have h6 := H5.out.grownRow hg6 hat
                  have hB6 := below_grown_own (HB5.out.alloc HB5.out.size (.cells #[.string nm, .int .i64 ((ms.length : Int) + 1), .int .i64 k] 31)) hg6 (fun k hk => (World.ownsRow.lt HO5.out k hk).1)
                  have Hd := deep_any w6 s _ _ h6
                  have el2 : ((ms ++ [m ++ [(nm, Dc.mk k ((k : Int) + 1) 3)]]).length : Int) = (ms.length : Int) + 1 := by simp
                  rw [el2] at Hd
                  have Hd := Lib.hid Hd; have HEl := Lib.hid (congrArg List.length el)
                  have H6 := Lib.hid h6; have HO6 := Lib.hid ho6; have HB6 := Lib.hid hB6
                  clear h6 ho6 hg6 hat hB6 H5 HO5 HB5 el el2 y5
                  go_wp2_with (with_reducible refine halt_call ?_)
                  refine Halted.run (Hd.out.mono ?_); rintro e w' ⟨rfl, rfl⟩
                  go_wp2
                  refine ⟨⟨k + 1, ms, m ++ [(nm, ⟨k, (k : Int) + 1, 3⟩)], by omega, by omega, by go_num, rfl, by rw [HEl.out]; simp; omega, HT.out.add nm k HLn.out (by omega) (by omega), H6.out, HO6.out, HB6.out⟩, by simp [intOf]; omega⟩
            · as_aux_lemma =>
                by_cases hs0 : 0 ≤ ss
                · obtain ⟨⟨f, t, kk⟩, he, ⟨heq, hf0, hf1⟩, htok⟩ := HSome.out.2 hs0
                  injection heq with _ heq2 heq3
                  obtain ⟨j, hj⟩ : ∃ j : Nat, ss = j := ⟨ss.toNat, by omega⟩
                  subst hj
                  have hjE : j < E.length := by omega
                  obtain ⟨g, hg, -, -, c2⟩ := row_at HO4.out j hjE
                  subst hg
                  rw [Int.toNat_natCast] at htok
                  rw [htok] at c2
                  replace c2 : w4.cell? ⟨g, j * 3 + 2, none⟩ = some (.int .i64 f) := c2
                  have hf0 : 0 ≤ f := hf0
                  have hf1 : f < 1000 := hf1
                  have heq2 : t = f + 1 := heq2
                  have heq3 : kk = 3 := heq3
                  subst heq2 heq3
                  have lg := World.block_lt_of_cell? _ _ c2
                  have Hfd := Lib.hid (find_is w4 s _ (ms ++ [m]) nm f (f + 1) 3 true H4.out (by simp; omega) (by rw [he]; rfl) (by rw [he]; rfl))
                  by_cases hh0 : 0 ≤ hs'
                  · obtain ⟨⟨f2, t2, k2⟩, he2, htok2⟩ := HHere.out.2 hh0
                    obtain ⟨j2, hj2⟩ : ∃ j : Nat, hs' = j := ⟨hs'.toNat, by omega⟩
                    subst hj2
                    have hj2E : j2 < E.length := by omega
                    obtain ⟨g2, hg2, -, -, c22⟩ := row_at HO4.out j2 hj2E
                    cases hg2
                    rw [Int.toNat_natCast] at htok2
                    rw [htok2] at c22
                    replace c22 : w4.cell? ⟨g, j2 * 3 + 2, none⟩ = some (.int .i64 f2) := c22
                    clear he htok htok2 HHere HSome
                    go_wp2_with (with_reducible refine halt_call ?_)
                    refine Halted.run (Hfd.out.mono ?_); rintro e wa ⟨rfl, ba⟩
                    have ya1 : wa.cell? ⟨O, 1, none⟩ = some (.string nm) := by rw [ba.cell lO4]; exact y1
                    have lOa : O < wa.heap.size := World.block_lt_of_cell? _ _ ya1
                    have Ba := Lib.hid (below_lay (Below.refl _ _) ba (.cells #[.int .i64 f, .int .i64 (f + 1), .int .i64 3] 34))
                    have Za := Lib.hid (blk_new wa (.cells #[.int .i64 f, .int .i64 (f + 1), .int .i64 3] 34))
                    have la : wa.heap.size < (wa.alloc (.cells #[.int .i64 f, .int .i64 (f + 1), .int .i64 3] 34)).heap.size := by simp
                    have Hhe := Lib.hid (here_is _ s _ ms m nm f2 t2 k2 true (H4.out.below Ba.out) (by omega) (by rw [he2]; rfl) (by rw [he2]; rfl))
                    clear Hfd ba he2
                    go_wp2_with (with_reducible refine halt_call ?_)
                    refine Halted.run (Hhe.out.mono ?_); rintro e wb ⟨rfl, bb⟩
                    have lab : wa.heap.size < wb.heap.size := by have := bb.size; omega
                    obtain ⟨p0, p1, p2⟩ := tri_cells ((bb.block _ la).trans Za.out)
                    have hwf : IntKind.i64.wrap (f + 1) = f + 1 := IntWalk.i64_in _ (by omega)
                    have c2b : wb.cell? ⟨g, j * 3 + 2, none⟩ = some (.int .i64 f) := by rw [(below_step Ba.out bb).cell lg]; exact c2
                    have lgb := World.block_lt_of_cell? _ _ c2b
                    have c22b : wb.cell? ⟨g, j2 * 3 + 2, none⟩ = some (.int .i64 f2) := by rw [(below_step Ba.out bb).cell lg]; exact c22
                    have Bb := Lib.hid (below_lay (Below.refl _ _) bb (.cells #[.int .i64 f2, .int .i64 t2, .int .i64 k2] 34))
                    have hB9 := (below_step Ba.out Bb.out).drew
                    have h9 := H4.out.below hB9
                    have Hd := deep_any _ s _ _ h9
                    have el : ((ms ++ [m]).length : Int) = (ms.length : Int) + 1 := by simp
                    rw [el] at Hd
                    have Hd := Lib.hid Hd
                    have H10 := Lib.hid (h9.mono (F' := Fv w.heap.size (.slice (some ⟨g, 0, none⟩) E.length lcap)) (fun k hk => .inl (.inl hk))); have HO10 := Lib.hid (own_below3 HO4.out hB9); have HB10 := Lib.hid (below_step HB4.out hB9)
                    clear hB9 h9 el Hhe bb Bb Ba Za ya1 y1 H4 HO4 HB4 Z4 la
                    go_wp2
                    go_big_region
                    all_goals (go_wp2_with (with_reducible refine halt_call ?_))
                    all_goals (refine Halted.run (Hd.out.mono ?_); rintro e w' ⟨rfl, rfl⟩)
                    all_goals go_wp2
                    all_goals exact ⟨⟨k + 1, ms, m, by omega, by omega, by go_num, rfl, by rw [HE.out]; omega, HT.out, H10.out, by rw [HE.out]; exact HO10.out, HB10.out⟩, by simp [intOf]; omega⟩
                  · have he2 : look m nm = none := by
                      cases h : look m nm with
                      | none => rfl
                      | some e => exact absurd (HHere.out.1.2 (by rw [h]; rfl)) hh0
                    have hh1 : hs' < 0 := by omega
                    have hh2 : decide (0 ≤ hs') = false := by simp; omega
                    clear he htok HHere HSome
                    go_wp2_with (with_reducible refine halt_call ?_)
                    refine Halted.run (Hfd.out.mono ?_); rintro e wa ⟨rfl, ba⟩
                    have ya1 : wa.cell? ⟨O, 1, none⟩ = some (.string nm) := by rw [ba.cell lO4]; exact y1
                    have lOa : O < wa.heap.size := World.block_lt_of_cell? _ _ ya1
                    have Ba := Lib.hid (below_lay (Below.refl _ _) ba (.cells #[.int .i64 f, .int .i64 (f + 1), .int .i64 3] 34))
                    have Za := Lib.hid (blk_new wa (.cells #[.int .i64 f, .int .i64 (f + 1), .int .i64 3] 34))
                    have la : wa.heap.size < (wa.alloc (.cells #[.int .i64 f, .int .i64 (f + 1), .int .i64 3] 34)).heap.size := by simp
                    have Hhe := Lib.hid (here_is _ s _ ms m nm 0 0 0 false (H4.out.below Ba.out) (by omega) (by rw [he2]; rfl) (by rw [he2]; rfl))
                    clear Hfd ba he2
                    go_wp2_with (with_reducible refine halt_call ?_)
                    refine Halted.run (Hhe.out.mono ?_); rintro e wb ⟨rfl, bb⟩
                    have lab : wa.heap.size < wb.heap.size := by have := bb.size; omega
                    obtain ⟨p0, p1, p2⟩ := tri_cells ((bb.block _ la).trans Za.out)
                    have hwf : IntKind.i64.wrap (f + 1) = f + 1 := IntWalk.i64_in _ (by omega)
                    have c2b : wb.cell? ⟨g, j * 3 + 2, none⟩ = some (.int .i64 f) := by rw [(below_step Ba.out bb).cell lg]; exact c2
                    have lgb := World.block_lt_of_cell? _ _ c2b
                    have Bb := Lib.hid (below_lay (Below.refl _ _) bb (.cells #[.int .i64 0, .int .i64 0, .int .i64 0] 34))
                    have hB9 := (below_step Ba.out Bb.out).drew
                    have h9 := H4.out.below hB9
                    have Hd := deep_any _ s _ _ h9
                    have el : ((ms ++ [m]).length : Int) = (ms.length : Int) + 1 := by simp
                    rw [el] at Hd
                    have Hd := Lib.hid Hd
                    have H10 := Lib.hid (h9.mono (F' := Fv w.heap.size (.slice (some ⟨g, 0, none⟩) E.length lcap)) (fun k hk => .inl (.inl hk))); have HO10 := Lib.hid (own_below3 HO4.out hB9); have HB10 := Lib.hid (below_step HB4.out hB9)
                    clear hB9 h9 el Hhe bb Bb Ba Za ya1 y1 H4 HO4 HB4 Z4 la
                    go_wp2
                    go_big_region
                    all_goals (go_wp2_with (with_reducible refine halt_call ?_))
                    all_goals (refine Halted.run (Hd.out.mono ?_); rintro e w' ⟨rfl, rfl⟩)
                    all_goals go_wp2
                    all_goals exact ⟨⟨k + 1, ms, m, by omega, by omega, by go_num, rfl, by rw [HE.out]; omega, HT.out, H10.out, by rw [HE.out]; exact HO10.out, HB10.out⟩, by simp [intOf]; omega⟩
                · have he : findD (ms ++ [m]) nm = none := by
                    cases h : findD (ms ++ [m]) nm with
                    | none => rfl
                    | some e => exact absurd (HSome.out.1.2 (by rw [h]; rfl)) hs0
                  have he2 : look m nm = none := by
                    rw [findD_snoc] at he
                    cases h : look m nm with
                    | none => rfl
                    | some e => rw [h] at he; cases he
                  have hh0 : ¬ 0 ≤ hs' := fun h => by
                    have := HHere.out.1.1 h
                    rw [he2] at this
                    cases this
                  have hh1 : hs' < 0 := by omega
                  have hs1 : ss < 0 := by omega
                  have hh2 : decide (0 ≤ hs') = false := by simp; omega
                  have hs2 : decide (0 ≤ ss) = false := by simp; omega
                  have Hfd := Lib.hid (find_is w4 s _ (ms ++ [m]) nm 0 0 0 false H4.out (by simp; omega) (by rw [he]; rfl) (by rw [he]; rfl))
                  clear he HHere HSome
                  go_wp2_with (with_reducible refine halt_call ?_)
                  refine Halted.run (Hfd.out.mono ?_); rintro e wa ⟨rfl, ba⟩
                  have ya1 : wa.cell? ⟨O, 1, none⟩ = some (.string nm) := by rw [ba.cell lO4]; exact y1
                  have lOa : O < wa.heap.size := World.block_lt_of_cell? _ _ ya1
                  have Ba := Lib.hid (below_lay (Below.refl _ _) ba (.cells #[.int .i64 0, .int .i64 0, .int .i64 0] 34))
                  have Za := Lib.hid (blk_new wa (.cells #[.int .i64 0, .int .i64 0, .int .i64 0] 34))
                  have la : wa.heap.size < (wa.alloc (.cells #[.int .i64 0, .int .i64 0, .int .i64 0] 34)).heap.size := by simp
                  have Hhe := Lib.hid (here_is _ s _ ms m nm 0 0 0 false (H4.out.below Ba.out) (by omega) (by rw [he2]; rfl) (by rw [he2]; rfl))
                  clear Hfd ba he2
                  go_wp2_with (with_reducible refine halt_call ?_)
                  refine Halted.run (Hhe.out.mono ?_); rintro e wb ⟨rfl, bb⟩
                  have lab : wa.heap.size < wb.heap.size := by have := bb.size; omega
                  obtain ⟨p0, p1, p2⟩ := tri_cells ((bb.block _ la).trans Za.out)
                  have lOb : O < wb.heap.size := by omega
                  have Bb := Lib.hid (below_lay (Below.refl _ _) bb (.cells #[.int .i64 0, .int .i64 0, .int .i64 0] 34))
                  have hB9 := (below_step Ba.out Bb.out).drew
                  have h9 := H4.out.below hB9
                  have Hd := deep_any _ s _ _ h9
                  have el : ((ms ++ [m]).length : Int) = (ms.length : Int) + 1 := by simp
                  rw [el] at Hd
                  have Hd := Lib.hid Hd
                  have H10 := Lib.hid (h9.mono (F' := Fv w.heap.size (.slice lo E.length lcap)) (fun k hk => .inl (.inl hk))); have HO10 := Lib.hid (own_below3 HO4.out hB9); have HB10 := Lib.hid (below_step HB4.out hB9)
                  clear hB9 h9 el Hhe bb Bb Ba Za ya1 y1 H4 HO4 HB4 Z4 la
                  go_wp2
                  go_big_region
                  all_goals (go_wp2_with (with_reducible refine halt_call ?_))
                  all_goals (refine Halted.run (Hd.out.mono ?_); rintro e w' ⟨rfl, rfl⟩)
                  all_goals go_wp2
                  all_goals exact ⟨⟨k + 1, ms, m, by omega, by omega, by go_num, rfl, by rw [HE.out]; omega, HT.out, H10.out, by rw [HE.out]; exact HO10.out, HB10.out⟩, by simp [intOf]; omega⟩
      · rw [decide_eq_false hlt]
        go_wp2
        go_ret
        exact ⟨rfl, HB.out⟩
end Go.Proofs.Ytjobdofnehajpaa
