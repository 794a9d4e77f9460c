/- ScopeDeep's walk. -/
import Derived.Test.YtjobdofnehajpaaDeepMath
import Derived.Maps.AppendAt
namespace Go.Proofs.Ytjobdofnehajpaa
open Go.RowKit

theorem info3' : (Try.prog.info? 3).map (fun i => (i.zero, i.size, i.bytes)) = some (some (.int .i64 0), 1, 8) := by kernel_rfl
set_option maxHeartbeats 4000000 in
set_option maxRecDepth 10000 in
theorem deepWalk_any (ao : Option Addr) (m cap : Nat) (own : List Bool) (w : World) (hm : m = own.length) (hcap : m ≤ 9223372036854775807) (hk : RdB w ao own) :
    Calls Try.prog 6 #[.slice ao m cap] w fun e w' => e = .returned (.bool true) ∧ Below w.heap.size w w' := by
  subst hm
  obtain ⟨i0, hi, hz0, hz1, hz2⟩ := info_parts info3'
  have Hb := Lib.hid (begun_any w); have Hk := Lib.hid hk
  have Hi := Lib.hid hi; have Hz0 := Lib.hid hz0; have Hz1 := Lib.hid hz1; have Hz2 := Lib.hid hz2
  have hX : ({ data := #[120] } : ByteArray) = X := rfl
  clear hi hz0 hz1 hz2
  clear hk
  go_enter Try.func6, Try.ntmps6
  rw [hX]
  clear hX
  go_wp2_with (with_reducible refine halt_call ?_)
  refine Halted.run (Hb.out.mono ?_); rintro e w1 ⟨rfl, b1⟩
  have Hn := Lib.hid (new_any w1); have B1 := Lib.hid b1
  clear b1 Hb
  go_wp2_with (with_reducible refine halt_call ?_)
  refine Halted.run (Hn.out.mono ?_); rintro e w2 ⟨s, rfl, hs, h2, b2⟩
  have l1 := B1.out.size
  have H2 := Lib.hid (h2.mono (F' := Fv w.heap.size (.slice none 0 0)) (fun k hk => hk.imp (fun h => by omega) (fun h => by cases h)))
  have B2 := Lib.hid (below_step B1.out b2)
  clear h2 b2 Hn B1
  go_wp2
  go_loopw [5, 6] (fun v i wx => ∃ k : Nat, k ≤ own.length ∧ k ≤ 30 ∧ i = .int .i64 k ∧ ScAt wx s (Fv w.heap.size v) (scs own k (k + 1)) ∧ wx.ownsRow w.heap.size 3 1 v (lst own k).length ((lst own k).map (Value.int .i64)) ∧ Below w.heap.size w wx) (fun _ i _ => 30 - (intOf i).toNat)
  case atStart => exact ⟨0, Nat.zero_le _, by omega, rfl, H2.out, World.ownsRow_nil _ _ _ _, B2.out⟩
  case round =>
    obtain ⟨k, hk1, hk2, rfl, h, ho, hB⟩ := hrel
    by_cases hlt : k < own.length ∧ k < 30
    · obtain ⟨hl1, hl2⟩ := hlt
      obtain ⟨a, rfl, hc⟩ := (Hk.out.below hB) k hl1
      have hF := fv_lt ho hB
      rw [scs_succ, sc_last] at h
      have hnx := scs_next own k
      have hln : lst own (k + 1) = if own.getD k false = true then lst own k ++ [(k : Int)] else lst own k := rfl
      have hll := lst_len own k
      have hsl := scs_length own k k
      have hget : own.getD k false = own[k] := by simp [List.getD_eq_getElem?_getD, List.getElem?_eq_getElem hl1]
      rw [hget] at hnx hln
      cases hok : own[k] with
      | false =>
        rw [hok] at hc hnx hln
        rw [if_neg (by decide)] at hnx hln
        have Hp := Lib.hid (push_any wr s _ _ h (by simp; omega) hF)
        have Ho := Lib.hid ho; have HB := Lib.hid hB; have Hnx := Lib.hid hnx; have Hln := Lib.hid hln
        clear h ho hB hnx hln hF hget
        go_wp2_with (with_reducible refine halt_call ?_)
        refine Halted.run (Hp.out.mono ?_); rintro e w3 ⟨rfl, h3, f3⟩
        have H3 := Lib.hid h3; have HB3 := Lib.hid (Fo.below HB.out f3 (fun k hk => .inl hk)); have Ho3 := Lib.hid (own_fo Ho.out f3)
        clear h3 f3 Hp HB Ho
        go_wp2
        refine ⟨⟨k + 1, by omega, by omega, by go_num, by rw [Hnx.out]; exact H3.out, by rw [Hln.out]; exact Ho3.out, HB3.out⟩, by simp [intOf]; omega⟩
      | true =>
        rw [hok] at hc hnx hln
        rw [if_pos rfl] at hnx hln
        have Ha := Lib.hid (add_new wr s _ _ [] X k 0 0 h (by omega) rfl)
        have Ho := Lib.hid ho; have HB := Lib.hid hB; have Hnx := Lib.hid hnx; have Hln := Lib.hid hln
        clear h ho hB hnx hln hF hget
        go_wp2_with (with_reducible refine halt_call ?_)
        refine Halted.run (Ha.out.mono ?_); rintro e w3 ⟨rfl, h3, f3⟩
        have H3 := Lib.hid (h3.below ((Below.refl _ _).alloc (Nat.le_refl _) (.cells #[.int .i64 k] 3))); have HB3 := Lib.hid (Fo.below HB.out f3 (fun k hk => .inl hk)); have Ho3 := Lib.hid ((own_fo Ho.out f3).alloc (.cells #[.int .i64 k] 3))
        clear h3 f3 Ha HB Ho
        go_wp2_with (with_reducible refine halt_op 40 ?_)
        refine Halted.run (wpList_append_own_at _ rfl (.tmp 37) (.tmp 39) 43 rfl w.heap.size 3 i0 (.int .i64 0) 1 8 Try.underlying43 Hi.out Hz0.out Hz1.out Hz2.out rfl (by decide) _ _ _ rfl Ho3.out ⟨w3.heap.size, 0, none⟩ 1 1 [.int .i64 k] rfl rfl (cell_one_new _ _ _) (by simp [Value.oneCell']) (by unfold maxLen; omega) (by omega) (by have := HB3.out.size; simp; omega) ?_)
        intro v' w5 ho5 hg5 _ hat
        have hl5 : (lst own (k + 1)).length = (lst own k).length + 1 := by rw [Hln.out]; simp
        have ho5 : w5.ownsRow w.heap.size 3 1 v' (lst own (k + 1)).length ((lst own (k + 1)).map (Value.int .i64)) := by rw [hl5, Hln.out, List.map_append]; exact ho5
        have h5 := H3.out.grownRow hg5 hat
        have hB5 := below_grown_own (HB3.out.alloc HB3.out.size (.cells #[.int .i64 k] 3)) hg5 (fun k hk => (World.ownsRow.lt Ho3.out k hk).1)
        have Hp := Lib.hid (push_any w5 s _ _ h5 (by simp; omega) (fv_lt ho5 hB5))
        have Ho5 := Lib.hid ho5; have HB5 := Lib.hid hB5
        clear h5 ho5 hg5 hat hB5 H3 HB3 Ho3 hl5
        go_wp2_with (with_reducible refine halt_call ?_)
        refine Halted.run (Hp.out.mono ?_); rintro e w6 ⟨rfl, h6, f6⟩
        have H6 := Lib.hid h6; have HB6 := Lib.hid (Fo.below HB5.out f6 (fun k hk => .inl hk)); have Ho6 := Lib.hid (own_fo Ho5.out f6)
        clear h6 f6 Hp HB5 Ho5
        go_wp2
        refine ⟨⟨k + 1, by omega, by omega, by go_num, by rw [Hnx.out]; exact H6.out, Ho6.out, HB6.out⟩, by simp [intOf]; omega⟩
    · obtain ⟨lo, lcap, rfl, hrd, hll, hlc, hlcap, hlb⟩ := own_rd ho
      have hll' := lst_len own k
      have HR := Lib.hid hrd; have HO := Lib.hid ho; have H := Lib.hid h; have HB := Lib.hid hB
      clear hrd ho h hB hlb hll H2 B2 hs
      have hsplit : (k < own.length) = True ∨ (k < own.length) = False := by
        by_cases hl : k < own.length
        · exact .inl (eq_true hl)
        · exact .inr (eq_false hl)
      by_cases hl : k < own.length
      all_goals go_wp2
      all_goals clear hl hlt hsplit
      all_goals (
        generalize hfr : wr = w9 at *
        clear hfr wr
        go_loopw [7] (fun i wx => ∃ c : Nat, c ≤ k + 1 ∧ i = .int .i64 ((c : Int) - 1) ∧ ScAt wx s (Fv w.heap.size (.slice lo (lst own k).length lcap)) (scs own k (max c 1)) ∧ wx.ownsRow w.heap.size 3 1 (.slice lo (lst own k).length lcap) (lst own k).length ((lst own k).map (Value.int .i64)) ∧ Below w.heap.size w wx) (fun i _ => (intOf i + 1).toNat)
        case atStart => exact ⟨k + 1, Nat.le_refl _, by congr 1; omega, by rw [show max (k + 1) 1 = k + 1 by omega]; exact H.out, HO.out, HB.out⟩
        case round =>
          obtain ⟨c, hc, rfl, h, ho, hB⟩ := hrel
          clear H HO HB HR
          cases c with
          | zero =>
            have Hd := Lib.hid (deep_any wr s _ _ h)
            rw [scs_length] at Hd
            have HB := Lib.hid hB
            clear h ho hB
            go_wp2_with (with_reducible refine halt_call ?_)
            refine Halted.run (Hd.out.mono ?_); rintro e w' ⟨rfl, rfl⟩
            go_wp2
            go_ret
            exact ⟨rfl, HB.out⟩
          | succ c =>
            have ec : (((c + 1 : Nat) : Int) - 1) = c := by omega
            rw [ec, show max (c + 1) 1 = c + 1 by omega] at *
            obtain ⟨lo', lcap', e, hrd, -⟩ := own_rd ho
            injection e with e1 e2 e3
            subst e1 e3
            have H := Lib.hid h; have HO := Lib.hid ho; have HB := Lib.hid hB; have HR := Lib.hid hrd
            clear h ho hB hrd
            go_wp2
            go_loopw [8, 9] (fun b j wx => ∃ q : Nat, q ≤ (lst own k).length ∧ j = .int .i64 q ∧ b = .int .i64 (((lst own k).take q).foldl (pick c) (-1)) ∧ wx = wr) (fun _ j _ => (lst own k).length - (intOf j).toNat)
            case atStart => exact ⟨0, Nat.zero_le _, rfl, rfl, rfl⟩
            case round =>
              obtain ⟨q, hq, rfl, rfl, rfl⟩ := hrel
              by_cases hql : q < (lst own k).length
              · obtain ⟨a, rfl, hcell⟩ := HR.out q hql
                have ht := fold_take own k c q hql
                generalize (lst own k)[q] = x at *
                have HT := Lib.hid ht
                clear ht
                by_cases hx : x ≤ (c : Int)
                · have e : pick c (((lst own k).take q).foldl (pick c) (-1)) x = x := by unfold pick; rw [if_pos hx]
                  go_wp2
                  refine ⟨⟨q + 1, by omega, by go_num, by rw [HT.out, e], trivial⟩, by simp [intOf]; omega⟩
                · have e : pick c (((lst own k).take q).foldl (pick c) (-1)) x = ((lst own k).take q).foldl (pick c) (-1) := by unfold pick; rw [if_neg hx]
                  go_wp2
                  refine ⟨⟨q + 1, by omega, by go_num, by rw [HT.out, e], trivial⟩, by simp [intOf]; omega⟩
              · have hq' : q = (lst own k).length := by omega
                have ef : ((lst own k).take q).foldl (pick c) (-1) = best own k (c + 1) := by rw [hq', List.take_length, fold_all own k c (by omega)]
                rw [ef] at *
                have hF0 := find_best own k (c + 1)
                have hbl := best_lt own k (c + 1)
                obtain ⟨hH0, x1, x2, x3, hH1⟩ := here_best own k c
                generalize best own k (c + 1) = b at *
                have hf1 : (findD (scs own k (c + 1)) X).isSome = decide (¬ b = -1) := by rw [hF0]; by_cases hb : b = -1 <;> simp [hb]
                have hf2 : ∃ y1 y2 y3, (findD (scs own k (c + 1)) X).getD Dc.z = ⟨y1, y2, y3⟩ ∧ (¬ b = -1 → y1 = b) := by
                  rw [hF0]
                  by_cases hb : b = -1
                  · exact ⟨0, 0, 0, by rw [if_pos hb]; rfl, fun h => absurd hb h⟩
                  · exact ⟨b, 0, 0, by rw [if_neg hb]; rfl, fun _ => rfl⟩
                obtain ⟨y1, y2, y3, hf2, hy⟩ := hf2
                have Hfd := Lib.hid (find_is wr s _ _ X y1 y2 y3 _ H.out (by rw [scs_length]; omega) hf2 hf1)
                have Hh0 := Lib.hid hH0; have Hh1 := Lib.hid hH1
                clear hF0 hf1 hf2 hH0 hH1 ef hq' HR
                go_wp2_with (with_reducible refine halt_call ?_)
                refine Halted.run (Hfd.out.mono ?_); rintro e wa ⟨rfl, ba⟩
                have Ba := Lib.hid (below_lay (Below.refl _ _) ba (.cells #[.int .i64 y1, .int .i64 y2, .int .i64 y3] 34))
                have Za := Lib.hid (blk_new wa (.cells #[.int .i64 y1, .int .i64 y2, .int .i64 y3] 34))
                have ha := H.out.below Ba.out
                rw [scs_succ] at ha
                have Hhe := Lib.hid (here_is _ s _ _ _ X x1 x2 x3 _ ha (by rw [scs_length]; omega) Hh1.out Hh0.out)
                clear ha Hfd ba Hh0 Hh1
                generalize hwb : wa.alloc (.cells #[.int .i64 y1, .int .i64 y2, .int .i64 y3] 34) = wb at *
                have lb : wa.heap.size < wb.heap.size := World.block_lt_of_cell? _ _ (tri_cells Za.out).1
                go_wp2_with (with_reducible refine halt_call ?_)
                refine Halted.run (Hhe.out.mono ?_); rintro e wc ⟨rfl, bc⟩
                clear hwb
                have Bc := Lib.hid (below_lay (Below.refl _ _) bc (.cells #[.int .i64 x1, .int .i64 x2, .int .i64 x3] 34))
                have h9 := (H.out.below Ba.out).below Bc.out
                have Hd := Lib.hid (deep_any _ s _ _ h9)
                have Hp := Lib.hid (pop_scs _ s _ own k c h9 (by omega))
                rw [scs_length] at Hd
                have HO9 := Lib.hid (owns_same HO.out (fun g hg => ((below_step Ba.out Bc.out).block g (own_lt HO.out g hg))))
                have HB9 := Lib.hid (below_step HB.out (below_step Ba.out Bc.out))
                obtain ⟨z0, z1, z2⟩ := tri_cells ((bc.block _ lb).trans Za.out)
                have lc : wa.heap.size < wc.heap.size := by have := bc.size; omega
                clear h9 bc Bc Ba Za Hhe H HO HB
                have hw : IntKind.i64.wrap ((c : Int) - 1) = c - 1 := IntWalk.i64_in _ (by omega)
                have h3 : b = c ∨ b = -1 ∨ (0 ≤ b ∧ b < c) := by omega
                rcases h3 with hbc | hbc | ⟨hb0, hb1⟩
                · subst hbc
                  have hy := hy (by omega)
                  subst hy
                  go_wp2_with (with_reducible refine halt_call ?_)
                  refine Halted.run (Hd.out.mono ?_); rintro e w' ⟨rfl, rfl⟩
                  go_wp2_with (with_reducible refine halt_call ?_)
                  refine Halted.run (Hp.out.mono ?_); rintro e we ⟨rfl, he, fe⟩
                  have HE := Lib.hid he; have HOe := Lib.hid (own_fo HO9.out fe); have HBe := Lib.hid (Fo.below HB9.out fe (fun k hk => .inl hk))
                  clear he fe HO9 HB9 Hp Hd
                  go_wp2
                  refine ⟨⟨c, by omega, rfl, HE.out, HOe.out, HBe.out⟩, by simp [intOf]⟩
                · subst hbc
                  go_wp2_with (with_reducible refine halt_call ?_)
                  refine Halted.run (Hd.out.mono ?_); rintro e w' ⟨rfl, rfl⟩
                  go_wp2_with (with_reducible refine halt_call ?_)
                  refine Halted.run (Hp.out.mono ?_); rintro e we ⟨rfl, he, fe⟩
                  have HE := Lib.hid he; have HOe := Lib.hid (own_fo HO9.out fe); have HBe := Lib.hid (Fo.below HB9.out fe (fun k hk => .inl hk))
                  clear he fe HO9 HB9 Hp Hd
                  go_wp2
                  refine ⟨⟨c, by omega, rfl, HE.out, HOe.out, HBe.out⟩, by simp [intOf]⟩
                · have hy := hy (by omega)
                  subst hy
                  have d1 : decide (y1 = -1) = false := by simp; omega
                  have d2 : decide (y1 = (c : Int)) = false := by simp; omega
                  go_wp2_with (with_reducible refine halt_call ?_)
                  refine Halted.run (Hd.out.mono ?_); rintro e w' ⟨rfl, rfl⟩
                  go_wp2_with (with_reducible refine halt_call ?_)
                  refine Halted.run (Hp.out.mono ?_); rintro e we ⟨rfl, he, fe⟩
                  have HE := Lib.hid he; have HOe := Lib.hid (own_fo HO9.out fe); have HBe := Lib.hid (Fo.below HB9.out fe (fun k hk => .inl hk))
                  clear he fe HO9 HB9 Hp Hd
                  go_wp2
                  refine ⟨⟨c, by omega, rfl, HE.out, HOe.out, HBe.out⟩, by simp [intOf]⟩
          )
end Go.Proofs.Ytjobdofnehajpaa
