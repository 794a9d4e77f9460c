/- NodeAll. -/
import Derived.Test.YtknhignklepgeaaBuildWalk
namespace Go.Proofs.Ytknhignklepgeaa
open Go.RowKit

theorem filter_next (p : El → Bool) (L : List El) (j : Nat) (h : j < L.length) :
    (p L[j] = false → ((L.take (j + 1)).filter p).length = ((L.take j).filter p).length) ∧
    (p L[j] = true → ((L.take (j + 1)).filter p).length = ((L.take j).filter p).length + 1 ∧ ∃ hm : ((L.take j).filter p).length < (L.filter p).length, (L.filter p)[((L.take j).filter p).length] = L[j]) := by
  have e1 : L.take (j + 1) = L.take j ++ [L[j]] := List.take_succ_eq_append_getElem h
  have e2 : L.filter p = (L.take j).filter p ++ (L.drop j).filter p := by rw [← List.filter_append, List.take_append_drop]
  constructor
  · intro hp
    rw [e1, List.filter_append]
    simp [hp]
  · intro hp
    have e3 : L.drop j = L[j] :: L.drop (j + 1) := List.drop_eq_getElem_cons h
    have e4 : L.filter p = (L.take j).filter p ++ (L[j] :: (L.drop (j + 1)).filter p) := by rw [e2, e3, List.filter_cons, if_pos hp]
    refine ⟨by rw [e1, List.filter_append]; simp [hp], ?_⟩
    have hm : ((L.take j).filter p).length < (L.filter p).length := by rw [e4, List.length_append, List.length_cons]; omega
    refine ⟨hm, Option.some.inj ?_⟩
    rw [← List.getElem?_eq_getElem hm, e4, List.getElem?_append_right (Nat.le_refl _), Nat.sub_self]
    rfl
theorem filter_nf (tok : Int) (L : List El) : ∃ nf : Nat → Nat, nf 0 = 0 ∧ nf L.length = (L.filter (fun e => e.t == tok)).length ∧ ∀ j (h : j < L.length), (L[j].t ≠ tok → nf (j + 1) = nf j) ∧
    (L[j].t = tok → nf (j + 1) = nf j + 1 ∧ ∃ hm : nf j < (L.filter (fun e => e.t == tok)).length, (L.filter (fun e => e.t == tok))[nf j] = L[j]) := by
  refine ⟨fun j => ((L.take j).filter (fun e => e.t == tok)).length, rfl, by show ((L.take L.length).filter _).length = _; rw [List.take_length], fun j h => ⟨fun hn => (filter_next _ L j h).1 (by simpa using hn), fun he => (filter_next _ L j h).2 (by simpa using he)⟩⟩
set_option maxHeartbeats 4000000 in
theorem nodeAll_walk (a0 : Option Addr) (len0 cap0 : Nat) (z : List Int) (b0 : Option Addr) (len1 cap1 : Nat) (y : List Int) (stop tok kind : Int) (w : World) (n0 : len0 = z.length) (l0 : len0 ≤ cap0) (c0 : cap0 ≤ 9223372036854775807) (r0 : Rd .i64 w a0 z)
    (n1 : len1 = y.length) (l1 : len1 ≤ cap1) (c1 : cap1 ≤ 9223372036854775807) (r1 : Rd .i64 w b0 y) :
    Calls Try.prog 3 #[.slice a0 len0 cap0, .slice b0 len1 cap1, .int .i64 stop, .int .i64 tok, .int .i64 kind] w fun e w' => e = .returned (.bool true) ∧ Below w.heap.size w w' := by
  subst n0 n1
  have b00 : Below w.heap.size w (w.alloc (.cells #[.int .i64 stop] 3)) := (Below.refl _ _).alloc (Nat.le_refl _) _
  have zs := blk_new w (.cells #[.int .i64 stop] 3)
  have zl : w.heap.size < (w.alloc (.cells #[.int .i64 stop] 3)).heap.size := by rw [World.size_alloc]; omega
  obtain ⟨k, t, F, hsm, hcnt, hT⟩ := tree_made _ a0 cap0 z l0 c0 (r0.below b00)
  obtain ⟨k', t', F', hsm', hcnt', hT'⟩ := tree_made _ b0 cap1 y l1 c1 (r1.below b00)
  have HB := Lib.hid (begun_any (w.alloc (.cells #[.int .i64 stop] 3)))
  have HT := Lib.hid hT; have HT' := Lib.hid hT'; have B00 := Lib.hid b00; have ZS := Lib.hid zs; have HSM := Lib.hid hsm
  clear hT hT' r0 r1 hsm hsm' b00 zs
  go_enter Try.func3, Try.ntmps3
  go_wp2_with (with_reducible refine halt_call ?_)
  generalize w.alloc (.cells #[.int .i64 stop] 3) = w0 at *
  refine Halted.run (HB.out.mono ?_); rintro r w1 ⟨rfl, hb1⟩
  have HC1 := Lib.hid (HT.out w1 hb1)
  clear HB hb1 HT
  go_wp2_with (with_reducible refine halt_call ?_)
  refine Halted.run (HC1.out.mono ?_); rintro r w2 ⟨ao, cap, rfl, hb2, hb2', hk⟩
  have HC2 := Lib.hid (HT'.out w2 hb2)
  have HK := Lib.hid hk.kids
  clear HC1 hb2 hk hb2' HT'
  go_wp2_with (with_reducible refine halt_call ?_)
  refine Halted.run (HC2.out.mono ?_); rintro r w3 ⟨ao', cap', rfl, hb3, hb3', hk'⟩
  have HK1 := Lib.hid (HK.out.below hb3')
  have HK' := Lib.hid hk'.kids; have HB3 := Lib.hid hb3
  clear HC2 hb3 hk' hb3' HK
  go_upto_region 5 with fail
  obtain ⟨z0, z1, hb4, hs4⟩ := lay_two w3 (.cells #[.int .i64 k, .int .i64 t, .slice ao F.els.length cap] 26) (.cells #[.int .i64 k', .int .i64 t', .slice ao' F'.els.length cap'] 26)
  generalize hw4 : (w3.alloc (.cells #[.int .i64 k, .int .i64 t, .slice ao F.els.length cap] 26)).alloc (.cells #[.int .i64 k', .int .i64 t', .slice ao' F'.els.length cap'] 26) = w4 at *
  clear hw4
  have kn := HK1.out.below hb4
  have km := HK'.out.below hb4
  have hb04 := below_step HB3.out hb4
  have zs4 := (hb04.block _ zl).trans ZS.out
  have HB4 := Lib.hid (below_step B00.out hb04)
  have hcells : ∀ W, Below w4.heap.size w4 W →
      (W.cell? ⟨w3.heap.size, 0, none⟩ = some (.int .i64 k) ∧ W.cell? ⟨w3.heap.size, 1, none⟩ = some (.int .i64 t) ∧ W.cell? ⟨w3.heap.size, 2, none⟩ = some (.slice ao F.els.length cap)) ∧
      (W.cell? ⟨w3.heap.size + 1, 0, none⟩ = some (.int .i64 k') ∧ W.cell? ⟨w3.heap.size + 1, 1, none⟩ = some (.int .i64 t') ∧ W.cell? ⟨w3.heap.size + 1, 2, none⟩ = some (.slice ao' F'.els.length cap')) ∧
      W.heap[w.heap.size]? = some (.cells #[.int .i64 stop] 3 (0, 0)) := fun W hb => by
    exact ⟨tri_cells ((hb.block _ (Array.getElem?_eq_some_iff.1 z0).1).trans z0), tri_cells ((hb.block _ (Array.getElem?_eq_some_iff.1 z1).1).trans z1), (hb.block _ (Array.getElem?_eq_some_iff.1 zs4).1).trans zs4⟩
  obtain ⟨β, hβ⟩ : ∃ β : Bool, β = (k == k' && t == t' && eqF F F') := ⟨_, rfl⟩
  have hbb : (β != β) = false := by simp
  have hdf := dF_le F
  have he1 : ∀ W, Below w4.heap.size w4 W → Calls Try.prog 8 #[.agg #[.int .i64 k, .int .i64 t, .slice ao F.els.length cap], .agg #[.int .i64 k', .int .i64 t', .slice ao' F'.els.length cap']] W fun r w' => r = .returned (.bool β) ∧ Below w4.heap.size w4 w' := fun W hb =>
    (eq_any F F' W k t k' t' _ _ _ _ (kn.below hb) (km.below hb)).mono (fun r w' h => ⟨by rw [h.1, hβ], below_step hb h.2⟩)
  have he2 : ∀ W, Below w4.heap.size w4 W → Calls Try.prog 9 #[.agg #[.int .i64 k, .int .i64 t, .slice ao F.els.length cap], .agg #[.int .i64 k', .int .i64 t', .slice ao' F'.els.length cap']] W fun r w' => r = .returned (.bool β) ∧ Below w4.heap.size w4 w' := fun W hb =>
    (eqR_any F F' W k t k' t' _ _ _ _ (kn.below hb) (km.below hb)).mono (fun r w' h => ⟨by rw [h.1, hβ], below_step hb h.2⟩)
  have hc1 : ∀ W, Below w4.heap.size w4 W → Calls Try.prog 10 #[.agg #[.int .i64 k, .int .i64 t, .slice ao F.els.length cap]] W fun r w' => r = .returned (.int .i64 (1 + cF F)) ∧ Below w4.heap.size w4 w' := fun W hb =>
    (count_any F W k t _ _ (kn.below hb) (by omega)).mono (fun r w' h => ⟨h.1, below_step hb h.2⟩)
  have hc2 : ∀ W, Below w4.heap.size w4 W → Calls Try.prog 11 #[.agg #[.int .i64 k, .int .i64 t, .slice ao F.els.length cap]] W fun r w' => r = .returned (.int .i64 (1 + cF F)) ∧ Below w4.heap.size w4 w' := fun W hb =>
    (count2_any F W k t _ _ (kn.below hb) (by omega)).mono (fun r w' h => ⟨h.1, below_step hb h.2⟩)
  have hd1 : ∀ W, Below w4.heap.size w4 W → Calls Try.prog 12 #[.agg #[.int .i64 k, .int .i64 t, .slice ao F.els.length cap]] W fun r w' => r = .returned (.int .i64 (dF F + 1)) ∧ Below w4.heap.size w4 w' := fun W hb =>
    (deep_any F W k t _ _ (kn.below hb) (by omega)).mono (fun r w' h => ⟨h.1, below_step hb h.2⟩)
  have hd2 : ∀ W, Below w4.heap.size w4 W → Calls Try.prog 13 #[.agg #[.int .i64 k, .int .i64 t, .slice ao F.els.length cap]] W fun r w' => r = .returned (.int .i64 (dF F + 1)) ∧ Below w4.heap.size w4 w' := fun W hb =>
    (deep2_any F W k t _ _ (kn.below hb) (by omega)).mono (fun r w' h => ⟨h.1, below_step hb h.2⟩)
  obtain ⟨s, hs⟩ : ∃ s : ByteArray, s = nameOf kind := ⟨_, rfl⟩
  have hn1 : ∀ W, Below w4.heap.size w4 W → Calls Try.prog 14 #[.int .i64 kind] W fun r w' => r = .returned (.string s) ∧ Below w4.heap.size w4 w' := fun W hb =>
    (name_any kind W).mono (fun r w' h => ⟨by rw [h.1, hs], below_step hb h.2⟩)
  have hn2 : ∀ W, Below w4.heap.size w4 W → Calls Try.prog 15 #[.int .i64 kind] W fun r w' => r = .returned (.string s) ∧ Below w4.heap.size w4 w' := fun W hb =>
    (nameR_any kind W).mono (fun r w' h => ⟨by rw [h.1, hs], below_step hb h.2⟩)
  have HE1 := Lib.hid he1; have HE2 := Lib.hid he2; have HC1 := Lib.hid hc1; have HC2 := Lib.hid hc2; have HD1 := Lib.hid hd1; have HD2 := Lib.hid hd2; have HN1 := Lib.hid hn1; have HN2 := Lib.hid hn2
  have HCELLS := Lib.hid hcells; have B0 := Lib.hid ((Below.refl w4.heap.size w4).drew); have HKN := Lib.hid kn; have HS4 := Lib.hid hs4
  clear he1 he2 hc1 hc2 hd1 hd2 hn1 hn2 hcells kn km z0 z1 zs4 hb04 hb4 hs4 hβ hs HK1 HK' HB3 B00 ZS zl hcnt' hdf
  go_region_held3 (fun W => (W.cell? ⟨w3.heap.size, 0, none⟩ = some (.int .i64 k) ∧ W.cell? ⟨w3.heap.size, 1, none⟩ = some (.int .i64 t) ∧ W.cell? ⟨w3.heap.size, 2, none⟩ = some (.slice ao F.els.length cap)) ∧
      (W.cell? ⟨w3.heap.size + 1, 0, none⟩ = some (.int .i64 k') ∧ W.cell? ⟨w3.heap.size + 1, 1, none⟩ = some (.int .i64 t') ∧ W.cell? ⟨w3.heap.size + 1, 2, none⟩ = some (.slice ao' F'.els.length cap')) ∧
      W.heap[w.heap.size]? = some (.cells #[.int .i64 stop] 3 (0, 0)))
    ((first | assumption | exact HCELLS.out _ B0.out | exact HCELLS.out _ hb12 | exact HCELLS.out _ hb11 | exact HCELLS.out _ hb10 | exact HCELLS.out _ hb9 | exact HCELLS.out _ hb8 | exact HCELLS.out _ hb7 | exact HCELLS.out _ hb6 | exact HCELLS.out _ hb5))
    ((first
      | (go_at_call 8; (with_reducible refine (HE1.out _ B0.out).mono ?_); rintro r w5 ⟨rfl, hb5⟩)
      | (go_at_call 9; (with_reducible refine (HE2.out _ hb5).mono ?_); rintro r w6 ⟨rfl, hb6⟩)
      | (go_at_call 10; (with_reducible refine (HC1.out _ hb6).mono ?_); rintro r w7 ⟨rfl, hb7⟩)
      | (go_at_call 11; (with_reducible refine (HC2.out _ hb7).mono ?_); rintro r w8 ⟨rfl, hb8⟩)
      | (go_at_call 12; (with_reducible refine (HD1.out _ hb8).mono ?_); rintro r w9 ⟨rfl, hb9⟩)
      | (go_at_call 13; (with_reducible refine (HD2.out _ hb9).mono ?_); rintro r w10 ⟨rfl, hb10⟩)
      | (go_at_call 14; (with_reducible refine (HN1.out _ hb10).mono ?_); rintro r w11 ⟨rfl, hb11⟩)
      | (go_at_call 15; (with_reducible refine (HN2.out _ hb11).mono ?_); rintro r w12 ⟨rfl, hb12⟩)))
  clear HE1 HE2 HC1 HC2 HD1 HD2 HN1 HN2 hb5 hb6 hb7 hb8 hb9 hb10 hb11 hbb
  have g12 := hb12.size
  have hb13 := hb12.alloc hb12.size (.cells #[.slice none 0 0] 24)
  obtain ⟨⟨x0, x1, x2⟩, -, zs13⟩ := HCELLS.out _ hb13
  have hw := walkClo_any (clo17 w4 w12.heap.size w.heap.size stop g12) F (w12.alloc (.cells #[.slice none 0 0] 24)) k t ao cap [] (.slice none 0 0) hb13 HKN.out (by rw [List.length_nil]; omega) ⟨⟨blk_new w12 _, RowN.nil _ _, g12⟩, zs13⟩
  rw [List.nil_append, gE_wE] at hw
  have hl1 : (wE stop ⟨k, t, F⟩).length ≤ 41 := Nat.le_trans (wE_len stop ⟨k, t, F⟩) hcnt
  have hwk := fun (W : World) (hb : Below w4.heap.size w4 W) => walk_any stop F w4 W k t ao cap (.slice none 0 0) [] hb HKN.out (by omega) (by rw [List.length_nil]; omega) (RowN.nil _ _)
  rw [List.nil_append] at hwk
  generalize wE stop ⟨k, t, F⟩ = L1 at *
  have HW := Lib.hid hw; have HWK := Lib.hid hwk; have HB13 := Lib.hid hb13
  clear hw hwk hb12 hb13 zs13
  unfold nodeV at HW HWK
  go_wp2_with (with_reducible refine halt_call ?_)
  refine Halted.run (HW.out.mono ?_); rintro r w14 ⟨rfl, v14, ⟨hst, -⟩, hgr⟩
  have hb14 := Grow2.below HB13.out hgr g12 (fun g hg => by cases hg)
  obtain ⟨vo, vc, rfl⟩ := hst.r.form
  obtain ⟨-, q1, q2⟩ := hst.r.caps
  clear x0 x1 x2
  obtain ⟨⟨x0, x1, x2⟩, -, zs14⟩ := HCELLS.out _ hb14
  have xs := blk_cell zs14 0
  have HST := Lib.hid hst; have HB14 := Lib.hid hb14; have HC := Lib.hid (HWK.out w14 hb14)
  clear hst hgr hb14 zs14 HW HB13 HWK
  go_wp2_with (with_reducible refine halt_call ?_)
  refine Halted.run (HC.out.mono ?_); rintro r w15 ⟨v15, rfl, hr15, hg15⟩
  have hb15 : Below w14.heap.size w14 w15 := below_grown_none hg15.g
  obtain ⟨wo, wc, rfl⟩ := hr15.form
  obtain ⟨-, q3, q4⟩ := hr15.caps
  have hst15 := HST.out.below hb15
  have HS := Lib.hid hst15; have HR := Lib.hid hr15; have HB15 := Lib.hid (below_step HB14.out hb15)
  have xg := blk_cell hst15.h 0
  clear HST HC hr15 hg15 hb15 HB14 xs x0 x1 x2 hst15
  go_wp2_with fail
  clear xg
  go_loopw [16] (fun i wx => ∃ j : Nat, j ≤ L1.length ∧ i = .int .i64 j ∧ Below w15.heap.size w15 wx) (fun i _ => L1.length - (intOf i).toNat)
  case atStart => exact ⟨0, Nat.zero_le _, rfl, Below.refl _ _⟩
  case round =>
    obtain ⟨j, hj, rfl, hB⟩ := hrel
    have xg := blk_cell (HS.out.below hB).h 0
    by_cases hlt : j < L1.length
    · obtain ⟨g, ao1, cap1, hvo, c0, c1, c2, hk1⟩ := (HS.out.r.below hB).nth j hlt
      obtain ⟨g', ao2, cap2, hvo', d0, d1, d2, hk2⟩ := (HR.out.below hB).nth j hlt
      generalize L1[j] = e at *
      obtain ⟨ek, et, eks⟩ := e
      have b1 := below_step HB15.out hB
      have hcall := eqR_any eks eks wr.drew ek et ek et ao1 ao2 cap1 cap2 (hk1.below b1.drew) (hk2.below b1.drew)
      have hself : (ek == ek && et == et && eqF eks eks) = true := by rw [eqF_self]; simp
      rw [hself] at hcall
      have HC := Lib.hid hcall; have HB := Lib.hid hB
      clear hcall hself hB hk1 hk2 b1
      subst hvo hvo'
      unfold nodeV at HC
      go_wp2_with fail
      go_region_with (first | (go_at_call 9; (with_reducible refine (HC.out).mono ?_); rintro e w17 ⟨rfl, hb17⟩))
      all_goals go_wp2
      all_goals exact ⟨⟨j + 1, by omega, by go_num, below_step HB.out.drew hb17⟩, by simp [intOf]; omega⟩
    · have hje : j = L1.length := by omega
      subst hje
      have hb16 := below_step HB15.out hB
      clear hB HS HR HB15
      obtain ⟨⟨x0, x1, x2⟩, -, -⟩ := HCELLS.out _ hb16
      have hl2 : (wE (-1) ⟨k, t, F⟩).length ≤ 41 := Nat.le_trans (wE_len (-1) ⟨k, t, F⟩) hcnt
      have hwk := walk_any (-1) F w4 wr k t ao cap (.slice none 0 0) [] hb16 HKN.out (by omega) (by rw [List.length_nil]; omega) (RowN.nil _ _)
      rw [List.nil_append] at hwk
      have hfd := fun (W : World) (hb : Below w4.heap.size w4 W) => find_any w4 W k t _ _ tok F hb HKN.out (by omega)
      rw [find_wE tok (-1) ⟨k, t, F⟩ HSM.out (by decide)] at hfd
      generalize wE (-1) ⟨k, t, F⟩ = L2 at *
      have HC := Lib.hid hwk; have HF := Lib.hid hfd; have HB16 := Lib.hid hb16
      clear hwk hfd hb16
      unfold nodeV at HC HF
      go_wp2_with (with_reducible refine halt_call ?_)
      refine Halted.run (HC.out.mono ?_); rintro r w17 ⟨v17, rfl, hr17, hg17⟩
      have hb17 : Below wr.heap.size wr w17 := below_grown_none hg17.g
      obtain ⟨wo2, wc2, rfl⟩ := hr17.form
      obtain ⟨-, q5, q6⟩ := hr17.caps
      have hb17' := below_step HB16.out hb17
      clear x0 x1 x2
      obtain ⟨⟨x0, x1, x2⟩, -, -⟩ := HCELLS.out _ hb17'
      have HR17 := Lib.hid hr17; have HB17 := Lib.hid hb17'; have HC2 := Lib.hid (HF.out _ hb17')
      clear HC HF hr17 hg17 hb17 hb17' HB16
      go_wp2_with (with_reducible refine halt_call ?_)
      refine Halted.run (HC2.out.mono ?_); rintro r w18 ⟨v18, rfl, hr18, hb18, -⟩
      obtain ⟨wo3, wc3, rfl⟩ := hr18.form
      obtain ⟨-, q7, q8⟩ := hr18.caps
      have HR18 := Lib.hid hr18; have HR17' := Lib.hid (HR17.out.below hb18); have HB18 := Lib.hid (below_step HB17.out hb18)
      have hl3 : (L2.filter (fun e => e.t == tok)).length ≤ 41 := Nat.le_trans (List.length_filter_le _ _) hl2
      clear x0 x1 x2 HC2 HR17 HB17 hr18 hb18 xg
      go_wp2_with fail
      obtain ⟨nf, nf0, nfl, nfs⟩ := filter_nf tok L2
      generalize L2.filter (fun e => e.t == tok) = L3 at *
      have NF0 := Lib.hid nf0; have NFL := Lib.hid nfl; have NFS := Lib.hid nfs
      clear nf0 nfl nfs hl1 q1 q2 q3 q4 hj hlt HCELLS
      go_loopw [19, 20] (fun c i wx => ∃ j : Nat, j ≤ L2.length ∧ i = .int .i64 j ∧ c = .int .i64 (nf j) ∧ Below w18.heap.size w18 wx) (fun _ i _ => L2.length - (intOf i).toNat)
      case atStart => exact ⟨0, Nat.zero_le _, rfl, by rw [NF0.out]; rfl, Below.refl _ _⟩
      case round =>
        obtain ⟨j, hj, rfl, rfl, hB⟩ := hrel
        by_cases hlt : j < L2.length
        · obtain ⟨g, ao1, cap1, hvo, c0, c1, c2, hk1⟩ := (HR17'.out.below hB).nth j hlt
          obtain ⟨s1, s2⟩ := NFS.out j hlt
          by_cases ht : L2[j].t = tok
          · obtain ⟨s3, hm, s4⟩ := s2 ht
            obtain ⟨g', ao2, cap2, hvo', d0, d1, d2, hk2⟩ := (HR18.out.below hB).nth (nf j) hm
            rw [s4] at d0 d1 d2 hk2
            clear s1 s2 s4
            generalize nf j = m at *
            generalize L2[j] = e at *
            obtain ⟨ek, et, eks⟩ := e
            have ht : et = tok := ht
            subst ht
            have b1 := below_step HB18.out hB
            have hcall := eqR_any eks eks wr.drew ek et ek et ao2 ao1 cap2 cap1 (hk2.below b1.drew) (hk1.below b1.drew)
            have hself : (ek == ek && et == et && eqF eks eks) = true := by rw [eqF_self]; simp
            rw [hself] at hcall
            have HC := Lib.hid hcall; have HB := Lib.hid hB; have S3 := Lib.hid s3
            clear hcall hself hB hk1 hk2 b1 s3
            subst hvo hvo'
            unfold nodeV at HC
            have hg1 : decide ((L3.length : Int) ≤ (m : Int)) = false := by simp; omega
            have hg2 : decide (L3.length ≤ m) = false := by simp; omega
            have hg3 : (0 : Int) ≤ (m : Int) := by omega
            have hg4 : (m : Int) < (L3.length : Int) := by omega
            have hg5 : (0 : Int) ≤ (j : Int) := by omega
            have hg6 : (j : Int) < (L2.length : Int) := by omega
            have e2 : wr.drew.cell? ⟨g', m * 3, none⟩ = some (.int .i64 ek) ∧ wr.drew.cell? ⟨g', m * 3 + 1, none⟩ = some (.int .i64 et) ∧ wr.drew.cell? ⟨g', m * 3 + 2, none⟩ = some (.slice ao2 eks.els.length cap2) := ⟨d0, d1, d2⟩
            have e1 : wr.drew.cell? ⟨g, j * 3, none⟩ = some (.int .i64 ek) ∧ wr.drew.cell? ⟨g, j * 3 + 1, none⟩ = some (.int .i64 et) ∧ wr.drew.cell? ⟨g, j * 3 + 2, none⟩ = some (.slice ao1 eks.els.length cap1) := ⟨c0, c1, c2⟩
            have E1 := Lib.hid (And.intro e2 e1)
            clear e1 e2
            have hcell : ∀ W, Below wr.heap.size wr W → (W.cell? ⟨g', m * 3, none⟩ = some (.int .i64 ek) ∧ W.cell? ⟨g', m * 3 + 1, none⟩ = some (.int .i64 et) ∧ W.cell? ⟨g', m * 3 + 2, none⟩ = some (.slice ao2 eks.els.length cap2)) ∧ (W.cell? ⟨g, j * 3, none⟩ = some (.int .i64 ek) ∧ W.cell? ⟨g, j * 3 + 1, none⟩ = some (.int .i64 et) ∧ W.cell? ⟨g, j * 3 + 2, none⟩ = some (.slice ao1 eks.els.length cap1)) := fun W hb => by
              have lift : ∀ {x : Addr} {u : Value}, wr.cell? x = some u → W.cell? x = some u := fun hx => by rw [hb.cell (World.block_lt_of_cell? _ _ hx)]; exact hx
              exact ⟨⟨lift d0, lift d1, lift d2⟩, lift c0, lift c1, lift c2⟩
            have HCL := Lib.hid hcell
            clear hcell d0 d1 d2 hm hlt
            go_upto_region 24 with fail
            go_region_held3 (fun W => (W.cell? ⟨g', m * 3, none⟩ = some (.int .i64 ek) ∧ W.cell? ⟨g', m * 3 + 1, none⟩ = some (.int .i64 et) ∧ W.cell? ⟨g', m * 3 + 2, none⟩ = some (.slice ao2 eks.els.length cap2)) ∧ (W.cell? ⟨g, j * 3, none⟩ = some (.int .i64 ek) ∧ W.cell? ⟨g, j * 3 + 1, none⟩ = some (.int .i64 et) ∧ W.cell? ⟨g, j * 3 + 2, none⟩ = some (.slice ao1 eks.els.length cap1)))
              ((first | assumption | exact E1.out | exact HCL.out _ (below_step (Below.refl _ _).drew hb19)))
              ((go_at_call 9; (with_reducible refine (HC.out).mono ?_); rintro e w19 ⟨rfl, hb19⟩))
            all_goals go_wp2
            all_goals exact ⟨⟨j + 1, by omega, by go_num, by rw [S3.out]; go_num, below_step HB.out.drew hb19⟩, by simp [intOf]; omega⟩
          · have s3 := s1 ht
            clear s1 s2
            generalize nf j = m at *
            generalize L2[j] = e at *
            obtain ⟨ek, et, eks⟩ := e
            have ht : ¬ et = tok := ht
            have HB := Lib.hid hB; have S3 := Lib.hid s3
            clear hB hk1 s3
            subst hvo
            go_wp2_with fail
            exact ⟨⟨j + 1, by omega, by go_num, by rw [S3.out], HB.out⟩, by simp [intOf]; omega⟩
        · have hje : j = L2.length := by omega
          subst hje
          rw [NFL.out]
          have HB := Lib.hid (below_step HB4.out (below_step HB18.out hB))
          clear hB
          go_wp2_with fail
          go_ret
          exact ⟨rfl, HB.out⟩
end Go.Proofs.Ytknhignklepgeaa
