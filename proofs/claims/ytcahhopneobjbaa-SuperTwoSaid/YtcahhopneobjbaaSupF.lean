/- One text: law21.begun. -/
import Derived.Test.YtcahhopneobjbaaSupE
namespace Go.Proofs.Ytcahhopneobjbaa
open Go.RowKit CrcM

theorem two_bytes (x y : Int) (h0 : 0 ≤ x) (h1 : x < 256) (h2 : 0 ≤ y) (h3 : y < 256) : Byt [x, y] := by intro z hz; simp at hz; omega
theorem DevAt.len64 {w : World} {b r : Nat} {D : Dv} (h : DevAt w b r D) (i : Nat) (hi : i < D.n) : (D.sec i).now.length = 64 := (h.ok i hi).n
/-- What a save does to a living device, its slots and the Super. -/
theorem save_live {w w' : World} {s b r : Nat} {N : List Nat} {pt : Nat} {slot turn : Int} {xs ys : List Int} {c : Int} {D : Dv} {o : Nat → Option (Int × List Int)} {e : Ending}
    (hp : WrPost w s b r N pt slot turn xs (1 - slot) (turn + 1) ys D e w') (hl : Live c D) (hk : Kept D pt o) (hpt : pt + 1 < D.n) (h64 : ∀ i, i < D.n → (D.sec i).now.length = 64) (hs : slot = 0 ∨ slot = 1) (ht0 : 0 ≤ turn) (ht1 : turn < 900000) (hy : ys.length ≤ 40) (hb : Byt ys) :
    ∃ D', e = .returned (.int .i64 0) ∧ But [b, r, s] w w' ∧ DevAt w' b r D' ∧ Live (c + 2) D' ∧ D'.n = D.n ∧ Kept D' pt (upd o (1 - slot).toNat (some (turn + 1, ys))) ∧ SupAt w' s b N pt (1 - slot) (turn + 1) ys ∧
      (∀ i, i < D.n → i ≠ pt → i ≠ pt + 1 → D'.sec i = (D.sec i).fl) ∧ D' = (D.wr (pt + (1 - slot)) (image (turn + 1) ys)).fl := by
  have il := image_length (turn + 1) ys (by omega)
  have ej : (pt : Int) + (1 - slot) = ((pt + (1 - slot).toNat : Nat) : Int) := by omega
  obtain ⟨l1, n1⟩ := hl.wr (pt + (1 - slot)) (image (turn + 1) ys) (by omega) (by omega)
  obtain ⟨hbut, hp⟩ := hp
  rcases hp with ⟨h1, _⟩ | ⟨_, h1, _⟩ | ⟨_, _, rfl, h3, h4⟩
  · rw [hl.isDead] at h1; cases h1
  · rw [l1.isDead] at h1; cases h1
  · refine ⟨_, rfl, hbut, h3, ?_, ?_, ?_, h4, ?_, rfl⟩
    · rw [ej]; exact (hl.step _ _ (by omega) il (h64 _ (by omega))).1
    · rw [ej]; exact (hl.step _ _ (by omega) il (h64 _ (by omega))).2.1
    · rw [ej]; exact hk.save hl hpt _ (by omega) _ _ (h64 _ (by omega)) (by omega) (by omega) hy hb
    · intro i hi h1 h2
      rw [ej, (hl.step _ _ (by omega) il (h64 _ (by omega))).2.2 i hi, if_neg (by omega)]

set_option maxHeartbeats 1000000 in
theorem begun21_any (w : World) : Calls Try.prog 12 #[] w fun e w' => e = .returned (.bool true) ∧ Below w.heap.size w w' := by
  have hnew := new_is 4 w
  rw [show clamp 4 = 4 from by decide] at hnew
  have Hn := Lib.hid hnew
  clear hnew
  have kc := fun (w : World) (C : Array Value) (n c : Nat) => Lib.run_convert_bytes_const (P := Try.prog) w 22 5 C n c Try.underlying22 Try.underlying5
  go_enter Try.func12, Try.ntmps12
  go_wp2_with (with_reducible refine halt_call ?_)
  refine Halted.run (Hn.out.mono ?_); rintro e w1 ⟨b, r, rfl, hd1, hb, hr, hB1⟩
  have a1 : Below w1.heap.size w1 (w1.alloc (.cells #[.int .u8 97, .int .u8 98] 5 (2, 3))) := (Below.refl _ _).alloc (Nat.le_refl _) _
  have lb := hd1.lt_b; have lr := hd1.lt_r
  have z1 : (w1.alloc (.cells #[.int .u8 97, .int .u8 98] 5 (2, 3))).heap.size = w1.heap.size + 1 := by simp
  have hmk := make_any _ b r [b, r] 0 (newD 4) 1 (some ⟨w1.heap.size, 0, none⟩) 2 2 [97, 98] (hd1.below a1) (newD_live 4) (by omega) (by omega) (by decide) (by simp) (by simp) (by intro k hk; rw [z1]; simp at hk; omega) rfl (by simp) (rd_new .u8 w1 [97, 98] _ 5 (2, 3) rfl) (two_bytes _ _ (by omega) (by omega) (by omega) (by omega)) (by intro a ha _; cases ha; simp; omega) (fun e => by cases e) (by omega)
  have Hmk := Lib.hid hmk; have HB1 := Lib.hid (below_step hB1 a1)
  have g1 := hB1.size
  clear Hn hmk hd1 hB1 a1
  go_wp2_with (with_reducible refine halt_call ?_)
  refine Halted.run (Hmk.out.mono ?_); rintro e w2 ⟨s, rfl, hs, hd2, hb2, hs2⟩
  obtain ⟨k2, l2, n2⟩ := Kept.make (newD_live 4) 1 (by decide) [97, 98] (by simp) (two_bytes _ _ (by omega) (by omega) (by omega) (by omega)) (fun i _ => newD_64 4 i)
  have hd2 : DevAt w2 b r (mkD (newD 4) ((1 : Nat) : Int) [97, 98]) := hd2
  generalize mkD (newD 4) ((1 : Nat) : Int) [97, 98] = D2 at *
  have n4 : D2.n = 4 := n2
  have B2 := But.step HB1.out hb2 (by simp; omega)
  have gs := hs2.lt
  have gb := hd2.lt_b; have gr := hd2.lt_r
  have hws : w.heap.size ≤ s := by rw [z1] at hs; omega
  have a2 : Below w2.heap.size w2 (w2.alloc (.cells #[.int .u8 99, .int .u8 100] 5 (2, 3))) := (Below.refl _ _).alloc (Nat.le_refl _) _
  have z2 : (w2.alloc (.cells #[.int .u8 99, .int .u8 100] 5 (2, 3))).heap.size = w2.heap.size + 1 := by simp
  have hsv := save_any _ s b r [s, b, r] 1 0 1 [97, 98] (some ⟨w2.heap.size, 0, none⟩) 2 2 [99, 100] D2 (hs2.below a2) (hd2.below a2) (l2.fit (by omega)) (by have := l2.c1; omega) (by intro k hk; simp at hk ⊢; omega) (by intro k hk; rw [z2]; simp at hk; omega) (by omega) (by rw [n4]; omega) (by omega) (by omega) (by omega) (by omega) rfl (by simp) (rd_new .u8 w2 [99, 100] _ 5 (2, 3) rfl) (two_bytes _ _ (by omega) (by omega) (by omega) (by omega)) (by intro a ha _; cases ha; simp; omega) (fun e => by cases e) (by omega)
  have Hsv := Lib.hid hsv; have HB2 := Lib.hid (below_step B2 a2); have L2 := Lib.hid l2; have K2 := Lib.hid k2; have X2 := Lib.hid (fun i hi => hd2.len64 i hi)
  clear Hmk hsv hd2 hb2 hs2 B2 a2 k2 l2 HB1
  go_wp2_with (with_reducible refine halt_call ?_)
  refine Halted.run (Hsv.out.mono ?_); intro e w3 hp3
  obtain ⟨D3, rfl, hb3, hd3, l3, n3, k3, hs3, _, _⟩ := save_live (pt := 1) hp3 L2.out K2.out (by rw [n4]; omega) X2.out (.inl rfl) (by omega) (by omega) (by simp) (two_bytes _ _ (by omega) (by omega) (by omega) (by omega))
  have B3 := But.step HB2.out hb3 (by simp; omega)
  have hcr := crash_any w3 b r D3 none 0 0 [] rfl hd3 RdB.nil (by simp)
  have Hcr := Lib.hid hcr; have HB3 := Lib.hid B3; have Hd3 := Lib.hid hd3; have K3 := Lib.hid k3
  clear Hsv hp3 hb3 hd3 l3 hs3 B3 hcr HB2 L2 K2 X2 k3
  go_wp2_with (with_reducible refine halt_call ?_)
  refine Halted.run (Hcr.out.mono ?_); rintro e w4 ⟨cb, cr, rfl, hc4, hcb, hcr, hb4⟩
  have k4 := K3.out.crash []
  have hop := open_any w4 cb cr [] (D3.crash []) 1 _ hc4 (by show 1 + 1 < D3.n; omega) (by simp) k4.c
  have Hop := Lib.hid hop; have HB4 := Lib.hid (below_step HB3.out hb4); have Hd4 := Lib.hid (Hd3.out.below hb4)
  clear Hcr hc4 hb4 k4 hop HB3 Hd3 K3
  go_wp2_with (with_reducible refine halt_call ?_)
  refine Halted.run (Hop.out.mono ?_); rintro e w5 ⟨hb5, hres⟩
  have e2 : accTo (upd (fun k => if k = 0 then some ((1 : Int), [(97 : Int), 98]) else none) (1 - (0 : Int)).toNat (some ((1 : Int) + 1, [(99 : Int), 100]))) 2 = ⟨1, 2, [99, 100]⟩ := rfl
  rw [e2] at hres
  rcases hres with ⟨h0, _⟩ | ⟨_, t, rfl, ht, hs5⟩
  · cases h0
  have hnew := new_is 4 w5
  rw [show clamp 4 = 4 from by decide] at hnew
  have Hn := Lib.hid hnew; have HB5 := Lib.hid (below_step HB4.out hb5); have Hd5 := Lib.hid (Hd4.out.below hb5); have Hs5 := Lib.hid hs5
  clear hnew Hop hb5 HB4 Hd4 hs5
  go_wp2_with (with_reducible refine halt_call ?_)
  refine Halted.run (Hn.out.mono ?_); rintro e w6 ⟨nb, nr, rfl, hd6, _, _, hb6⟩
  have hop := open_any w6 nb nr [] (newD 4) 1 (fun _ => none) hd6 (by decide) (by simp) (fun k _ => rfl)
  have Hop := Lib.hid hop; have HB6 := Lib.hid (below_step HB5.out hb6); have Hd6 := Lib.hid (Hd5.out.below hb6); have Hs6 := Lib.hid (Hs5.out.below hb6)
  clear Hn hd6 hb6 hop HB5 Hd5 Hs5
  go_wp2_with (with_reducible refine halt_call ?_)
  refine Halted.run (Hop.out.mono ?_); rintro e w7 ⟨hb7, hres⟩
  rcases hres with ⟨_, rfl⟩ | ⟨h0, _⟩
  rotate_left
  · exact absurd h0 (by decide)
  have hd7 := Hd6.out.below hb7
  have hmk := make_out w7 b r D3 3 none 0 0 (by omega) hd7 (by rw [n3, n4]; omega)
  have Hmk := Lib.hid hmk; have HB7 := Lib.hid (below_step HB6.out hb7); have Hs7 := Lib.hid (Hs6.out.below hb7)
  clear Hop hb7 hmk hd7 HB6 Hd6 Hs6
  go_wp2_with (with_reducible refine halt_call ?_)
  refine Halted.run (Hmk.out.mono ?_); rintro e w' ⟨rfl, rfl⟩
  have Htx := Lib.hid (text_any w7 t cb _ _ _ _ _ Hs7.out)
  clear Hmk
  go_wp2_with (with_reducible refine halt_call ?_)
  refine Halted.run (Htx.out.mono ?_); rintro e w8 ⟨v8, rfl, hv8, hb8⟩
  have hst := slAt_string hv8
  have es : strOfNums [99, 100] = { data := #[99, 100] } := rfl
  rw [es] at hst
  have Htn := Lib.hid (turn_any w8 t cb _ _ _ _ _ (Hs7.out.below hb8)); have HB8 := Lib.hid (below_step HB7.out hb8)
  clear Htx hv8 hb8 HB7 es
  go_wp2_with (with_reducible refine halt_call ?_)
  refine Halted.run (Htn.out.mono ?_); rintro e w' ⟨rfl, rfl⟩
  go_wp2
  go_ret
  exact ⟨rfl, HB8.out⟩
end Go.Proofs.Ytcahhopneobjbaa
