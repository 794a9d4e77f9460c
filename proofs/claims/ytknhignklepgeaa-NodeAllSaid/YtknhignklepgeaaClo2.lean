/- The closure of Find. -/
import Derived.Test.YtknhignklepgeaaClo
namespace Go.Proofs.Ytknhignklepgeaa
open Go.RowKit

set_option maxHeartbeats 4000000 in
theorem clo24_any (W0 w : World) (k t : Int) (ao : Option Addr) (cap gb sb : Nat) (stop : Int) (v : Value) (L : List El) (F : Fo) (hB0 : Below W0.heap.size W0 w) (hk : KidsV W0 ao cap F) (hcl : L.length < 2000) (hs : St W0 w gb v L) (hsb : w.heap[sb]? = some (.cells #[.int .i64 stop] 3 (0, 0))) :
    Calls Try.prog 24 #[nodeV k t ao F.els.length cap, .pointer (some ⟨sb, 0, none⟩), .pointer (some ⟨gb, 0, none⟩)] w fun e w' => e = .returned (.bool true) ∧ ∃ v', St W0 w' gb v' (L ++ (if t = stop then [⟨k, t, F⟩] else [])) ∧ Grow2 gb w v w' v' := by
  obtain ⟨i0, hi, hz0, hz1, hz2⟩ := info_parts info26'
  obtain ⟨vo, vc, hv⟩ := hs.r.form
  subst hv
  have b0 : Below w.heap.size w (w.alloc (.cells #[.int .i64 k, .int .i64 t, .slice ao F.els.length cap] 26)) := (Below.refl _ _).alloc (Nat.le_refl _) _
  have z0 := blk_new w (.cells #[.int .i64 k, .int .i64 t, .slice ao F.els.length cap] 26)
  have g0 : w.heap.size < (w.alloc (.cells #[.int .i64 k, .int .i64 t, .slice ao F.els.length cap] 26)).heap.size := by simp
  have hs1 := hs.below b0
  have cg : (w.alloc (.cells #[.int .i64 k, .int .i64 t, .slice ao F.els.length cap] 26)).cell? ⟨gb, 0, none⟩ = some (.slice vo L.length vc) := blk_cell hs1.h 0
  have cs0 : (w.alloc (.cells #[.int .i64 k, .int .i64 t, .slice ao F.els.length cap] 26)).cell? ⟨sb, 0, none⟩ = some (.int .i64 stop) := blk_cell ((b0.block _ (Array.getElem?_eq_some_iff.1 hsb).1).trans hsb) 0
  obtain ⟨x0, x1, x2⟩ := tri_cells z0
  have lg := World.block_lt_of_cell? _ _ cg
  have HVL := Lib.hid (fun g hg => (hs.r.lt g hg).1); have HZS := Lib.hid ((b0.block _ (Array.getElem?_eq_some_iff.1 hsb).1).trans hsb)
  have HS1 := Lib.hid hs1; have B0 := Lib.hid b0; have HB0 := Lib.hid hB0; have HK := Lib.hid hk; have HSB := Lib.hid hsb; have Z0 := Lib.hid z0
  have Hi := Lib.hid hi; have Hz0 := Lib.hid hz0; have Hz1 := Lib.hid hz1; have Hz2 := Lib.hid hz2
  clear hi hz0 hz1 hz2
  clear hs hs1 hB0 hk b0 hsb z0
  unfold nodeV
  by_cases hts : t = stop
  rotate_left
  · rw [if_neg hts, List.append_nil]
    go_enter Try.func24, Try.ntmps24
    go_wp2
    go_ret
    exact ⟨rfl, _, HS1.out, Grow2.of_below _ B0.out⟩
  subst hts
  rw [if_pos rfl]
  go_enter Try.func24, Try.ntmps24
  go_wp2
  generalize hw1 : w.alloc (.cells #[.int .i64 k, .int .i64 t, .slice ao F.els.length cap] 26) = w1 at *
  clear hw1
  obtain ⟨cs, hcs, ho, hkk⟩ := HS1.out.r
  have hlen : cs.length = L.length := by rw [← hcs]; simp
  have HO := Lib.hid (fun (W : World) (hb : Below w1.heap.size w1 W) => owns_keep ho (fun g hg => hb.block g (own_block_lt ho g hg).1))
  rw [hlen] at HO
  have s01 : W0.heap.size ≤ w1.heap.size := by have := HB0.out.size; omega
  have lb0 : w.heap.size < w1.heap.size := g0
  have lsb : sb < w1.heap.size := World.block_lt_of_cell? _ _ cs0
  have hnb : (Value.slice vo L.length vc).ownBlock ≠ some w.heap.size := fun e => by have := HVL.out _ e; omega
  have hnsb : (Value.slice vo L.length vc).ownBlock ≠ some sb := fun e => by
    rcases ho.2 with ⟨h0, _⟩ | ⟨g', cap', cur, hv, _, q2, _⟩
    · rw [h0] at e; cases e
    · rw [hv] at e
      cases e
      rw [HZS.out] at q2
      injection q2 with q2
      injection q2 with _ q2
      exact absurd q2 (by decide)
  have hbg : w.heap.size ≠ gb := fun e => by
    have h1 := HS1.out.h
    rw [← e, Z0.out] at h1
    injection h1 with h1
    injection h1 with _ h1
    exact absurd h1 (by decide)
  have hsg : sb ≠ gb := fun e => by
    have h1 := HS1.out.h
    rw [← e, HZS.out] at h1
    injection h1 with h1
    injection h1 with _ h1
    exact absurd h1 (by decide)
  have HCS := Lib.hid hcs; have HKK := Lib.hid hkk
  clear ho hcs hkk
  have hidx : (L.length : Int) < (L.length : Int) + 1 := by omega
  go_region_law (refine step_append_lies _ rfl (.tmp 9) (.tmp 12) 24 rfl W0.heap.size 26 i0 (.agg #[.int .i64 0, .int .i64 0, .slice none 0 0]) 3 40 Try.underlying24 Hi.out Hz0.out Hz1.out Hz2.out rfl (by decide) (.slice vo L.length vc) L.length (cellsN cs) rfl (HO.out _ (by go_grown)) ⟨w1.heap.size, 0, none⟩ 1 1 zeroN rfl rfl (fun j u hj => by rw [← hj]; simp [add_at, zeroN]) (by simp [Value.oneCell', zeroN]) (by decide) (by unfold maxLen; omega) (by omega) (by simp; omega) _ rfl ?_; intro g c5 w5 ho5 hg5 hat5 hlt5; obtain ⟨⟨y0, y1, y2⟩, ff, hgg, hoth, hc1, hc2⟩ := app_facts HS1.out (by go_grown) hlen ho5 hg5 hat5; have cgb := blk_cell ((hoth gb lg HS1.out.ne).1.trans HS1.out.h) 0; have fgb := blk_free ((hoth gb lg HS1.out.ne).1.trans HS1.out.h) 0; obtain ⟨z0, z1, z2⟩ := tri_cells ((hoth _ lb0 hnb).1.trans Z0.out); have zs := blk_cell ((hoth _ lsb hnsb).1.trans HZS.out) 0; have hgb' : gb ≠ g := Ne.symm hgg; have hbg' := (hoth _ lb0 hnb).2; have hsg' := (hoth _ lsb hnsb).2; have HD := Lib.hid (app_done ⟨⟨k, t, F⟩, ao, cap⟩ HS1.out (by go_grown) HCS.out HKK.out HK.out ho5 hg5 hat5); have HQ := Lib.hid (setCell_four w5 gb g (L.length * 3) (L.length * 3 + 1) (L.length * 3 + 2) (.slice (some ⟨g, 0, none⟩) (L.length + 1) c5) (.int .i64 k) (.int .i64 t) (.slice ao F.els.length cap) hgb'); clear ho5 hg5 hat5 hoth)
  all_goals (try rw [HQ.out])
  all_goals go_wp2
  all_goals go_ret
  all_goals exact ⟨rfl, _, HD.out.1, (Grow2.of_below _ B0.out).trans HD.out.2⟩
end Go.Proofs.Ytknhignklepgeaa
