/- The reference's Eq. -/
import Derived.Test.YtknhignklepgeaaEq
import Derived.Deep.RegionWith
import Derived.BigQuiet
namespace Go.Proofs.Ytknhignklepgeaa
open Go.RowKit

set_option maxHeartbeats 4000000 in
theorem eqR_any (F : Fo) : QEq 9 F := by
  refine Fo.ind (Q := QEq 9) (fun F IH G w k t k' t' ao ao' cap cap' hF hG => ?_) F
  have b2 : Below w.heap.size w ((w.alloc (.cells #[.int .i64 k, .int .i64 t, .slice ao F.els.length cap] 26)).alloc (.cells #[.int .i64 k', .int .i64 t', .slice ao' G.els.length cap'] 26)) := ((Below.refl _ _).alloc (Nat.le_refl _) _).alloc (by simp) _
  have z1 : ((w.alloc (.cells #[.int .i64 k, .int .i64 t, .slice ao F.els.length cap] 26)).alloc (.cells #[.int .i64 k', .int .i64 t', .slice ao' G.els.length cap'] 26)).heap[w.heap.size]? = some (.cells #[.int .i64 k, .int .i64 t, .slice ao F.els.length cap] 26 (0, 0)) := by
    show ((w.heap.push _).push _)[w.heap.size]? = _
    simp [Array.getElem?_push]
  have z2 : ((w.alloc (.cells #[.int .i64 k, .int .i64 t, .slice ao F.els.length cap] 26)).alloc (.cells #[.int .i64 k', .int .i64 t', .slice ao' G.els.length cap'] 26)).heap[w.heap.size + 1]? = some (.cells #[.int .i64 k', .int .i64 t', .slice ao' G.els.length cap'] 26 (0, 0)) := by
    have := blk_new (w.alloc (.cells #[.int .i64 k, .int .i64 t, .slice ao F.els.length cap] 26)) (.cells #[.int .i64 k', .int .i64 t', .slice ao' G.els.length cap'] 26)
    rwa [World.size_alloc] at this
  have g2 : ((w.alloc (.cells #[.int .i64 k, .int .i64 t, .slice ao F.els.length cap] 26)).alloc (.cells #[.int .i64 k', .int .i64 t', .slice ao' G.els.length cap'] 26)).heap.size = w.heap.size + 2 := by simp
  have HF := Lib.hid (hF.below b2); have HG := Lib.hid (hG.below b2); have HIH := Lib.hid IH
  have B2 := Lib.hid b2; have Z1 := Lib.hid z1; have Z2 := Lib.hid z2
  have hl1 := hF.1; have hl2 := hF.2.1; have hl3 := hG.1; have hl4 := hG.2.1
  clear IH hF hG b2 z1 z2
  unfold nodeV
  by_cases hk : k = k'
  rotate_left
  · have e : (k == k' && t == t' && eqF F G) = false := by simp [hk]
    rw [e]
    clear e
    go_enter Try.func9, Try.ntmps9
    go_wp2
    go_ret
    exact ⟨rfl, B2.out⟩
  subst hk
  by_cases ht : t = t'
  rotate_left
  · have e : (k == k && t == t' && eqF F G) = false := by simp [ht]
    rw [e]
    clear e
    go_enter Try.func9, Try.ntmps9
    go_wp2
    go_ret
    exact ⟨rfl, B2.out⟩
  subst ht
  have e : (k == k && t == t && eqF F G) = eqF F G := by simp
  rw [e]
  clear e
  by_cases hne : F.els.length = G.els.length
  rotate_left
  · have hr := eqF_len F G hne
    have hb : ((F.els.length : Int) != G.els.length) = true := by simp; omega
    rw [hr]
    go_enter Try.func9, Try.ntmps9
    go_wp2
    go_ret
    exact ⟨rfl, B2.out⟩
  have hb : ((F.els.length : Int) != G.els.length) = false := by simp; omega
  have HNE := Lib.hid hne
  clear hne
  go_enter Try.func9, Try.ntmps9
  go_wp2
  generalize ((w.alloc (.cells #[.int .i64 k, .int .i64 t, .slice ao F.els.length cap] 26)).alloc (.cells #[.int .i64 k, .int .i64 t, .slice ao' G.els.length cap'] 26)) = w2 at *
  go_loopw [5] (fun i wx => ∃ j : Nat, j ≤ F.els.length ∧ i = .int .i64 j ∧ (∀ i (h1 : i < F.els.length) (h2 : i < G.els.length), i < j → eqE F.els[i] G.els[i] = true) ∧ Below w2.heap.size w2 wx) (fun i _ => F.els.length - (intOf i).toNat)
  case atStart => exact ⟨0, Nat.zero_le _, rfl, fun i _ _ h => absurd h (by omega), Below.refl _ _⟩
  case round =>
    obtain ⟨j, hj, rfl, hall, hB⟩ := hrel
    have x2 : wr.cell? ⟨w.heap.size, 2, none⟩ = some (.slice ao F.els.length cap) := (tri_cells ((hB.block _ (by omega)).trans Z1.out)).2.2
    have y2 : wr.cell? ⟨w.heap.size + 1, 2, none⟩ = some (.slice ao' G.els.length cap') := (tri_cells ((hB.block _ (by omega)).trans Z2.out)).2.2
    by_cases hlt : j < F.els.length
    · have hlt2 : j < G.els.length := by have := HNE.out; omega
      obtain ⟨a, ha, c0, c1, ao1, cap1, c2, hk1⟩ := (HF.out.below hB).nth j hlt
      obtain ⟨a', ha', d0, d1, ao2, cap2, d2, hk2⟩ := (HG.out.below hB).nth j hlt2
      have IHj := HIH.out _ (List.getElem_mem hlt)
      have hat := eqF_at F G j hlt hlt2
      have hall2 : eqE F.els[j] G.els[j] = true → ∀ i (h1 : i < F.els.length) (h2 : i < G.els.length), i < j + 1 → eqE F.els[i] G.els[i] = true := fun he i h1 h2 h3 => by
        rcases Nat.lt_or_ge i j with h | h
        · exact hall i h1 h2 h
        · have : i = j := by omega
          subst this; exact he
      have HALL := Lib.hid hall2
      have HAT := Lib.hid hat
      clear hall2 hall hat
      generalize F.els[j] = e at *
      generalize G.els[j] = f at *
      obtain ⟨ek, et, eks⟩ := e
      obtain ⟨fk, ft, fks⟩ := f
      subst ha ha'
      have hcall := IHj fks wr.drew ek et fk ft ao1 ao2 cap1 cap2 (hk1.below (Below.refl _ _).drew) (hk2.below (Below.refl _ _).drew)
      have HB := Lib.hid hB; have HC := Lib.hid hcall
      clear hB hk1 hk2 IHj hcall
      unfold nodeV at HC
      cases hq : (ek == fk && et == ft && eqF eks fks) with
      | true =>
        rw [hq] at HC
        go_wp2
        go_region_with (first | (go_at_call 9; with_reducible refine (HC.out).mono ?_; rintro e w3 ⟨rfl, hb3⟩))
        all_goals go_wp2
        all_goals exact ⟨⟨j + 1, by omega, by go_num, HALL.out hq, below_step HB.out.drew hb3⟩, by simp [intOf]; omega⟩
      | false =>
        rw [hq] at HC
        go_wp2
        go_region_with (first | (go_at_call 9; with_reducible refine (HC.out).mono ?_; rintro e w3 ⟨rfl, hb3⟩))
        all_goals go_wp2
        all_goals go_ret
        all_goals exact ⟨by rw [HAT.out hq]; rfl, below_step (below_step B2.out HB.out).drew hb3⟩
    · have hje : j = F.els.length := by omega
      subst hje
      have hr := eqF_true F G HNE.out (fun i h1 h2 => hall i h1 h2 h1)
      have HB := Lib.hid hB
      clear hB hall
      go_wp2
      go_ret
      exact ⟨by rw [hr]; rfl, below_step B2.out HB.out⟩
end Go.Proofs.Ytknhignklepgeaa
