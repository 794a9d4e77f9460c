/- Pop, Add, New. -/
import Derived.Test.YtjobdofnehajpaaScC
namespace Go.Proofs.Ytjobdofnehajpaa
open Go.RowKit

theorem ScAt.popped {w : World} {s : Nat} {F : Nat → Prop} {ms : List Mp} {m : Mp} (h : ScAt w s F (ms ++ [m])) (_hne : ms ≠ []) :
    ∃ A cap, w.cell? ⟨s, 0, none⟩ = some (.slice (some ⟨A, 0, none⟩) (ms.length + 1) cap) ∧ w.frozen? ⟨s, 0, none⟩ = false ∧ ms.length + 1 ≤ cap ∧ cap ≤ maxLen ∧
      ScAt (w.setCell ⟨s, 0, none⟩ (.slice (some ⟨A, 0, none⟩) ms.length cap)) s F ms ∧ Fo F w (w.setCell ⟨s, 0, none⟩ (.slice (some ⟨A, 0, none⟩) ms.length cap)) := by
  obtain ⟨ao, cap, gs, h1, h2, h3, h4, h5, h6⟩ := h.h
  have hl : gs.length = ms.length + 1 := by simpa using h2.1
  have c0 := blk_cell h1 0
  have f0 := blk_free h1 0
  rw [show (#[.slice ao (ms ++ [m]).length cap] : Array Value)[0]? = some (.slice ao (ms ++ [m]).length cap) from rfl, List.length_append, List.length_singleton] at c0
  have hs := h.s
  have far : ∀ v k, k ≠ s → (w.setCell ⟨s, 0, none⟩ v).heap[k]? = w.heap[k]? := fun v k hk => Below.heap_setCell _ _ _ _ (by exact hk)
  rw [List.length_append, List.length_singleton] at h1 h2
  rcases h2.2 with ⟨e, h0⟩ | ⟨A, cap', cur, hv, q1, q2, q3, q4, q5, q6⟩
  · exact absurd h0 (by omega)
  · injection hv with e1 e2 e3
    subst e1 e3
    refine ⟨A, cap, c0, f0, q3, q4, ⟨⟨some ⟨A, 0, none⟩, cap, gs.take ms.length, blk_set h1 0 _, ⟨by simp; omega, .inr ⟨A, cap, cur, rfl, q1, (far _ A (fun e => blk_ne_type h1 q2 (by decide) e.symm)).trans q2, by omega, q4, q5, ?_⟩⟩, ?_, h4.sublist (List.take_sublist _ _), h5, fun g hg => h6 g (List.mem_of_mem_take hg)⟩, hs⟩,
      rfl, rfl, rfl, by simp, fun k hk hf => far _ k (fun e => hs (e ▸ hf))⟩
    · rw [List.map_take]
      rw [← q6, List.take_take]
      congr 1
      omega
    · intro i g m' hgi hmi
      have hi : i < ms.length := by
        rcases Nat.lt_or_ge i ms.length with h | h
        · exact h
        · rw [List.getElem?_eq_none h] at hmi; cases hmi
      rw [List.getElem?_take_of_lt hi] at hgi
      have hm := h3 i g m' hgi (by rw [List.getElem?_append_left hi]; exact hmi)
      exact hm.same (far _ g (map_ne_blk hm h1))
theorem pop_nil (w : World) : Calls Try.prog 11 #[.pointer none] w fun e w' => e = .returned (.bool false) ∧ w = w' := by
  have Hd := Lib.hid deep_nil
  go_enter Try.func11, Try.ntmps11
  go_wp2_with (with_reducible refine halt_call ?_)
  refine Halted.run ((Hd.out _).mono ?_); rintro e w' ⟨rfl, rfl⟩
  go_wp2
  go_ret
  exact ⟨rfl, rfl⟩
theorem pop_one (w : World) (s : Nat) (F : Nat → Prop) (ms : List Mp) (h : ScAt w s F ms) (hl : ms.length < 2) :
    Calls Try.prog 11 #[.pointer (some ⟨s, 0, none⟩)] w fun e w' => e = .returned (.bool false) ∧ w = w' := by
  have Hd := Lib.hid (deep_any w s F ms h)
  have h2 : ((ms.length : Int) < 2) := by omega
  clear h
  go_enter Try.func11, Try.ntmps11
  go_wp2_with (with_reducible refine halt_call ?_)
  refine Halted.run (Hd.out.mono ?_); rintro e w' ⟨rfl, rfl⟩
  go_wp2
  go_ret
  exact ⟨rfl, rfl⟩
set_option maxHeartbeats 1000000 in
theorem pop_any (w : World) (s : Nat) (F : Nat → Prop) (ms : List Mp) (m : Mp) (h : ScAt w s F (ms ++ [m])) (hne : ms ≠ []) (hlen : ms.length < 100000) :
    Calls Try.prog 11 #[.pointer (some ⟨s, 0, none⟩)] w fun e w' => e = .returned (.bool true) ∧ ScAt w' s F ms ∧ Fo F w w' := by
  have Hd := Lib.hid (deep_any w s F _ h)
  rw [List.length_append, List.length_singleton] at Hd
  obtain ⟨A, cap, c0, f0, hc1, hc2, hs, hf⟩ := h.popped hne
  have Hs := Lib.hid hs; have Hf := Lib.hid hf
  have hp : 0 < ms.length := List.length_pos_iff.2 hne
  have h2 : ¬ ((ms.length : Int) + 1 < 2) := by omega
  have h2b : decide ((ms.length : Int) + 1 < 2) = false := decide_eq_false h2
  have hw : IntKind.i64.wrap ((ms.length : Int) + 1 - 1) = ms.length := by rw [show (ms.length : Int) + 1 - 1 = (ms.length : Int) by omega]; exact IntWalk.i64_in _ (by omega)
  have hc3 : ms.length ≤ cap := by omega
  clear h hs hf hne
  go_enter Try.func11, Try.ntmps11
  go_wp2_with (with_reducible refine halt_call ?_)
  refine Halted.run (Hd.out.mono ?_); rintro e w' ⟨rfl, rfl⟩
  go_wp2
  go_region
  all_goals go_wp2
  all_goals go_ret
  all_goals exact ⟨rfl, Hs.out.below (Below.refl _ _).drew, Hf.out.trans (Fo.of_below (Below.refl _ _).drew)⟩
theorem ScAt.added {w : World} {s : Nat} {F : Nat → Prop} {ms : List Mp} {m : Mp} (h : ScAt w s F (ms ++ [m])) (name : ByteArray) (d : Dc) (hn : look m name = none) :
    ∃ A cap g w', w.cell? ⟨s, 0, none⟩ = some (.slice (some ⟨A, 0, none⟩) (ms.length + 1) cap) ∧ w.cell? ⟨A, ms.length, none⟩ = some (.map (some g)) ∧
      (Instr.mapUpdate 48 (.map (some g)) (.string name) d.v).run Try.prog w = .ok () w' ∧ ScAt w' s F (ms ++ [m ++ [(name, d)]]) ∧ Fo F w w' := by
  obtain ⟨ao, cap, gs, h1, h2, h3, h4, h5, h6⟩ := h.h
  have hl : gs.length = ms.length + 1 := by simpa using h2.1
  have c0 := blk_cell h1 0
  rw [show (#[.slice ao (ms ++ [m]).length cap] : Array Value)[0]? = some (.slice ao (ms ++ [m]).length cap) from rfl, List.length_append, List.length_singleton] at c0
  rcases h2.2 with ⟨e, h0⟩ | ⟨A, cap', cur, hv, _, hA, _⟩
  · exact absurd h0 (by simp)
  · injection hv with e1 e2 e3
    subst e1 e3
    have hg : ms.length < gs.length := by omega
    have hm := h3 ms.length _ m (List.getElem?_eq_getElem hg) (by simp)
    have hgm : gs[ms.length] ∈ gs := List.getElem_mem _
    obtain ⟨w', hr, hm', hgr⟩ := run_update hm name d hn
    have hc := h2.cells (g := A) rfl ms.length (.map (some gs[ms.length])) (by simp [hg])
    rw [add_at] at hc
    have sne := map_ne_blk hm h1
    have ane := map_ne_blk hm hA
    refine ⟨A, cap, gs[ms.length], w', c0, hc, hr, ⟨⟨some ⟨A, 0, none⟩, cap, gs, ?_, ?_, ?_, h4, h5, h6⟩, h.s⟩, Fo.of_grown hgr (h6 _ hgm)⟩
    · rw [hgr.block s h.lt (fun e => sne (by injection e with e; exact e.symm)), h1]
      simp
    · have := owns_same (w' := w') h2 (fun g' hg' => by cases hg'; exact hgr.block A (Array.getElem?_eq_some_iff.1 hA).1 (fun e => ane (by injection e with e; exact e.symm)))
      simpa using this
    · intro i g' m' hgi hmi
      rcases Nat.lt_or_ge i ms.length with hi | hi
      · rw [List.getElem?_append_left hi] at hmi
        have hm2 := h3 i g' m' hgi (by rw [List.getElem?_append_left hi]; exact hmi)
        refine hm2.same (hgr.block g' hm2.lt (fun e => ?_))
        injection e with e
        have hi2 : i < gs.length := by omega
        rw [List.getElem?_eq_getElem hi2] at hgi
        injection hgi with hgi
        have := (List.getElem_inj h4 (h₀ := hi2) (h₁ := hg)).1 (hgi.trans e)
        omega
      · rw [List.getElem?_append_right hi] at hmi
        have hi0 : i = ms.length := by
          rcases Nat.lt_or_ge (i - ms.length) 1 with h | h
          · omega
          · rw [List.getElem?_eq_none (by simpa using h)] at hmi; cases hmi
        subst hi0
        rw [List.getElem?_eq_getElem hg] at hgi
        simp at hgi hmi
        subst hgi hmi
        exact hm'
end Go.Proofs.Ytjobdofnehajpaa
