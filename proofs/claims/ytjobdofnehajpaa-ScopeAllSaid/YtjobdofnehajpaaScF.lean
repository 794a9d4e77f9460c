/- New, Cut, one text (begun). -/
import Derived.Test.YtjobdofnehajpaaScE
namespace Go.Proofs.Ytjobdofnehajpaa
open Go.RowKit

theorem ScAt.mono {w : World} {s : Nat} {F F' : Nat → Prop} {ms : List Mp} (h : ScAt w s F ms) (hF : ∀ k, F' k → F k ∨ w.heap.size ≤ k) : ScAt w s F' ms := by
  obtain ⟨ao, cap, gs, h1, h2, h3, h4, h5, h6⟩ := h.h
  have hl : gs.length = ms.length := by simpa using h2.1
  refine ⟨⟨ao, cap, gs, h1, h2, h3, h4, fun a ha hf => ?_, fun g hg hf => ?_⟩, fun hf => ?_⟩
  · rcases hF _ hf with k | k
    · exact h5 a ha k
    · subst ha
      obtain ⟨cur, hc⟩ := own_heap h2 a.block rfl
      have := (Array.getElem?_eq_some_iff.1 hc).1
      omega
  · rcases hF _ hf with k | k
    · exact h6 g hg k
    · obtain ⟨i, hi, rfl⟩ := List.getElem_of_mem hg
      have := (h3 i _ _ (List.getElem?_eq_getElem hi) (List.getElem?_eq_getElem (by omega))).lt
      omega
  · rcases hF _ hf with k | k
    · exact h.s k
    · have := h.lt
      omega
theorem new_any (w : World) : Calls Try.prog 8 #[] w fun e w' => ∃ s, e = .returned (.pointer (some ⟨s, 0, none⟩)) ∧ w.heap.size ≤ s ∧ ScAt w' s (fun k => k < w.heap.size) [[]] ∧ Below w.heap.size w w' := by
  have z0 : (w.alloc (.cells #[.slice none 0 0] 47)).heap[w.heap.size]? = some (.cells #[.slice none 0 0] 47 (0, 0)) := blk_new _ _
  have h0 : ScAt (w.alloc (.cells #[.slice none 0 0] 47)) w.heap.size (fun k => k < w.heap.size) [] :=
    ⟨⟨none, 0, [], z0, World.ownsRow_nil _ _ _ _, fun i g m hg _ => by simp at hg, List.nodup_nil, (fun a ha => by cases ha), (fun g hg => by cases hg)⟩, Nat.lt_irrefl _⟩
  have Hp := Lib.hid (push_any _ _ _ _ h0 (by simp) (fun k hk => by simp; omega))
  have B0 := Lib.hid (show Below w.heap.size w (w.alloc (.cells #[.slice none 0 0] 47)) from (Below.refl _ _).alloc (Nat.le_refl _) _)
  clear h0 z0
  go_enter Try.func8, Try.ntmps8
  go_wp2_with (with_reducible refine halt_call ?_)
  refine Halted.run (Hp.out.mono ?_); rintro e w1 ⟨rfl, hs, hf⟩
  have Hs := Lib.hid hs; have HB := Lib.hid (Fo.below B0.out hf (fun k hk => hk))
  clear hs hf Hp B0
  go_wp2
  go_ret
  exact ⟨_, rfl, Nat.le_refl _, Hs.out, HB.out⟩
/-- What 'Cut' makes of a text. -/
def cutS (s : ByteArray) (n : Nat) : ByteArray := if n < s.size then s.extract 0 n else s
theorem cut_any (w : World) (s : ByteArray) (n : Nat) (hn : n < 1000) : Calls Try.prog 9 #[.string s, .int .i64 n] w fun e w' => e = .returned (.string (cutS s n)) ∧ w = w' := by
  by_cases h : n < s.size
  · have e1 : decide ((s.size : Int) > n) = true := by simp; omega
    rw [show cutS s n = s.extract 0 n from by unfold cutS; rw [if_pos h]]
    go_enter Try.func9, Try.ntmps9
    go_wp2
    go_ret
    exact ⟨rfl, rfl⟩
  · have e1 : decide ((s.size : Int) > n) = false := by simp; omega
    rw [show cutS s n = s from by unfold cutS; rw [if_neg h]]
    go_enter Try.func9, Try.ntmps9
    go_wp2
    go_ret
    exact ⟨rfl, rfl⟩
end Go.Proofs.Ytjobdofnehajpaa
