/- Push. -/
import Derived.Test.YtjobdofnehajpaaScB
import Derived.Maps.AppendAt
namespace Go.Proofs.Ytjobdofnehajpaa
open Go.RowKit

theorem blk_ne_type {w : World} {a b : Nat} {C D : Array Value} {t u : TypeId} {m n : Nat × Nat} (h : w.heap[a]? = some (.cells C t m)) (k : w.heap[b]? = some (.cells D u n)) (hn : t ≠ u) : a ≠ b := by
  rintro rfl
  rw [h] at k
  injection k with k
  injection k with _ k
  exact hn k
theorem map_ne_blk {w : World} {a b : Nat} {m : Mp} {D : Array Value} {u : TypeId} {n : Nat × Nat} (h : MapAt w a m) (k : w.heap[b]? = some (.cells D u n)) : a ≠ b := by
  rintro rfl
  obtain ⟨es, clk, h1, _⟩ := h
  rw [h1] at k
  injection k with k
  cases k
theorem own_heap {w : World} {base n : Nat} {e : TypeId} {v : Value} {xs : List Value} (h : w.ownsRow base e 1 v n xs) (g : Nat) (hg : v.ownBlock = some g) : ∃ cur, w.heap[g]? = some (.cells cur e (0, 0)) := by
  rcases h.2 with ⟨h0, _⟩ | ⟨g', cap, cur, hv, _, q2, _⟩
  · rw [h0] at hg; cases hg
  · rw [hv] at hg
    cases hg
    exact ⟨cur, q2⟩
theorem own_slice {w : World} {base n : Nat} {e : TypeId} {v : Value} {xs : List Value} (h : w.ownsRow base e 1 v (n + 1) xs) : ∃ ao cap, v = .slice ao (n + 1) cap := by
  rcases h.2 with ⟨_, h0⟩ | ⟨g', cap', cur, hv, _⟩
  · omega
  · exact ⟨_, _, hv⟩
theorem ScAt.pushed {w : World} {s : Nat} {F : Nat → Prop} {ms : List Mp} (h : ScAt w s F ms) (hF : ∀ k, F k → k < w.heap.size) {ao : Option Addr} {cap : Nat} {gs : List Nat}
    (h1 : w.heap[s]? = some (.cells #[.slice ao ms.length cap] 47 (0, 0))) (h2 : w.ownsRow 0 48 1 (.slice ao ms.length cap) ms.length (gs.map (fun g => Value.map (some g))))
    (h3 : ∀ (i g : Nat) (m : Mp), gs[i]? = some g → ms[i]? = some m → MapAt w g m) (h4 : gs.Nodup) (h5 : ∀ a, ao = some a → ¬ F a.block) (h6 : ∀ g, g ∈ gs → ¬ F g)
    {v' : Value} {w' : World} (ho : w'.ownsRow 0 48 1 v' (ms.length + 1) (gs.map (fun g => Value.map (some g)) ++ [.map (some w.heap.size)]))
    (hg : ((w.alloc (.map #[] 0)).alloc (.cells #[.map (some w.heap.size)] 48)).grownBy w' (Value.slice ao ms.length cap).ownBlock)
    (hat : v'.ownBlock = (Value.slice ao ms.length cap).ownBlock ∨ v'.ownBlock = some ((w.alloc (.map #[] 0)).alloc (.cells #[.map (some w.heap.size)] 48)).heap.size) :
    ScAt (w'.setCell ⟨s, 0, none⟩ v') s F (ms ++ [[]]) ∧ Fo F w (w'.setCell ⟨s, 0, none⟩ v') := by
  have hl : gs.length = ms.length := by simpa using h2.1
  have z1 : ((w.alloc (.map #[] 0)).alloc (.cells #[.map (some w.heap.size)] 48)).heap.size = w.heap.size + 2 := by simp
  have b1 : Below w.heap.size w ((w.alloc (.map #[] 0)).alloc (.cells #[.map (some w.heap.size)] 48)) := ((Below.refl _ _).alloc (Nat.le_refl _) _).alloc (by simp) _
  have m1 : ((w.alloc (.map #[] 0)).alloc (.cells #[.map (some w.heap.size)] 48)).heap[w.heap.size]? = some (.map #[] 0) := by
    show ((w.heap.push _).push _)[w.heap.size]? = _
    simp [Array.getElem?_push]
  generalize ((w.alloc (.map #[] 0)).alloc (.cells #[.map (some w.heap.size)] 48)) = w1 at *
  have ob : ∀ g, (Value.slice ao ms.length cap).ownBlock = some g → ∃ a, ao = some a ∧ a.block = g := by
    intro g hg'
    cases ao with
    | none => cases hg'
    | some a => cases hg'; exact ⟨a, rfl, rfl⟩
  have obl : ∀ g, (Value.slice ao ms.length cap).ownBlock = some g → g < w.heap.size := fun g hg' => by
    obtain ⟨cur, hc⟩ := own_heap h2 g hg'
    exact (Array.getElem?_eq_some_iff.1 hc).1
  have keep : ∀ k, k < w.heap.size → some k ≠ (Value.slice ao ms.length cap).ownBlock → w'.heap[k]? = w.heap[k]? := fun k hk hn =>
    (hg.block k (by rw [z1]; omega) hn).trans (b1.block k hk)
  have sne : some s ≠ (Value.slice ao ms.length cap).ownBlock := fun e => by
    obtain ⟨cur, hc⟩ := own_heap h2 s e.symm
    exact blk_ne_type h1 hc (by decide) rfl
  have hs' := (keep s h.lt sne).trans h1
  have sl := h.lt
  have far : ∀ k, k ≠ s → (w'.setCell ⟨s, 0, none⟩ v').heap[k]? = w'.heap[k]? := fun k hk => Below.heap_setCell _ _ _ _ (by exact hk)
  have vs : ∃ ao' cap', v' = .slice ao' (ms.length + 1) cap' := by
    rcases ho.2 with ⟨_, h0⟩ | ⟨g', cap', cur, hv, _⟩
    · omega
    · exact ⟨_, _, hv⟩
  obtain ⟨ao', cap', rfl⟩ := vs
  have ob' : ∀ a, ao' = some a → (Value.slice ao' (ms.length + 1) cap').ownBlock = some a.block := fun a ha => by subst ha; rfl
  refine ⟨⟨⟨ao', cap', gs ++ [w.heap.size], ?_, ?_, ?_, ?_, ?_, ?_⟩, h.s⟩, ?_⟩
  · rw [List.length_append, List.length_singleton]
    exact blk_set hs' 0 _
  · rw [List.length_append, List.length_singleton, List.map_append]
    refine owns_same ho (fun g hg' => far g (fun e => ?_))
    subst e
    obtain ⟨cur, hc⟩ := own_heap ho g hg'
    exact blk_ne_type hs' hc (by decide) rfl
  · intro i g m hgi hmi
    by_cases hi : i < gs.length
    · rw [List.getElem?_append_left hi] at hgi
      rw [List.getElem?_append_left (by omega)] at hmi
      have hm := h3 i g m hgi hmi
      refine hm.same ((far g (map_ne_blk hm h1)).trans (keep g hm.lt (fun e => ?_)))
      obtain ⟨cur, hc⟩ := own_heap h2 g e.symm
      exact map_ne_blk hm hc rfl
    · rw [List.getElem?_append_right (by omega)] at hgi hmi
      have hi' : i = gs.length := by
        rcases Nat.lt_or_ge (i - gs.length) 1 with h | h
        · omega
        · rw [List.getElem?_eq_none (by simpa using h)] at hgi; cases hgi
      subst hi'
      rw [hl] at hmi
      simp at hgi hmi
      subst hgi hmi
      refine ⟨#[], 0, (far _ (by omega)).trans ((hg.block _ (by omega) (fun e => ?_)).trans m1), rfl⟩
      have := obl _ e.symm
      omega
  · rw [List.nodup_append]
    refine ⟨h4, by simp, fun a ha b hb => ?_⟩
    simp at hb
    subst hb
    obtain ⟨i, hi, rfl⟩ := List.getElem_of_mem ha
    have := (h3 i _ _ (List.getElem?_eq_getElem hi) (List.getElem?_eq_getElem (by omega))).lt
    omega
  · intro a ha hf
    have hlt := hF _ hf
    rcases hat with e | e
    · rw [ob' a ha] at e
      obtain ⟨a0, q1, q2⟩ := ob _ e.symm
      exact h5 a0 q1 (by rw [q2]; exact hf)
    · rw [ob' a ha] at e
      injection e with e
      omega
  · intro g hg' hf
    rcases List.mem_append.1 hg' with hg' | hg'
    · exact h6 g hg' hf
    · simp at hg'
      have := hF _ hf
      omega
  · refine ⟨hg.os.trans b1.os, hg.tape.trans b1.tape, hg.output.trans b1.output, ?_, fun k hk hf => (far k (fun e => h.s (e ▸ hf))).trans (keep k hk (fun e => ?_))⟩
    · have := hg.size
      simp
      omega
    · obtain ⟨a0, q1, q2⟩ := ob k e.symm
      exact h5 a0 q1 (by rw [q2]; exact hf)
theorem push_nil (w : World) : Calls Try.prog 10 #[.pointer none] w fun e w' => e = .returned (.tuple #[]) ∧ w = w' := by
  go_enter Try.func10, Try.ntmps10
  go_wp2
  go_end0
  exact ⟨rfl, rfl⟩
theorem info48' : (Try.prog.info? 48).map (fun i => (i.zero, i.size, i.bytes)) = some (some (.map none), 1, 8) := by kernel_rfl
set_option maxHeartbeats 1000000 in
theorem push_any (w : World) (s : Nat) (F : Nat → Prop) (ms : List Mp) (h : ScAt w s F ms) (hlen : ms.length < 100000) (hF : ∀ k, F k → k < w.heap.size) :
    Calls Try.prog 10 #[.pointer (some ⟨s, 0, none⟩)] w fun e w' => e = .returned (.tuple #[]) ∧ ScAt w' s F (ms ++ [[]]) ∧ Fo F w w' := by
  obtain ⟨i0, hi, hz0, hz1, hz2⟩ := info_parts info48'
  obtain ⟨ao, cap, gs, h1, h2, h3, h4, h5, h6⟩ := h.h
  have c0 : w.cell? ⟨s, 0, none⟩ = some (.slice ao ms.length cap) := blk_cell h1 0
  have f0 := blk_free h1 0
  have ls := h.lt
  have ls' : s < w.heap.size + 1 := Nat.lt_succ_of_lt ls; have ls2 : s < w.heap.size + 1 + 1 := Nat.lt_succ_of_lt ls'
  have hmm := @run_makeMap Try.prog
  have H1 := Lib.hid h1; have H2 := Lib.hid h2; have H3 := Lib.hid h3; have H4 := Lib.hid h4; have H5 := Lib.hid h5; have H6 := Lib.hid h6; have H := Lib.hid h; have HF := Lib.hid hF
  have Hpu := fun (v' : Value) (w' : World) => Lib.hid (@ScAt.pushed w s F ms h hF ao cap gs h1 h2 h3 h4 h5 h6 v' w')
  have Hi := Lib.hid hi; have Hz0 := Lib.hid hz0; have Hz1 := Lib.hid hz1; have Hz2 := Lib.hid hz2
  have H2a := Lib.hid ((h2.alloc (.map #[] 0)).alloc (.cells #[.map (some w.heap.size)] 48))
  clear h1 h2 h3 h4 h5 h6 hi hz0 hz1 hz2
  clear h hF
  go_enter Try.func10, Try.ntmps10
  go_wp2_with (with_reducible refine halt_op 11 ?_)
  refine Halted.run (wpList_append_own_at _ rfl (.tmp 8) (.tmp 10) 45 rfl 0 48 i0 (.map none) 1 8 Try.underlying45 Hi.out Hz0.out Hz1.out Hz2.out rfl (by decide) _ _ _ rfl H2a.out ⟨w.heap.size + 1, 0, none⟩ 1 1 [.map (some w.heap.size)] rfl rfl (by have := cell_one_new (w.alloc (.map #[] 0)) (.map (some w.heap.size)) 48; rwa [World.size_alloc] at this) (by simp [Value.oneCell']) (by unfold maxLen; omega) (by omega) (Nat.zero_le _) ?_)
  intro v' w' ho hg _ hat
  obtain ⟨ao', cap', rfl⟩ := own_slice ho
  obtain ⟨p1, p2⟩ := (Hpu _ w').out ho hg hat
  have sne : some s ≠ (Value.slice ao ms.length cap).ownBlock := fun e => by
    obtain ⟨cur, hc⟩ := own_heap H2.out s e.symm
    exact blk_ne_type H1.out hc (by decide) rfl
  have b1 : Below w.heap.size w ((w.alloc (.map #[] 0)).alloc (.cells #[.map (some w.heap.size)] 48)) := ((Below.refl _ _).alloc (Nat.le_refl _) _).alloc (by simp) _
  have hs' : w'.heap[s]? = some (.cells #[.slice ao ms.length cap] 47 (0, 0)) := (hg.block s (by simp; omega) sne).trans ((b1.block s ls).trans H1.out)
  have d0 := blk_cell hs' 0; have e0 := blk_free hs' 0
  have P1 := Lib.hid p1; have P2 := Lib.hid p2
  clear ho hg hat p1 p2 b1 hs' Hpu H2a
  go_wp2
  go_end0
  exact ⟨rfl, P1.out, P2.out⟩
end Go.Proofs.Ytjobdofnehajpaa
