/- ScopeDeep, in plain words. -/
import Derived.Test.YtjobdofnehajpaaScG
namespace Go.Proofs.Ytjobdofnehajpaa
open Go.RowKit

def RdB (w : World) (ao : Option Addr) (ks : List Bool) : Prop :=
  ∀ i (h : i < ks.length), ∃ a, ao = some a ∧ w.cell? (a.add i) = some (.bool ks[i])
theorem RdB.below {w w' : World} {ao : Option Addr} {ks : List Bool} (h : RdB w ao ks) (hb : Below w.heap.size w w') : RdB w' ao ks := by
  intro i hi
  obtain ⟨a, ha, hc⟩ := h i hi
  exact ⟨a, ha, by rw [hb.cell (World.block_lt_of_cell? _ _ hc)]; exact hc⟩
theorem RdB.nil {w : World} {ao : Option Addr} : RdB w ao [] := fun _ h => absurd h (by simp)

/-- The scope j, when n scopes have been opened beside the first. -/
def sc (own : List Bool) (n j : Nat) : Mp := if j < n ∧ own.getD j false = true then [(X, ⟨j, 0, 0⟩)] else []
def scs (own : List Bool) (n c : Nat) : List Mp := (List.range c).map (sc own n)
def lst (own : List Bool) : Nat → List Int
  | 0 => []
  | c + 1 => if own.getD c false then lst own c ++ [(c : Int)] else lst own c
/-- The innermost scope below c that has the name. -/
def best (own : List Bool) (n : Nat) : Nat → Int
  | 0 => -1
  | c + 1 => if c < n ∧ own.getD c false = true then c else best own n c
def pick (i k x : Int) : Int := if x ≤ i then x else k
theorem scs_length (own : List Bool) (n c : Nat) : (scs own n c).length = c := by simp [scs]
theorem scs_succ (own : List Bool) (n c : Nat) : scs own n (c + 1) = scs own n c ++ [sc own n c] := by simp [scs, List.range_succ]
theorem sc_next (own : List Bool) (n : Nat) : scs own (n + 1) n = scs own n n := by
  unfold scs
  apply List.map_congr_left
  intro j hj
  have : j < n := by simpa using hj
  unfold sc
  by_cases h : own.getD j false = true
  · rw [if_pos ⟨by omega, h⟩, if_pos ⟨this, h⟩]
  · rw [if_neg (fun e => h e.2), if_neg (fun e => h e.2)]
theorem sc_last (own : List Bool) (n : Nat) : sc own n n = [] := by
  unfold sc
  rw [if_neg (by omega)]
theorem best_lt (own : List Bool) (n : Nat) : ∀ c, best own n c < c ∧ -1 ≤ best own n c
  | 0 => ⟨by show (-1 : Int) < 0; omega, Int.le_refl _⟩
  | c + 1 => by
    have := best_lt own n c
    unfold best
    split <;> omega
theorem find_best (own : List Bool) (n : Nat) : ∀ c, findD (scs own n c) X = if best own n c = -1 then none else some ⟨best own n c, 0, 0⟩
  | 0 => rfl
  | c + 1 => by
    have e : best own n (c + 1) = if c < n ∧ own.getD c false = true then (c : Int) else best own n c := rfl
    rw [scs_succ, findD_snoc, find_best own n c, e]
    unfold sc
    by_cases h : c < n ∧ own.getD c false = true
    · rw [if_pos h, if_pos h, look_self, Option.some_or, if_neg (by omega)]
    · rw [if_neg h, if_neg h]
      rfl
theorem lst_len (own : List Bool) : ∀ c, (lst own c).length ≤ c
  | 0 => Nat.le_refl _
  | c + 1 => by
    have := lst_len own c
    unfold lst
    split <;> simp <;> omega
theorem fold_best (own : List Bool) (n i : Nat) : ∀ c, c ≤ n → (lst own c).foldl (pick i) (-1) = best own n (min c (i + 1))
  | 0, _ => by simp [lst, best]
  | c + 1, h => by
    have ih := fold_best own n i c (by omega)
    unfold lst
    by_cases ho : own.getD c false = true
    · rw [if_pos ho, List.foldl_append, ih]
      simp only [List.foldl_cons, List.foldl_nil]
      unfold pick
      by_cases hc : c ≤ i
      · rw [if_pos (by omega), show min (c + 1) (i + 1) = c + 1 by omega, best, if_pos ⟨by omega, ho⟩]
      · rw [if_neg (by omega), show min (c + 1) (i + 1) = i + 1 by omega, show min c (i + 1) = i + 1 by omega]
    · rw [if_neg ho, ih]
      by_cases hc : c ≤ i
      · rw [show min (c + 1) (i + 1) = c + 1 by omega, show min c (i + 1) = c by omega, best, if_neg (fun e => ho e.2)]
      · rw [show min (c + 1) (i + 1) = i + 1 by omega, show min c (i + 1) = i + 1 by omega]
theorem fold_all (own : List Bool) (n i : Nat) (hi : i ≤ n) : (lst own n).foldl (pick i) (-1) = best own n (i + 1) := by
  rw [fold_best own n i n (Nat.le_refl _)]
  by_cases h : i = n
  · subst h
    rw [show min i (i + 1) = i by omega, best, if_neg (by omega)]
  · rw [show min n (i + 1) = i + 1 by omega]
theorem scs_next (own : List Bool) (k : Nat) : scs own (k + 1) (k + 2) = scs own k k ++ [if own.getD k false = true then [(X, ⟨k, 0, 0⟩)] else []] ++ [[]] := by
  rw [scs_succ, scs_succ, sc_next, sc_last]
  congr 3
  unfold sc
  by_cases h : own.getD k false = true
  · rw [if_pos ⟨by omega, h⟩, if_pos h]
  · rw [if_neg (fun e => h e.2), if_neg h]
/-- What is F's: what was there ahead of the call, and the row of v. -/
def Fv (n0 : Nat) (v : Value) : Nat → Prop := fun k => k < n0 ∨ v.ownBlock = some k
/-- What is not F's may be turned. -/
theorem ScAt.inF {w w' : World} {s : Nat} {F : Nat → Prop} {ms : List Mp} (h : ScAt w s F ms) (hb : ∀ k, k < w.heap.size → ¬ F k → w'.heap[k]? = w.heap[k]?) : ScAt w' s F ms := by
  obtain ⟨ao, cap, gs, h1, h2, h3, h4, h5, h6⟩ := h.h
  have hl : gs.length = ms.length := by simpa using h2.1
  refine ⟨⟨ao, cap, gs, (hb s h.lt h.s).trans h1, owns_same h2 (fun g hg => ?_), fun i g m hg hm => (h3 i g m hg hm).same (hb g (h3 i g m hg hm).lt (h6 g (List.mem_of_getElem? hg))), h4, h5, h6⟩, h.s⟩
  obtain ⟨cur, hc⟩ := own_heap h2 g hg
  refine hb g (Array.getElem?_eq_some_iff.1 hc).1 ?_
  cases ao with
  | none => cases hg
  | some a => cases hg; exact h5 a rfl
/-- The row of v has been appended to, and is v' now. -/
theorem ScAt.grownRow {w w' : World} {s n0 : Nat} {v v' : Value} {ms : List Mp} (h : ScAt w s (Fv n0 v) ms) (hg : w.grownBy w' v.ownBlock) (hat : v'.ownBlock = v.ownBlock ∨ v'.ownBlock = some w.heap.size) : ScAt w' s (Fv n0 v') ms := by
  have h1 : ScAt w s (fun k => Fv n0 v k ∨ Fv n0 v' k) ms := h.mono (fun k hk => by
    rcases hk with hk | hk | hk
    · exact .inl hk
    · exact .inl (.inl hk)
    · rcases hat with e | e
      · exact .inl (.inr (e ▸ hk))
      · rw [e] at hk
        injection hk with hk
        exact .inr (by omega))
  have h2 : ScAt w' s (fun k => Fv n0 v k ∨ Fv n0 v' k) ms := h1.inF (fun k hk hn => hg.block k hk (fun e => hn (.inl (.inr e.symm))))
  exact h2.mono (fun k hk => .inl (.inr hk))
theorem own_lt {w : World} {base n : Nat} {e : TypeId} {v : Value} {xs : List Value} (h : w.ownsRow base e 1 v n xs) (g : Nat) (hg : v.ownBlock = some g) : g < w.heap.size := by
  obtain ⟨cur, hc⟩ := own_heap h g hg
  exact (Array.getElem?_eq_some_iff.1 hc).1
theorem own_fo {w w' : World} {base n n0 : Nat} {e : TypeId} {v : Value} {xs : List Value} (h : w.ownsRow base e 1 v n xs) (hf : Fo (Fv n0 v) w w') : w'.ownsRow base e 1 v n xs :=
  owns_same h (fun g hg => hf.block g (own_lt h g hg) (.inr hg))
theorem fv_lt {w w1 : World} {base n : Nat} {e : TypeId} {v : Value} {xs : List Value} (h : w1.ownsRow base e 1 v n xs) (hB : Below w.heap.size w w1) : ∀ b, Fv w.heap.size v b → b < w1.heap.size := fun b hb => by
  rcases hb with hb | hb
  · have := hB.size; omega
  · exact own_lt h b hb
theorem fold_take (own : List Bool) (n : Nat) (i : Int) (q : Nat) (hq : q < (lst own n).length) : ((lst own n).take (q + 1)).foldl (pick i) (-1) = pick i (((lst own n).take q).foldl (pick i) (-1)) (lst own n)[q] := by
  rw [List.take_succ_eq_append_getElem hq, List.foldl_append]; rfl
theorem here_best (own : List Bool) (n c : Nat) : (look (sc own n c) X).isSome = decide (best own n (c + 1) = c) ∧ ∃ d1 d2 d3, (look (sc own n c) X).getD Dc.z = ⟨d1, d2, d3⟩ := by
  refine ⟨?_, _, _, _, rfl⟩
  have hb := best_lt own n c
  have e : best own n (c + 1) = if c < n ∧ own.getD c false = true then (c : Int) else best own n c := rfl
  rw [e]
  unfold sc
  by_cases h : c < n ∧ own.getD c false = true
  · rw [if_pos h, if_pos h, look_self]; simp
  · rw [if_neg h, if_neg h]
    have : ¬ best own n c = (c : Int) := by omega
    simp [this, look]
/-- The pop of the loop. -/
theorem pop_scs (w : World) (s : Nat) (F : Nat → Prop) (own : List Bool) (n c : Nat) (h : ScAt w s F (scs own n (c + 1))) (hlen : c < 100000) :
    Calls Try.prog 11 #[.pointer (some ⟨s, 0, none⟩)] w fun e w' => e = .returned (.bool (decide (0 < c))) ∧ ScAt w' s F (scs own n (max c 1)) ∧ Fo F w w' := by
  cases c with
  | zero => exact (pop_one w s F _ h (by rw [scs_length]; omega)).mono (by rintro e w' ⟨rfl, rfl⟩; exact ⟨rfl, h, Fo.refl _ _⟩)
  | succ c =>
    rw [scs_succ] at h
    refine (pop_any w s F _ _ h (fun e => ?_) (by rw [scs_length]; omega)).mono (by rintro e w' ⟨rfl, h1, h2⟩; exact ⟨by simp, by rw [show max (c + 1) 1 = c + 1 by omega]; exact h1, h2⟩)
    have := congrArg List.length e
    rw [scs_length] at this
    cases this
end Go.Proofs.Ytjobdofnehajpaa
