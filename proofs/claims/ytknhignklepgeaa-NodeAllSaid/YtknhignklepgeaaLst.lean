/- Lists of nodes, as a loop reads them; which lists are the same. -/
import Derived.Test.YtknhignklepgeaaTurnWalk
import Derived.Test.YtknhignklepgeaaApp
namespace Go.Proofs.Ytknhignklepgeaa
open Go.RowKit

theorem KidsV.of_base {W0 w : World} {ao : Option Addr} {cap : Nat} {F : Fo} (h : KidsV W0 ao cap F) (hb : Below W0.heap.size W0 w) : KidsV w ao cap F := h.below hb
/-- One node of a list, in memory. -/
theorem RowN.nth {W0 w : World} {vo : Option Addr} {n vc : Nat} {L : List El} (h : RowN W0 w (.slice vo n vc) L) (i : Nat) (hi : i < L.length) :
    ∃ g ao cap, vo = some ⟨g, 0, none⟩ ∧ w.cell? ⟨g, i * 3, none⟩ = some (.int .i64 L[i].k) ∧ w.cell? ⟨g, i * 3 + 1, none⟩ = some (.int .i64 L[i].t) ∧ w.cell? ⟨g, i * 3 + 2, none⟩ = some (.slice ao L[i].kids.els.length cap) ∧ KidsV W0 ao cap L[i].kids := by
  obtain ⟨cs, h1, h2, h3⟩ := h
  subst h1
  have hi' : i < cs.length := by simpa using hi
  rcases h2.2 with ⟨h0, hn⟩ | ⟨g, cap, cur, hv, _⟩
  · omega
  · injection hv with e1 e2 e3
    subst e1
    obtain ⟨r1, r2, r3⟩ := cellsN_at cs i hi'
    have hc : ∀ q u, (cellsN cs)[q]? = some u → w.cell? ⟨g, q, none⟩ = some u := fun q u hq => by
      have := h2.cells (g := g) (by rfl) q u hq
      rwa [add_at] at this
    have e : (cs.map (·.e))[i] = cs[i].e := by simp
    rw [e]
    exact ⟨g, cs[i].ao, cs[i].cap, rfl, hc _ _ r1, hc _ _ r2, hc _ _ r3, h3 _ (List.getElem_mem hi')⟩
theorem RowN.caps {W0 w : World} {vo : Option Addr} {n vc : Nat} {L : List El} (h : RowN W0 w (.slice vo n vc) L) : n = L.length ∧ n ≤ vc ∧ vc ≤ 9223372036854775807 := by
  obtain ⟨cs, h1, h2, _⟩ := h
  have e : cs.length = L.length := by rw [← h1]; simp
  rcases h2.2 with ⟨h0, hn⟩ | ⟨g, cap, cur, hv, q1, q2, q3, q4, _⟩
  · injection h0 with e1 e2 e3
    exact ⟨by omega, by omega, by omega⟩
  · injection hv with e1 e2 e3
    subst e3
    exact ⟨by omega, by omega, by simpa [maxLen] using q4⟩
/-- What Walk gathers is what the law's own walk gathers. -/
theorem gF_wF (stop : Int) : ∀ F : Fo, gF stepA (fun e => e.k != stop) F = wF stop F
  | .nil => rfl
  | .cons k t kids rest => by
    rw [gF, wF, gF_wF stop kids, gF_wF stop rest]
    show ([_] ++ (if (k != stop) = true then wF stop kids else [])) ++ wF stop rest = _
    by_cases h : k = stop
    · rw [if_pos h, if_neg (by simp [h])]; rfl
    · rw [if_neg h, if_pos (by simp [h])]; rfl
theorem gE_wE (stop : Int) (e : El) : gE stepA (fun e => e.k != stop) e = wE stop e := by
  unfold gE wE
  rw [gF_wF]
  by_cases h : e.k = stop
  · rw [if_pos h, if_neg (by simp [h])]; rfl
  · rw [if_neg h, if_pos (by simp [h])]; rfl
/-- What Find finds are those of all nodes that have the token. -/
theorem find_wF (tok stop : Int) : ∀ F : Fo, Small F → stop < 0 → gF (stepT tok) (fun _ => true) F = (wF stop F).filter (fun e => e.t == tok)
  | .nil, _, _ => rfl
  | .cons k t kids rest, h, hs => by
    obtain ⟨⟨h1, _⟩, _, h3, h4⟩ := h
    rw [gF, wF, if_neg (show ¬ k = stop by omega), if_pos rfl, find_wF tok stop kids h3 hs, find_wF tok stop rest h4 hs, List.filter_append, List.filter_cons]
    unfold stepT
    by_cases h : t = tok
    · rw [if_pos h, if_pos (by simp [h])]; rfl
    · rw [if_neg h, if_neg (by simp [h])]; rfl
theorem find_wE (tok stop : Int) (e : El) (h : SmallE e) (hs : stop < 0) : fE tok e = (wE stop e).filter (fun e => e.t == tok) := by
  have h1 := h.1.1
  unfold fE gE wE
  rw [if_neg (show ¬ e.k = stop by omega), if_pos rfl, find_wF tok stop _ h.2.2 hs, List.filter_cons]
  unfold stepT
  by_cases h : e.t = tok
  · rw [if_pos h, if_pos (by simp [h])]; rfl
  · rw [if_neg h, if_neg (by simp [h])]; rfl
/-- Of a node made of two. -/
theorem find_two (k k' t' tok : Int) (t : Int) (F F' : Fo) (kind : Int) : fE tok ⟨kind, tok, .cons k t F (.cons k' t' F' .nil)⟩ = [⟨kind, tok, .cons k t F (.cons k' t' F' .nil)⟩] ++ fE tok ⟨k, t, F⟩ ++ fE tok ⟨k', t', F'⟩ := by
  unfold fE gE
  rw [if_pos rfl, if_pos rfl, if_pos rfl, gF, gF, gF, if_pos rfl, if_pos rfl]
  have e : stepT tok ⟨kind, tok, .cons k t F (.cons k' t' F' .nil)⟩ = [⟨kind, tok, .cons k t F (.cons k' t' F' .nil)⟩] := by unfold stepT; rw [if_pos rfl]
  rw [e]
  simp
end Go.Proofs.Ytknhignklepgeaa
