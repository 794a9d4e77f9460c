/- A tree in memory that the call itself makes: where its blocks lie. -/
import Derived.Test.YtknhignklepgeaaFind
namespace Go.Proofs.Ytknhignklepgeaa
open Go.RowKit

/-- From the i-th node of block g on; the kids' blocks lie in intervals between lo and hi, one behind the other, g in none of them. -/
def FoI (w : World) : Nat → Nat → Nat → Nat → Fo → Prop
  | _, _, _, _, .nil => True
  | lo, hi, g, i, .cons k t kids rest => w.cell? ⟨g, i * 3, none⟩ = some (.int .i64 k) ∧ w.cell? ⟨g, i * 3 + 1, none⟩ = some (.int .i64 t) ∧
      ∃ ao cap lo1 hi1, w.cell? ⟨g, i * 3 + 2, none⟩ = some (.slice ao kids.els.length cap) ∧ kids.els.length ≤ cap ∧ cap ≤ 9223372036854775807 ∧ lo ≤ lo1 ∧ lo1 ≤ hi1 ∧ hi1 ≤ hi ∧ (g < lo1 ∨ hi1 ≤ g) ∧
        (kids = .nil ∨ ∃ g', ao = some ⟨g', 0, none⟩ ∧ lo1 ≤ g' ∧ g' < hi1 ∧ (∀ o, w.frozen? ⟨g', o, none⟩ = false) ∧ FoI w lo1 hi1 g' 0 kids) ∧ FoI w hi1 hi g (i + 1) rest
/-- Kids that lie between lo and hi. -/
def KI (w : World) (lo hi : Nat) (ao : Option Addr) (cap : Nat) (F : Fo) : Prop :=
  F.els.length ≤ cap ∧ cap ≤ 9223372036854775807 ∧ lo ≤ hi ∧ (F = .nil ∨ ∃ g, ao = some ⟨g, 0, none⟩ ∧ lo ≤ g ∧ g < hi ∧ (∀ o, w.frozen? ⟨g, o, none⟩ = false) ∧ FoI w lo hi g 0 F)
theorem FoI.keep {w w' : World} : ∀ (F : Fo) (lo hi g i : Nat), (∀ b, lo ≤ b → b < hi → w'.heap[b]? = w.heap[b]?) → w'.heap[g]? = w.heap[g]? → FoI w lo hi g i F → FoI w' lo hi g i F
  | .nil, _, _, _, _, _, _, _ => trivial
  | .cons k t kids rest, lo, hi, g, i, hb, hg, h => by
    obtain ⟨h1, h2, ao, cap, lo1, hi1, h3, h4, h5, h6, h7, h8, h9, h10, h11⟩ := h
    have e : ∀ {o : Nat} {v : Value}, w.cell? ⟨g, o, none⟩ = some v → w'.cell? ⟨g, o, none⟩ = some v := fun hx => by rw [World.cell?_of_block hg]; exact hx
    refine ⟨e h1, e h2, ao, cap, lo1, hi1, e h3, h4, h5, h6, h7, h8, h9, ?_, FoI.keep rest hi1 hi g (i + 1) (fun b q1 q2 => hb b (by omega) q2) hg h11⟩
    rcases h10 with h10 | ⟨g', q1, q2, q3, q4, q5⟩
    · exact .inl h10
    · have hg' := hb g' (by omega) (by omega)
      exact .inr ⟨g', q1, q2, q3, fun o => by rw [World.frozen?_of_block hg']; exact q4 o, FoI.keep kids lo1 hi1 g' 0 (fun b r1 r2 => hb b (by omega) (by omega)) hg' q5⟩
theorem KI.keep {w w' : World} {lo hi : Nat} {ao : Option Addr} {cap : Nat} {F : Fo} (h : KI w lo hi ao cap F) (hb : ∀ b, lo ≤ b → b < hi → w'.heap[b]? = w.heap[b]?) : KI w' lo hi ao cap F := by
  obtain ⟨h1, h2, h3, h4⟩ := h
  refine ⟨h1, h2, h3, ?_⟩
  rcases h4 with h4 | ⟨g, q1, q2, q3, q4, q5⟩
  · exact .inl h4
  · have hg := hb g q2 q3
    exact .inr ⟨g, q1, q2, q3, fun o => by rw [World.frozen?_of_block hg]; exact q4 o, q5.keep F lo hi g 0 hb hg⟩
theorem FoI.wide {w : World} : ∀ (F : Fo) (lo hi g i lo' hi' : Nat), lo' ≤ lo → hi ≤ hi' → FoI w lo hi g i F → FoI w lo' hi' g i F
  | .nil, _, _, _, _, _, _, _, _, _ => trivial
  | .cons k t kids rest, lo, hi, g, i, lo', hi', q1, q2, h => by
    obtain ⟨h1, h2, ao, cap, lo1, hi1, h3, h4, h5, h6, h7, h8, h9, h10, h11⟩ := h
    exact ⟨h1, h2, ao, cap, lo1, hi1, h3, h4, h5, by omega, h7, by omega, h9, h10, FoI.wide rest hi1 hi g (i + 1) hi1 hi' (Nat.le_refl _) q2 h11⟩
theorem KI.wide {w : World} {lo hi lo' hi' : Nat} {ao : Option Addr} {cap : Nat} {F : Fo} (h : KI w lo hi ao cap F) (q1 : lo' ≤ lo) (q2 : hi ≤ hi') : KI w lo' hi' ao cap F := by
  obtain ⟨h1, h2, h3, h4⟩ := h
  refine ⟨h1, h2, by omega, ?_⟩
  rcases h4 with h4 | ⟨g, r1, r2, r3, r4, r5⟩
  · exact .inl h4
  · exact .inr ⟨g, r1, by omega, by omega, r4, r5.wide F lo hi g 0 lo' hi' q1 q2⟩
/-- To be read, it is a tree like any other. -/
theorem FoI.at {w : World} : ∀ (F : Fo) (lo hi g i : Nat), FoI w lo hi g i F → FoAt w ⟨g, 0, none⟩ i F
  | .nil, _, _, _, _, _ => trivial
  | .cons k t kids rest, lo, hi, g, i, h => by
    obtain ⟨h1, h2, ao, cap, lo1, hi1, h3, h4, h5, h6, h7, h8, h9, h10, h11⟩ := h
    refine ⟨by rw [add_at]; exact h1, by rw [add_at]; exact h2, ?_, FoI.at rest hi1 hi g (i + 1) h11⟩
    rcases h10 with h10 | ⟨g', q1, q2, q3, q4, q5⟩
    · exact ⟨ao, cap, ⟨0, 0, none⟩, by rw [add_at]; exact h3, h4, h5, .inl h10, by rw [h10]; trivial⟩
    · exact ⟨ao, cap, ⟨g', 0, none⟩, by rw [add_at]; exact h3, h4, h5, .inr q1, FoI.at kids lo1 hi1 g' 0 q5⟩
theorem KI.kids {w : World} {lo hi : Nat} {ao : Option Addr} {cap : Nat} {F : Fo} (h : KI w lo hi ao cap F) : KidsV w ao cap F := by
  obtain ⟨h1, h2, h3, h4⟩ := h
  rcases h4 with h4 | ⟨g, q1, q2, q3, q4, q5⟩
  · exact ⟨h1, h2, ⟨0, 0, none⟩, .inl h4, by rw [h4]; trivial⟩
  · exact ⟨h1, h2, ⟨g, 0, none⟩, .inr q1, q5.at F lo hi g 0⟩
/-- Children of a row that lies in block gb, as they are made one behind the other. -/
def ChI (w : World) (gb : Option Nat) : Nat → Nat → List Nc → Prop
  | lo, hi, [] => lo ≤ hi
  | lo, hi, c :: cs => ∃ lo1 hi1, lo ≤ lo1 ∧ (∀ g, gb = some g → g < lo1 ∨ hi1 ≤ g) ∧ KI w lo1 hi1 c.ao c.cap c.e.kids ∧ ChI w gb hi1 hi cs
theorem ChI.le {w : World} {gb : Option Nat} : ∀ (cs : List Nc) (lo hi : Nat), ChI w gb lo hi cs → lo ≤ hi
  | [], _, _, h => h
  | c :: cs, lo, hi, h => by
    obtain ⟨lo1, hi1, h1, _, h2, h3⟩ := h
    have := ChI.le cs hi1 hi h3
    have := h2.2.2.1
    omega
theorem ChI.snoc {w : World} {gb : Option Nat} (c : Nc) (lo2 hi2 : Nat) (hc : KI w lo2 hi2 c.ao c.cap c.e.kids) (hg : ∀ g, gb = some g → g < lo2 ∨ hi2 ≤ g) : ∀ (cs : List Nc) (lo hi : Nat), hi ≤ lo2 → ChI w gb lo hi cs → ChI w gb lo hi2 (cs ++ [c])
  | [], lo, hi, q, h => ⟨lo2, hi2, Nat.le_trans h q, hg, hc, Nat.le_refl _⟩
  | d :: cs, lo, hi, q, h => by
    obtain ⟨lo1, hi1, h1, h2, h3, h4⟩ := h
    exact ⟨lo1, hi1, h1, h2, h3, ChI.snoc c lo2 hi2 hc hg cs hi1 hi q h4⟩
theorem ChI.wide {w : World} {gb : Option Nat} : ∀ (cs : List Nc) (lo hi hi' : Nat), hi ≤ hi' → ChI w gb lo hi cs → ChI w gb lo hi' cs
  | [], lo, hi, hi', q, h => Nat.le_trans h q
  | c :: cs, lo, hi, hi', q, h => by
    obtain ⟨lo1, hi1, h1, h2, h3, h4⟩ := h
    exact ⟨lo1, hi1, h1, h2, h3, ChI.wide cs hi1 hi hi' q h4⟩
/-- The row's block, and what lies beyond hi, may turn. -/
theorem ChI.keep {w w' : World} {gb gb' : Option Nat} : ∀ (cs : List Nc) (lo hi : Nat), (∀ b, lo ≤ b → b < hi → gb ≠ some b → w'.heap[b]? = w.heap[b]?) → (∀ g, gb' = some g → gb = some g ∨ hi ≤ g) → ChI w gb lo hi cs → ChI w' gb' lo hi cs
  | [], _, _, _, _, h => h
  | c :: cs, lo, hi, hb, hg, h => by
    obtain ⟨lo1, hi1, h1, h2, h3, h4⟩ := h
    have hle := ChI.le cs hi1 hi h4
    have hle1 := h3.2.2.1
    refine ⟨lo1, hi1, h1, fun g e => ?_, h3.keep (fun b q1 q2 => hb b (by omega) (by omega) (fun e => by have := h2 b e; omega)), ChI.keep cs hi1 hi (fun b q1 q2 => hb b (by omega) q2) hg h4⟩
    rcases hg g e with e1 | e1
    · exact h2 g e1
    · exact .inr (by omega)
/-- A row with such children is a forest. -/
theorem ChI.forest {w : World} {g : Nat} : ∀ (cs : List Nc) (lo hi i : Nat), (∀ j (h : j < cs.length), w.cell? ⟨g, (i + j) * 3, none⟩ = some (.int .i64 cs[j].e.k) ∧ w.cell? ⟨g, (i + j) * 3 + 1, none⟩ = some (.int .i64 cs[j].e.t) ∧ w.cell? ⟨g, (i + j) * 3 + 2, none⟩ = some (.slice cs[j].ao cs[j].e.kids.els.length cs[j].cap)) →
    ChI w (some g) lo hi cs → FoI w lo hi g i (Fo.of (cs.map (·.e)))
  | [], _, _, _, _, _ => trivial
  | c :: cs, lo, hi, i, hc, h => by
    obtain ⟨lo1, hi1, h1, h2, h3, h4⟩ := h
    obtain ⟨c0, c1, c2⟩ := hc 0 (by simp)
    have hle := ChI.le cs hi1 hi h4
    refine ⟨c0, c1, c.ao, c.cap, lo1, hi1, c2, h3.1, h3.2.1, h1, h3.2.2.1, hle, h2 g rfl, ?_, ChI.forest cs hi1 hi (i + 1) (fun j hj => ?_) h4⟩
    · rcases h3.2.2.2 with q | ⟨g', q1, q2, q3, q4, q5⟩
      · exact .inl q
      · exact .inr ⟨g', q1, q2, q3, q4, q5⟩
    · have := hc (j + 1) (by simpa using hj)
      rw [show i + 1 + j = i + (j + 1) by omega]
      exact this
end Go.Proofs.Ytknhignklepgeaa
