/- Trees, as plain data and in memory. -/
import Derived.Test.YtknhignklepgeaaCore
import Derived.Test.YtknhignklepgeaaChecked
namespace Go.Proofs.Ytknhignklepgeaa
open Go.RowKit

/-- Trees side by side: the first one's kind, token, kids; the others. -/
inductive Fo where
  | nil
  | cons (k t : Int) (kids rest : Fo)
structure El where
  k : Int
  t : Int
  kids : Fo
def Fo.els : Fo → List El
  | .nil => []
  | .cons k t kids rest => ⟨k, t, kids⟩ :: rest.els
def Fo.of : List El → Fo
  | [] => .nil
  | e :: l => .cons e.k e.t e.kids (Fo.of l)
theorem Fo.els_of : ∀ l : List El, (Fo.of l).els = l
  | [] => rfl
  | e :: l => by rw [Fo.of, Fo.els, Fo.els_of l]
theorem Fo.of_els : ∀ F : Fo, Fo.of F.els = F
  | .nil => rfl
  | .cons k t kids rest => by rw [Fo.els, Fo.of, Fo.of_els rest]
/-- Induction over the kids. -/
theorem Fo.ind {Q : Fo → Prop} (h : ∀ F : Fo, (∀ e, e ∈ F.els → Q e.kids) → Q F) : ∀ F, Q F := by
  have key : ∀ F : Fo, ∀ e, e ∈ F.els → Q e.kids := by
    intro F
    induction F with
    | nil => intro e he; cases he
    | cons k t kids rest ih1 ih2 =>
      intro e he
      rcases List.mem_cons.1 he with rfl | he
      · exact h kids ih1
      · exact ih2 e he
  exact fun F => h F (key F)
/-- How great, how deep. -/
def cF : Fo → Nat
  | .nil => 0
  | .cons _ _ kids rest => 1 + cF kids + cF rest
def dF : Fo → Nat
  | .nil => 0
  | .cons _ _ kids rest => max (dF kids + 1) (dF rest)
theorem cF_fold (F : Fo) : ∀ s, F.els.foldl (fun s e => s + (1 + cF e.kids)) s = s + cF F := by
  induction F with
  | nil => intro s; rfl
  | cons k t kids rest _ ih => intro s; rw [Fo.els, List.foldl_cons, ih]; show s + (1 + cF kids) + cF rest = s + (1 + cF kids + cF rest); omega
theorem dF_fold (F : Fo) : ∀ s, F.els.foldl (fun s e => max s (dF e.kids + 1)) s = max s (dF F) := by
  induction F with
  | nil => intro s; show s = max s 0; omega
  | cons k t kids rest _ ih => intro s; rw [Fo.els, List.foldl_cons, ih]; show max (max s (dF kids + 1)) (dF rest) = max s (max (dF kids + 1) (dF rest)); omega

/-- What lies behind an address: from the i-th on. -/
def FoAt (w : World) : Addr → Nat → Fo → Prop
  | _, _, .nil => True
  | a, i, .cons k t kids rest => w.cell? (a.add (i * 3)) = some (.int .i64 k) ∧ w.cell? (a.add (i * 3 + 1)) = some (.int .i64 t) ∧
      (∃ ao cap a', w.cell? (a.add (i * 3 + 2)) = some (.slice ao kids.els.length cap) ∧ kids.els.length ≤ cap ∧ cap ≤ 9223372036854775807 ∧ (kids = .nil ∨ ao = some a') ∧ FoAt w a' 0 kids) ∧ FoAt w a (i + 1) rest
/-- A slice of trees, as it lies in a slot. -/
def KidsV (w : World) (ao : Option Addr) (cap : Nat) (F : Fo) : Prop :=
  F.els.length ≤ cap ∧ cap ≤ 9223372036854775807 ∧ ∃ a', (F = .nil ∨ ao = some a') ∧ FoAt w a' 0 F
theorem FoAt.below {w w' : World} (hb : Below w.heap.size w w') : ∀ (F : Fo) (a : Addr) (i : Nat), FoAt w a i F → FoAt w' a i F
  | .nil, _, _, _ => trivial
  | .cons k t kids rest, a, i, h => by
    obtain ⟨h1, h2, ⟨ao, cap, a', h3, h4, h5, h6, h7⟩, h8⟩ := h
    have e : ∀ {x : Addr} {v : Value}, w.cell? x = some v → w'.cell? x = some v := fun hx => by rw [hb.cell (World.block_lt_of_cell? _ _ hx)]; exact hx
    exact ⟨e h1, e h2, ⟨ao, cap, a', e h3, h4, h5, h6, FoAt.below hb kids a' 0 h7⟩, FoAt.below hb rest a (i + 1) h8⟩
theorem KidsV.below {w w' : World} {ao : Option Addr} {cap : Nat} {F : Fo} (h : KidsV w ao cap F) (hb : Below w.heap.size w w') : KidsV w' ao cap F := by
  obtain ⟨h1, h2, a', h3, h4⟩ := h
  exact ⟨h1, h2, a', h3, h4.below hb⟩
theorem FoAt.nth {w : World} : ∀ (F : Fo) (a : Addr) (i j : Nat) (hj : j < F.els.length), FoAt w a i F →
    w.cell? (a.add ((i + j) * 3)) = some (.int .i64 F.els[j].k) ∧ w.cell? (a.add ((i + j) * 3 + 1)) = some (.int .i64 F.els[j].t) ∧
    ∃ ao cap, w.cell? (a.add ((i + j) * 3 + 2)) = some (.slice ao F.els[j].kids.els.length cap) ∧ KidsV w ao cap F.els[j].kids
  | .cons k t kids rest, a, i, 0, _, h => by
    obtain ⟨h1, h2, ⟨ao, cap, a', h3, h4, h5, h6, h7⟩, _⟩ := h
    exact ⟨h1, h2, ao, cap, h3, h4, h5, a', h6, h7⟩
  | .cons k t kids rest, a, i, j + 1, hj, h => by
    have := FoAt.nth rest a (i + 1) j (by simpa [Fo.els] using hj) h.2.2.2
    rw [show i + 1 + j = i + (j + 1) by omega] at this
    exact this
theorem add_one' (a : Addr) (n : Nat) : a.add (n + 1) = ⟨(a.add n).block, (a.add n).off + 1, none⟩ := by rw [← Addr.add_add, Addr.add_succ' (a.add n) 0]
theorem add_two' (a : Addr) (n : Nat) : a.add (n + 2) = ⟨(a.add n).block, (a.add n).off + 2, none⟩ := by rw [← Addr.add_add, Addr.add_succ' (a.add n) 1]
/-- A node in a slot. -/
def nodeV (k t : Int) (ao : Option Addr) (n cap : Nat) : Value := .agg #[.int .i64 k, .int .i64 t, .slice ao n cap]
/-- One of the kids, in memory, as a walk meets it. -/
theorem KidsV.nth {w : World} {ao : Option Addr} {cap : Nat} {F : Fo} (h : KidsV w ao cap F) (j : Nat) (hj : j < F.els.length) :
    ∃ a, ao = some a ∧ w.cell? (a.add (j * 3)) = some (.int .i64 F.els[j].k) ∧ w.cell? ⟨(a.add (j * 3)).block, (a.add (j * 3)).off + 1, none⟩ = some (.int .i64 F.els[j].t) ∧
    ∃ ao' cap', w.cell? ⟨(a.add (j * 3)).block, (a.add (j * 3)).off + 2, none⟩ = some (.slice ao' F.els[j].kids.els.length cap') ∧ KidsV w ao' cap' F.els[j].kids := by
  obtain ⟨_, _, a', h3, h4⟩ := h
  rcases h3 with rfl | rfl
  · cases hj
  · have := FoAt.nth F a' 0 j hj h4
    rw [Nat.zero_add, add_one', add_two'] at this
    exact ⟨a', rfl, this⟩
end Go.Proofs.Ytknhignklepgeaa
