/- Lists of nodes that the call itself makes; the law's own walk. -/
import Derived.Test.YtknhignklepgeaaEqR
import Derived.Maps.AppendAt
import Derived.Deep.AppendLies
namespace Go.Proofs.Ytknhignklepgeaa
open Go.RowKit

/-- A node in a list: what it is, and where its kids lie. -/
structure Nc where
  e : El
  ao : Option Addr
  cap : Nat
def Nc.cells (c : Nc) : List Value := [.int .i64 c.e.k, .int .i64 c.e.t, .slice c.ao c.e.kids.els.length c.cap]
def cellsN : List Nc → List Value
  | [] => []
  | c :: l => .int .i64 c.e.k :: .int .i64 c.e.t :: .slice c.ao c.e.kids.els.length c.cap :: cellsN l
theorem cellsN_length : ∀ l : List Nc, (cellsN l).length = l.length * 3
  | [] => rfl
  | e :: E => by simp [cellsN, cellsN_length E]; omega
theorem cellsN_append : ∀ A B : List Nc, cellsN (A ++ B) = cellsN A ++ cellsN B
  | [], _ => rfl
  | e :: A, B => by simp [cellsN, cellsN_append A B]
theorem cellsN_at : ∀ (l : List Nc) (q : Nat) (h : q < l.length), (cellsN l)[q * 3]? = some (.int .i64 l[q].e.k) ∧ (cellsN l)[q * 3 + 1]? = some (.int .i64 l[q].e.t) ∧ (cellsN l)[q * 3 + 2]? = some (.slice l[q].ao l[q].e.kids.els.length l[q].cap)
  | e :: E, 0, _ => ⟨rfl, rfl, rfl⟩
  | e :: E, q + 1, h => by
    have := cellsN_at E q (by simpa using h)
    rw [show (q + 1) * 3 = q * 3 + 3 by omega]
    simpa [cellsN] using this
/-- A list of nodes in the call's own memory; their kids lie in W0. -/
def RowN (W0 w : World) (v : Value) (L : List El) : Prop :=
  ∃ cs : List Nc, cs.map (·.e) = L ∧ w.ownsRow W0.heap.size 26 3 v cs.length (cellsN cs) ∧ ∀ c, c ∈ cs → KidsV W0 c.ao c.cap c.e.kids
theorem own_block_lt {w : World} {base n sz : Nat} {e : TypeId} {v : Value} {xs : List Value} (h : w.ownsRow base e sz v n xs) (g : Nat) (hg : v.ownBlock = some g) : g < w.heap.size ∧ base ≤ g := by
  rcases h.2 with ⟨h0, _⟩ | ⟨g', cap, cur, hv, q1, q2, _⟩
  · rw [h0] at hg; cases hg
  · rw [hv] at hg
    cases hg
    exact ⟨(Array.getElem?_eq_some_iff.1 q2).1, q1⟩
theorem owns_keep {w w' : World} {base n sz : Nat} {e : TypeId} {v : Value} {xs : List Value} (h : w.ownsRow base e sz v n xs) (hb : ∀ g, v.ownBlock = some g → w'.heap[g]? = w.heap[g]?) : w'.ownsRow base e sz v n xs := by
  refine ⟨h.1, ?_⟩
  rcases h.2 with h0 | ⟨g, cap, cur, hv, q1, q2, q3⟩
  · exact .inl h0
  · subst hv; exact .inr ⟨g, cap, cur, rfl, q1, (hb g rfl).trans q2, q3⟩
theorem RowN.keep {W0 w w' : World} {v : Value} {L : List El} (h : RowN W0 w v L) (hb : ∀ g, v.ownBlock = some g → w'.heap[g]? = w.heap[g]?) : RowN W0 w' v L := by
  obtain ⟨cs, h1, h2, h3⟩ := h
  exact ⟨cs, h1, owns_keep h2 hb, h3⟩
theorem RowN.lt {W0 w : World} {v : Value} {L : List El} (h : RowN W0 w v L) (g : Nat) (hg : v.ownBlock = some g) : g < w.heap.size ∧ W0.heap.size ≤ g := by
  obtain ⟨cs, h1, h2, h3⟩ := h
  exact own_block_lt h2 g hg
theorem RowN.below {W0 w w' : World} {v : Value} {L : List El} (h : RowN W0 w v L) (hb : Below w.heap.size w w') : RowN W0 w' v L := h.keep (fun g hg => hb.block g (h.lt g hg).1)
theorem RowN.nil (W0 w : World) : RowN W0 w (.slice none 0 0) [] := ⟨[], rfl, World.ownsRow_nil _ _ _ _, fun c hc => by cases hc⟩
/-- What an append onto v, and others behind it, leave: v's own row and new blocks alone have turned. -/
structure Grow (w : World) (v : Value) (w' : World) (v' : Value) : Prop where
  g : w.grownBy w' v.ownBlock
  at' : v'.ownBlock = v.ownBlock ∨ ∃ g, v'.ownBlock = some g ∧ w.heap.size ≤ g
theorem Grow.refl (w : World) (v : Value) : Grow w v w v := ⟨⟨rfl, rfl, rfl, Nat.le_refl _, fun _ _ _ => rfl⟩, .inl rfl⟩
theorem Grow.of_below {w w' : World} (v : Value) (h : Below w.heap.size w w') : Grow w v w' v := ⟨⟨h.os, h.tape, h.output, h.size, fun k hk _ => h.block k hk⟩, .inl rfl⟩
theorem Grow.trans {w w1 w2 : World} {v v1 v2 : Value} (h : Grow w v w1 v1) (k : Grow w1 v1 w2 v2) : Grow w v w2 v2 := by
  refine ⟨⟨k.g.os.trans h.g.os, k.g.tape.trans h.g.tape, k.g.output.trans h.g.output, Nat.le_trans h.g.size k.g.size, fun i hi hn => ?_⟩, ?_⟩
  · refine (k.g.block i (Nat.lt_of_lt_of_le hi h.g.size) (fun e => ?_)).trans (h.g.block i hi hn)
    rcases h.at' with e1 | ⟨g, e1, hg⟩
    · exact hn (by rw [← e1]; exact e)
    · rw [e1] at e; injection e with e; omega
  · rcases k.at' with e2 | ⟨g, e2, hg⟩
    · rcases h.at' with e1 | ⟨g, e1, hg⟩
      · exact .inl (e2.trans e1)
      · exact .inr ⟨g, e2.trans e1, hg⟩
    · exact .inr ⟨g, e2, Nat.le_trans h.g.size hg⟩
theorem Grow.below {w0 w w' : World} {v v' : Value} (h0 : Below w0.heap.size w0 w) (h : Grow w v w' v') (hv : ∀ g, v.ownBlock = some g → w0.heap.size ≤ g) : Below w0.heap.size w0 w' :=
  ⟨h.g.os.trans h0.os, h.g.tape.trans h0.tape, h.g.output.trans h0.output, Nat.le_trans h0.size h.g.size, fun k hk => (h.g.block k (Nat.lt_of_lt_of_le hk h0.size) (fun e => by have := hv k e.symm; omega)).trans (h0.block k hk)⟩
/-- The walk's list, in plain words. -/
def wF (stop : Int) : Fo → List El
  | .nil => []
  | .cons k t kids rest => ⟨k, t, kids⟩ :: (if k = stop then [] else wF stop kids) ++ wF stop rest
def wE (stop : Int) (e : El) : List El := e :: (if e.k = stop then [] else wF stop e.kids)
theorem wF_flat (stop : Int) : ∀ F : Fo, wF stop F = F.els.flatMap (wE stop)
  | .nil => rfl
  | .cons k t kids rest => by rw [wF, Fo.els, List.flatMap_cons, wF_flat stop rest]; rfl
theorem wF_len (stop : Int) : ∀ F : Fo, (wF stop F).length ≤ cF F
  | .nil => Nat.le_refl _
  | .cons k t kids rest => by
    have h1 := wF_len stop kids
    have h2 := wF_len stop rest
    rw [wF, List.length_append, List.length_cons]
    show _ ≤ 1 + cF kids + cF rest
    split
    · show 0 + 1 + (wF stop rest).length ≤ _; omega
    · omega
theorem take_flat (stop : Int) (F : Fo) (i : Nat) (h : i < F.els.length) : (F.els.take (i + 1)).flatMap (wE stop) = (F.els.take i).flatMap (wE stop) ++ wE stop F.els[i] := by
  rw [List.take_succ_eq_append_getElem h, List.flatMap_append]; simp
theorem take_flat_len (stop : Int) (F : Fo) (i : Nat) : ((F.els.take i).flatMap (wE stop)).length ≤ cF F := by
  have h := wF_len stop F
  rw [wF_flat] at h
  have e : F.els.flatMap (wE stop) = (F.els.take i).flatMap (wE stop) ++ (F.els.drop i).flatMap (wE stop) := by rw [← List.flatMap_append, List.take_append_drop]
  rw [e, List.length_append] at h
  omega
theorem wE_len (stop : Int) (e : El) : (wE stop e).length ≤ 1 + cF e.kids := by
  have := wF_len stop e.kids
  unfold wE
  rw [List.length_cons]
  split
  · show 0 + 1 ≤ _; omega
  · omega
theorem flat_cTo (stop : Int) (F : Fo) : ∀ i, i ≤ F.els.length → ((F.els.take i).flatMap (wE stop)).length ≤ cTo F i
  | 0, _ => by simp
  | i + 1, h => by
    rw [take_flat stop F i (by omega), List.length_append, cTo_succ F i (by omega)]
    have := flat_cTo stop F i (by omega)
    have := wE_len stop F.els[i]
    omega
theorem cF_mem (F : Fo) : ∀ e, e ∈ F.els → cF e.kids < cF F := by
  induction F with
  | nil => intro e he; cases he
  | cons k t kids rest _ ih =>
    intro e he
    rcases List.mem_cons.1 he with rfl | he
    · show cF kids < 1 + cF kids + cF rest; omega
    · have := ih e he
      show cF e.kids < 1 + cF kids + cF rest; omega
theorem info26' : (Try.prog.info? 26).map (fun i => (i.zero, i.size, i.bytes)) = some (some (.agg #[.int .i64 0, .int .i64 0, .slice none 0 0]), 3, 40) := by kernel_rfl
end Go.Proofs.Ytknhignklepgeaa
