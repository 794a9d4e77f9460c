/- What Of computes, as plain data; its row of kids as it grows. -/
import Derived.Test.YtknhignklepgeaaOwn
namespace Go.Proofs.Ytknhignklepgeaa
open Go.RowKit

def kO (x : Int) : Int := IntKind.i64.wrap (1 + (bits BinOp.and IntKind.i64 x 31).tmod 28)
def tO (x : Int) : Int := bits BinOp.and IntKind.i64 (x / 32) 7
def kAt (l : List Int) (i : Nat) : Int := match l[i]? with | some x => kO x | none => 0
def tAt (l : List Int) (i : Nat) : Int := match l[i]? with | some x => tO x | none => 0
def oddAt (l : List Int) (i : Nat) : Bool := match l[i]? with | some x => bits BinOp.and IntKind.i64 x 1 == 1 | none => false
theorem i64_and31 (n : Int) : bits .and .i64 n 31 = n % 32 := by
  have h127 : (BitVec.ofInt 64 31).toNat = 2 ^ 5 - 1 := by decide
  have key : (BitVec.ofInt 64 n &&& BitVec.ofInt 64 31).toNat = (n % ((2 ^ 64 : Nat) : Int)).toNat % 2 ^ 5 := by
    rw [BitVec.toNat_and, BitVec.toNat_ofInt, h127, Nat.and_two_pow_sub_one_eq_mod]
  show IntKind.i64.wrap ((BitVec.ofInt 64 n &&& BitVec.ofInt 64 31).toNat : Nat) = n % 32
  rw [key, IntKind.wrap_i64]
  omega
theorem i64_and7 (n : Int) : bits .and .i64 n 7 = n % 8 := by
  have h127 : (BitVec.ofInt 64 7).toNat = 2 ^ 3 - 1 := by decide
  have key : (BitVec.ofInt 64 n &&& BitVec.ofInt 64 7).toNat = (n % ((2 ^ 64 : Nat) : Int)).toNat % 2 ^ 3 := by
    rw [BitVec.toNat_and, BitVec.toNat_ofInt, h127, Nat.and_two_pow_sub_one_eq_mod]
  show IntKind.i64.wrap ((BitVec.ofInt 64 n &&& BitVec.ofInt 64 7).toNat : Nat) = n % 8
  rw [key, IntKind.wrap_i64]
  omega
theorem kO_bounds (x : Int) : 0 ≤ kO x ∧ kO x ≤ 28 := by
  unfold kO
  rw [i64_and31, Int.tmod_eq_emod_of_nonneg (by omega), IntWalk.i64_in _ (by omega)]
  omega
theorem tO_bounds (x : Int) : 0 ≤ tO x ∧ tO x ≤ 7 := by
  unfold tO
  rw [i64_and7]
  omega
theorem kAt_bounds (l : List Int) (i : Nat) : 0 ≤ kAt l i ∧ kAt l i ≤ 28 := by
  unfold kAt
  split
  · exact kO_bounds _
  · omega
theorem tAt_bounds (l : List Int) (i : Nat) : 0 ≤ tAt l i ∧ tAt l i ≤ 7 := by
  unfold tAt
  split
  · exact tO_bounds _
  · omega
theorem oddAt_lt {l : List Int} {i : Nat} (h : oddAt l i = true) : i < l.length := by
  rcases Nat.lt_or_ge i l.length with h1 | h1
  · exact h1
  · unfold oddAt at h; rw [List.getElem?_eq_none h1] at h; cases h
/-- The kids, one behind the other. -/
def loopO (f : Nat → El × Nat) (l : List Int) : Nat → Nat → List El → List El × Nat
  | 0, i, L => (L, i)
  | m + 1, i, L => if oddAt l i then loopO f l m (f i).2 (L ++ [(f i).1]) else (L, i)
/-- Of: what is made of the list from the i-th number on, d storeys allowed; where it ends. -/
def ofE : Nat → List Int → Nat → El × Nat
  | 0, l, i => (⟨kAt l i, tAt l i, .nil⟩, i + 1)
  | d + 1, l, i => (⟨kAt l i, tAt l i, Fo.of (loopO (ofE d l) l l.length (i + 1) []).1⟩, (loopO (ofE d l) l l.length (i + 1) []).2)
theorem loopO_stop (f : Nat → El × Nat) (l : List Int) (m i : Nat) (L : List El) (h : oddAt l i = false) : loopO f l m i L = (L, i) := by
  cases m with
  | zero => rfl
  | succ m => rw [loopO, h]; rfl
theorem loopO_go (f : Nat → El × Nat) (l : List Int) (m i : Nat) (L : List El) (h : oddAt l i = true) : loopO f l (m + 1) i L = loopO f l m (f i).2 (L ++ [(f i).1]) := by rw [loopO, h]; rfl
/-- How far it goes, how many nodes it makes. -/
theorem loopO_ends (f : Nat → El × Nat) (l : List Int) (hf : ∀ i, i < l.length → i + 1 ≤ (f i).2 ∧ (f i).2 ≤ l.length ∧ (f i).2 = i + (1 + cF (f i).1.kids)) : ∀ (m i : Nat) (L : List El), i ≤ l.length + 1 →
    i ≤ (loopO f l m i L).2 ∧ (loopO f l m i L).2 ≤ max i l.length ∧ (loopO f l m i L).2 + cF (Fo.of L) = i + cF (Fo.of (loopO f l m i L).1)
  | 0, i, L, _ => by rw [loopO]; exact ⟨Nat.le_refl _, by omega, rfl⟩
  | m + 1, i, L, hi => by
    cases h : oddAt l i with
    | false => rw [loopO_stop _ _ _ _ _ h]; exact ⟨Nat.le_refl _, by omega, rfl⟩
    | true =>
      rw [loopO_go _ _ _ _ _ h]
      have hlt := oddAt_lt h
      obtain ⟨h1, h2, h3⟩ := hf i hlt
      obtain ⟨q1, q2, q3⟩ := loopO_ends f l hf m (f i).2 (L ++ [(f i).1]) (by omega)
      have e : ∀ (A : List El) (x : El), cF (Fo.of (A ++ [x])) = cF (Fo.of A) + (1 + cF x.kids) := by
        intro A x
        induction A with
        | nil => show 1 + cF x.kids + 0 = 0 + (1 + cF x.kids); omega
        | cons a A ih => show 1 + cF a.kids + cF (Fo.of (A ++ [x])) = 1 + cF a.kids + cF (Fo.of A) + (1 + cF x.kids); omega
      rw [e] at q3
      exact ⟨by omega, by omega, by omega⟩
theorem ofE_ends : ∀ (d : Nat) (l : List Int) (i : Nat), i ≤ l.length → i + 1 ≤ (ofE d l i).2 ∧ (ofE d l i).2 ≤ max (i + 1) l.length ∧ (ofE d l i).2 = i + (1 + cF (ofE d l i).1.kids)
  | 0, l, i, _ => by rw [ofE]; refine ⟨Nat.le_refl _, by omega, ?_⟩; show i + 1 = i + (1 + 0); omega
  | d + 1, l, i, hi => by
    obtain ⟨q1, q2, q3⟩ := loopO_ends (ofE d l) l (fun j hj => by obtain ⟨h1, h2, h3⟩ := ofE_ends d l j (by omega); exact ⟨h1, by omega, h3⟩) l.length (i + 1) [] (by omega)
    rw [ofE]
    have e0 : cF (Fo.of []) = 0 := rfl
    rw [e0] at q3
    exact ⟨q1, q2, by show (loopO (ofE d l) l l.length (i + 1) []).2 = i + (1 + cF (Fo.of (loopO (ofE d l) l l.length (i + 1) []).1)); omega⟩
/-- Kinds and tokens are small. -/
def Small : Fo → Prop
  | .nil => True
  | .cons k t kids rest => (0 ≤ k ∧ k ≤ 28) ∧ (0 ≤ t ∧ t ≤ 7) ∧ Small kids ∧ Small rest
def SmallE (e : El) : Prop := (0 ≤ e.k ∧ e.k ≤ 28) ∧ (0 ≤ e.t ∧ e.t ≤ 7) ∧ Small e.kids
theorem small_of : ∀ L : List El, (∀ e, e ∈ L → SmallE e) → Small (Fo.of L)
  | [], _ => trivial
  | e :: L, h => ⟨(h e (by simp)).1, (h e (by simp)).2.1, (h e (by simp)).2.2, small_of L (fun x hx => h x (by simp [hx]))⟩
theorem loopO_small (f : Nat → El × Nat) (l : List Int) (hf : ∀ i, SmallE (f i).1) : ∀ (m i : Nat) (L : List El), (∀ e, e ∈ L → SmallE e) → ∀ e, e ∈ (loopO f l m i L).1 → SmallE e
  | 0, _, _, h => h
  | m + 1, i, L, h => by
    rw [loopO]
    split
    · exact loopO_small f l hf m _ _ (fun e he => by
        rcases List.mem_append.1 he with he | he
        · exact h e he
        · rw [List.mem_singleton] at he; subst he; exact hf i)
    · exact h
theorem ofE_small : ∀ (d : Nat) (l : List Int) (i : Nat), SmallE (ofE d l i).1
  | 0, l, i => ⟨kAt_bounds l i, tAt_bounds l i, trivial⟩
  | d + 1, l, i => ⟨kAt_bounds l i, tAt_bounds l i, small_of _ (loopO_small _ l (fun j => ofE_small d l j) _ _ _ (fun e he => by cases he))⟩
theorem kAt_eq {l : List Int} {i : Nat} (h : i < l.length) : kAt l i = kO l[i] := by unfold kAt; rw [List.getElem?_eq_getElem h]
theorem tAt_eq {l : List Int} {i : Nat} (h : i < l.length) : tAt l i = tO l[i] := by unfold tAt; rw [List.getElem?_eq_getElem h]
theorem oddAt_eq {l : List Int} {i : Nat} (h : i < l.length) : oddAt l i = (bits BinOp.and IntKind.i64 l[i] 1 == 1) := by unfold oddAt; rw [List.getElem?_eq_getElem h]
theorem kAt_no {l : List Int} {i : Nat} (h : ¬ i < l.length) : kAt l i = 0 := by unfold kAt; rw [List.getElem?_eq_none (by omega)]
theorem tAt_no {l : List Int} {i : Nat} (h : ¬ i < l.length) : tAt l i = 0 := by unfold tAt; rw [List.getElem?_eq_none (by omega)]
theorem oddAt_no {l : List Int} {i : Nat} (h : ¬ i < l.length) : oddAt l i = false := by unfold oddAt; rw [List.getElem?_eq_none (by omega)]

/-- Of, in the midst of its loop. -/
structure OS (w wx : World) (pb nb j : Nat) (k t : Int) (v : Value) (cs : List Nc) : Prop where
  own : wx.ownsRow (nb + 1) 26 3 v cs.length (cellsN cs)
  ch : ChI wx v.ownBlock (nb + 1) wx.heap.size cs
  n : wx.heap[nb]? = some (.cells #[.int .i64 k, .int .i64 t, v] 26 (0, 0))
  p : wx.heap[pb]? = some (.cells #[.int .i64 j] 3 (0, 0))
  g : w.grownBy wx (some pb)
  r : wx.heap[w.heap.size]? = some (.cells #[.int .i64 0, .int .i64 0, .slice none 0 0] 26 (0, 0))
theorem grown_then {w w1 w2 : World} {row : Option Nat} (h : w.grownBy w1 row) (k : w1.grownBy w2 row) : w.grownBy w2 row :=
  ⟨k.os.trans h.os, k.tape.trans h.tape, k.output.trans h.output, Nat.le_trans h.size k.size, fun i hi hn => (k.block i (Nat.lt_of_lt_of_le hi h.size) hn).trans (h.block i hi hn)⟩
theorem OS.form {w wx : World} {pb nb j : Nat} {k t : Int} {v : Value} {cs : List Nc} (h : OS w wx pb nb j k t v cs) : ∃ vo vc, v = .slice vo cs.length vc := by
  rcases h.own.2 with ⟨h0, hn⟩ | ⟨g', cap, cur, hv, _⟩
  · exact ⟨none, 0, by rw [h0, hn]⟩
  · exact ⟨_, _, hv⟩
theorem OS.lt {w wx : World} {pb nb j : Nat} {k t : Int} {v : Value} {cs : List Nc} (h : OS w wx pb nb j k t v cs) (g : Nat) (hg : v.ownBlock = some g) : g < wx.heap.size ∧ nb < g := own_block_lt h.own g hg
/-- Behind the call: what still stands. -/
theorem OS.called {w wx wd w3 : World} {pb nb j : Nat} {k t : Int} {v : Value} {cs : List Nc} (h : OS w wx pb nb j k t v cs) (hpb : pb < nb) (hd : Below wx.heap.size wx wd) (h3 : wd.grownBy w3 (some pb)) :
    w3.heap[nb]? = some (.cells #[.int .i64 k, .int .i64 t, v] 26 (0, 0)) ∧ w3.ownsRow (nb + 1) 26 3 v cs.length (cellsN cs) := by
  have e : ∀ b, b < wx.heap.size → b ≠ pb → w3.heap[b]? = wx.heap[b]? := fun b hb hn => (h3.block b (Nat.lt_of_lt_of_le hb hd.size) (fun e => by injection e with e; exact hn e)).trans (hd.block b hb)
  exact ⟨(e nb (Array.getElem?_eq_some_iff.1 h.n).1 (by omega)).trans h.n, owns_keep h.own (fun g hg => e g (h.lt g hg).1 (by have := (h.lt g hg).2; omega))⟩
/-- The new kid is laid behind the others. -/
theorem OS.round {w wx wd w3 w5 : World} {pb nb j j' g c5 : Nat} {k t k' t' : Int} {v : Value} {cs : List Nc} {ao : Option Addr} {cap : Nat} {F : Fo} (h : OS w wx pb nb j k t v cs) (hpb : pb < w.heap.size) (hnb : w.heap.size < nb) (hd : Below wx.heap.size wx wd)
    (h3 : wd.grownBy w3 (some pb)) (hp : w3.heap[pb]? = some (.cells #[.int .i64 j'] 3 (0, 0))) (hk : KI w3 wd.heap.size w3.heap.size ao cap F)
    (ho5 : w5.ownsRow (nb + 1) 26 3 (.slice (some ⟨g, 0, none⟩) (cs.length + 1) c5) (cs.length + 1) (cellsN cs ++ [.int .i64 k', .int .i64 t', .slice ao F.els.length cap]))
    (hg5 : (w3.alloc (.cells #[.int .i64 k', .int .i64 t', .slice ao F.els.length cap] 26)).grownBy w5 v.ownBlock) (hat : v.ownBlock = some g ∨ g = w3.heap.size + 1) :
    OS w (w5.setCell ⟨nb, 2, none⟩ (.slice (some ⟨g, 0, none⟩) (cs.length + 1) c5)) pb nb j' k t (.slice (some ⟨g, 0, none⟩) (cs.length + 1) c5) (cs ++ [⟨⟨k', t', F⟩, ao, cap⟩]) := by
  obtain ⟨hn3, _⟩ := h.called (by omega) hd h3
  have hsz : wx.heap.size ≤ w3.heap.size := Nat.le_trans hd.size h3.size
  have s4 : (w3.alloc (.cells #[.int .i64 k', .int .i64 t', .slice ao F.els.length cap] 26)).heap.size = w3.heap.size + 1 := World.size_alloc _ _
  have s5 := hg5.size
  rw [s4] at s5
  have lnb : nb < wx.heap.size := (Array.getElem?_eq_some_iff.1 h.n).1
  have e5 : ∀ b, b < w3.heap.size → v.ownBlock ≠ some b → w5.heap[b]? = w3.heap[b]? := fun b hb hn => (hg5.block b (by rw [s4]; omega) (fun e => hn e.symm)).trans (((Below.refl w3.heap.size w3).alloc (Nat.le_refl _) _).block b hb)
  have far : ∀ (W : World) (b o : Nat) (u : Value) (q : Nat), q ≠ b → (W.setCell ⟨b, o, none⟩ u).heap[q]? = W.heap[q]? := fun W b o u q hq => Below.heap_setCell _ _ _ _ (by exact hq)
  have e6 : ∀ b, b < w3.heap.size → v.ownBlock ≠ some b → b ≠ nb → (w5.setCell ⟨nb, 2, none⟩ (.slice (some ⟨g, 0, none⟩) (cs.length + 1) c5)).heap[b]? = w3.heap[b]? := fun b hb hn hbn => (far _ _ _ _ _ hbn).trans (e5 b hb hn)
  have hvl := h.lt
  have hgn : nb < g := by
    rcases hat with e | e
    · exact (hvl g e).2
    · omega
  have hnv : v.ownBlock ≠ some nb := fun e => by have := (hvl nb e).2; omega
  have hpv : v.ownBlock ≠ some pb := fun e => by have := (hvl pb e).2; omega
  refine ⟨?_, ?_, ?_, ?_, ?_, ?_⟩
  · rw [List.length_append, List.length_singleton, cellsN_append]
    exact owns_keep ho5 (fun g' hg' => by cases hg'; exact far _ _ _ _ _ (by show g ≠ nb; omega))
  · have hgb : ∀ g', (Value.slice (some ⟨g, 0, none⟩) (cs.length + 1) c5).ownBlock = some g' → v.ownBlock = some g' ∨ w3.heap.size ≤ g' := fun g' hg' => by
      cases hg'
      rcases hat with e | e
      · exact .inl e
      · exact .inr (by show w3.heap.size ≤ g; omega)
    have hch : ChI (w5.setCell ⟨nb, 2, none⟩ (.slice (some ⟨g, 0, none⟩) (cs.length + 1) c5)) (Value.slice (some ⟨g, 0, none⟩) (cs.length + 1) c5).ownBlock (nb + 1) wx.heap.size cs :=
      h.ch.keep cs _ _ (fun b q1 q2 q3 => (e6 b (by omega) q3 (by omega)).trans ((h3.block b (Nat.lt_of_lt_of_le q2 hd.size) (fun e => by injection e with e; omega)).trans (hd.block b q2))) (fun g' hg' => (hgb g' hg').imp id (fun q => by omega))
    have hki : KI (w5.setCell ⟨nb, 2, none⟩ (.slice (some ⟨g, 0, none⟩) (cs.length + 1) c5)) wd.heap.size w3.heap.size ao cap F :=
      hk.keep (fun b q1 q2 => e6 b q2 (fun e => by have := (hvl b e).1; have := hd.size; omega) (by have := hd.size; omega))
    refine ChI.wide _ _ _ _ ?_ (ChI.snoc ⟨⟨k', t', F⟩, ao, cap⟩ wd.heap.size w3.heap.size hki (fun g' hg' => ?_) cs _ _ hd.size hch)
    · rw [World.size_setCell]; omega
    · rcases hgb g' hg' with e | e
      · exact .inl (Nat.lt_of_lt_of_le (hvl g' e).1 hd.size)
      · exact .inr e
  · exact blk_set ((e5 nb (by omega) hnv).trans hn3) 2 _
  · exact (e6 pb (by omega) hpv (by omega)).trans hp
  · refine ⟨hg5.os.trans (h3.os.trans (hd.os.trans h.g.os)), hg5.tape.trans (h3.tape.trans (hd.tape.trans h.g.tape)), hg5.output.trans (h3.output.trans (hd.output.trans h.g.output)), ?_, fun i hi hn => ?_⟩
    · rw [World.size_setCell]; have := h.g.size; omega
    · have q1 := h.g.size
      have q2 := hd.size
      exact (e6 i (by omega) (fun e => by have := (hvl i e).2; omega) (by omega)).trans ((h3.block i (by omega) hn).trans ((hd.block i (by omega)).trans (h.g.block i hi hn)))
  · have q1 := (Array.getElem?_eq_some_iff.1 h.r).1
    have q2 := hd.size
    exact (e6 w.heap.size (by omega) (fun e => by have := (hvl _ e).2; omega) (by omega)).trans ((h3.block _ (by omega) (fun e => by injection e with e; omega)).trans ((hd.block _ q1).trans h.r))
/-- The loop is at its end. -/
theorem of_spec {d i j m : Nat} {l : List Int} {k t : Int} {cs : List Nc} (hk : k = kAt l i) (ht : t = tAt l i) (h0 : d = 0 → cs = [] ∧ j = i + 1) (h1 : ∀ d', d' + 1 = d → l.length < m + j ∧ loopO (ofE d' l) l l.length (i + 1) [] = loopO (ofE d' l) l m j (cs.map (·.e)))
    (hs : d = 0 ∨ oddAt l j = false) : ofE d l i = (⟨k, t, Fo.of (cs.map (·.e))⟩, j) := by
  subst hk ht
  cases d with
  | zero => obtain ⟨rfl, rfl⟩ := h0 rfl; rfl
  | succ d =>
    have hs : oddAt l j = false := hs.resolve_left (by omega)
    obtain ⟨_, q⟩ := h1 d rfl
    rw [loopO_stop _ _ _ _ _ hs] at q
    rw [ofE, q]
/-- What comes out. -/
theorem OS.out {w wx w' : World} {pb nb j : Nat} {k t : Int} {v : Value} {cs : List Nc} (h : OS w wx pb nb j k t v cs) (hpb : pb < w.heap.size) (hnb : nb = w.heap.size + 1) (hs : w'.heap.size = wx.heap.size) (ho : w'.os = wx.os) (ht : w'.tape = wx.tape) (hu : w'.output = wx.output) (hb : ∀ b, b ≠ w.heap.size → w'.heap[b]? = wx.heap[b]?) :
    w.grownBy w' (some pb) ∧ w'.heap[pb]? = some (.cells #[.int .i64 j] 3 (0, 0)) ∧ ∃ ao cap, v = .slice ao cs.length cap ∧ KI w' w.heap.size w'.heap.size ao cap (Fo.of (cs.map (·.e))) := by
  subst hnb
  have hls : (Fo.of (cs.map (·.e))).els.length = cs.length := by rw [Fo.els_of, List.length_map]
  have lnb : w.heap.size + 1 < wx.heap.size := (Array.getElem?_eq_some_iff.1 h.n).1
  refine ⟨⟨ho.trans h.g.os, ht.trans h.g.tape, hu.trans h.g.output, by rw [hs]; exact h.g.size, fun i hi hn => (hb i (by omega)).trans (h.g.block i hi hn)⟩, (hb pb (by omega)).trans h.p, ?_⟩
  have hch := h.ch
  rcases h.own.2 with ⟨h0, hn⟩ | ⟨g, cap, cur, hv, q1, q2, q3, q4, q5, q6⟩
  · refine ⟨none, 0, by rw [h0, hn], by rw [hls]; omega, by omega, by omega, .inl ?_⟩
    rw [List.eq_nil_of_length_eq_zero hn]; rfl
  · have lg : g < wx.heap.size := (Array.getElem?_eq_some_iff.1 q2).1
    subst hv
    refine ⟨_, cap, rfl, by rw [hls]; exact q3, by simpa [maxLen] using q4, by omega, .inr ⟨g, rfl, by omega, by omega, fun o => ?_, ?_⟩⟩
    · rw [World.frozen?_of_block (hb g (by omega))]; exact blk_free q2 o
    · have hf := ChI.forest (w := wx) (g := g) cs (w.heap.size + 1 + 1) wx.heap.size 0 (fun i hi => ?_) hch
      · exact (hf.keep _ _ _ _ _ (fun b r1 r2 => hb b (by omega)) (hb g (by omega))).wide _ _ _ _ _ _ _ (by omega) (by omega)
      · obtain ⟨r1, r2, r3⟩ := cellsN_at cs i hi
        have hc : ∀ q u, (cellsN cs)[q]? = some u → wx.cell? ⟨g, q, none⟩ = some u := fun q u hq => by
          have := h.own.cells (g := g) rfl q u hq
          rwa [add_at] at this
        rw [Nat.zero_add]
        exact ⟨hc _ _ r1, hc _ _ r2, hc _ _ r3⟩
end Go.Proofs.Ytknhignklepgeaa
