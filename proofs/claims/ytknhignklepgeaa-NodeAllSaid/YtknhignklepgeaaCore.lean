/- Words and small lemmas for the walks of this seat. -/
import Derived.WalkKit
import Derived.Lib.Hide
import Derived.Lib.SlBytesConst
import Derived.Laws.AppendOwnNone
import Derived.ProofKit
import Derived.Deep.Draws
namespace Go.Proofs.Ytknhignklepgeaa
open Go.RowKit

/-- What a slice of length 'xs.length' at 'ao' holds: whole numbers of one kind. -/
def Rd (k : IntKind) (w : World) (ao : Option Addr) (xs : List Int) : Prop :=
  ∀ i (h : i < xs.length), ∃ a, ao = some a ∧ w.cell? (a.add i) = some (.int k xs[i])
def Byt (bs : List Int) : Prop := ∀ x ∈ bs, 0 ≤ x ∧ x < 256

theorem Byt.take {bs : List Int} (h : Byt bs) (n : Nat) : Byt (bs.take n) := fun x hx => h x (List.mem_of_mem_take hx)
theorem Byt.drop {bs : List Int} (h : Byt bs) (n : Nat) : Byt (bs.drop n) := fun x hx => h x (List.mem_of_mem_drop hx)
theorem Byt.append {as bs : List Int} (h : Byt as) (k : Byt bs) : Byt (as ++ bs) := fun x hx => by
  rcases List.mem_append.1 hx with hx | hx
  · exact h x hx
  · exact k x hx
theorem Rd.take {k : IntKind} {w : World} {ao : Option Addr} {xs : List Int} (h : Rd k w ao xs) (n : Nat) : Rd k w ao (xs.take n) := by
  intro i hi
  obtain ⟨a, ha, hc⟩ := h i (by simp at hi; omega)
  exact ⟨a, ha, by rw [hc, List.getElem_take]⟩
theorem Rd.drop {k : IntKind} {w : World} {ao : Option Addr} {xs : List Int} (h : Rd k w ao xs) {cap : Nat} (hc : xs.length ≤ cap) (n : Nat) :
    Rd k w (if cap = n then ao else ao.map (·.add n)) (xs.drop n) := by
  intro i hi
  rw [List.length_drop] at hi
  obtain ⟨a, ha, hcell⟩ := h (n + i) (by omega)
  rw [if_neg (by omega), ha]
  refine ⟨_, rfl, ?_⟩
  rw [List.getElem_drop, ← hcell]
  congr 1
  by_cases h0 : n = 0
  · subst h0; simp [Addr.add]
  · by_cases h1 : i = 0
    · subst h1; simp [Addr.add, h0]
    · have h2 : n + i ≠ 0 := by omega
      simp [Addr.add, h0, h1, Nat.add_assoc]
theorem Rd.below {k : IntKind} {w w' : World} {ao : Option Addr} {xs : List Int} (h : Rd k w ao xs) (hb : Below w.heap.size w w') : Rd k w' ao xs := by
  intro i hi
  obtain ⟨a, ha, hc⟩ := h i hi
  exact ⟨a, ha, by rw [hb.cell (World.block_lt_of_cell? _ _ hc)]; exact hc⟩
theorem Rd.nil {k : IntKind} {w : World} {ao : Option Addr} : Rd k w ao [] := fun _ h => absurd h (by simp)

theorem Rd.grown {k : IntKind} {w w' : World} {ao : Option Addr} {xs : List Int} {row : Option Nat} (h : Rd k w ao xs) (hg : w.grownBy w' row) (hne : ∀ a, ao = some a → some a.block ≠ row) : Rd k w' ao xs := by
  intro i hi
  obtain ⟨a, ha, hc⟩ := h i hi
  have hb : (a.add i).block = a.block := by unfold Addr.add; split <;> rfl
  exact ⟨a, ha, hg.cell hc (by rw [hb]; exact hne a ha)⟩

/-- 'Below' of two steps. -/
theorem below_then {B : Nat} {w w1 w2 : World} (h : Below B w w1) (hB : B ≤ w1.heap.size) (k : Below w1.heap.size w1 w2) : Below B w w2 :=
  h.trans ⟨k.os, k.tape, k.output, k.size, fun i hi => k.block i (Nat.lt_of_lt_of_le hi hB)⟩

theorem below_next {w w1 : World} (h : Below w.heap.size w w1) (o : Obj) : Below w.heap.size w (w1.alloc o) := h.alloc h.size o
theorem below_drew' {w w1 : World} (h : Below w.heap.size w w1) : Below w.heap.size w w1.drew := h.drew
theorem below_drewN' {w w1 : World} (h : Below w.heap.size w w1) (n : Nat) : Below w.heap.size w (w1.drewN n) := ⟨h.os, h.tape, h.output, h.size, h.block⟩
theorem below_step {w w1 w2 : World} (h : Below w.heap.size w w1) (k : Below w1.heap.size w1 w2) : Below w.heap.size w w2 := below_then h h.size k
theorem below_to {w w1 : World} {row : Option Nat} (h : Below w.heap.size w w1) : w.grownBy w1 row := ⟨h.os, h.tape, h.output, h.size, fun i hi _ => h.block i hi⟩
theorem below_grown_none {w w' : World} (h : w.grownBy w' none) : Below w.heap.size w w' := ⟨h.os, h.tape, h.output, h.size, fun k hk => h.block k hk (fun e => by cases e)⟩
theorem below_grown_own {w0 w w' : World} {v : Value} (h0 : Below w0.heap.size w0 w) (h : w.grownBy w' v.ownBlock) (hv : ∀ k, v.ownBlock = some k → w0.heap.size ≤ k) : Below w0.heap.size w0 w' :=
  h0.grown h h0.size hv

theorem own_rd {w : World} {base n : Nat} {e : TypeId} {k : IntKind} {v : Value} {xs : List Int} (h : w.ownsRow base e 1 v n (xs.map (Value.int k))) :
    ∃ ao cap, v = .slice ao n cap ∧ Rd k w ao xs ∧ xs.length = n ∧ n ≤ cap ∧ cap ≤ 9223372036854775807 ∧ (∀ a, ao = some a → base ≤ a.block ∧ v.ownBlock = some a.block) := by
  have hl : xs.length = n := by simpa using h.1
  rcases h.2 with ⟨rfl, rfl⟩ | ⟨g, cap, cur, rfl, hb, hh, h1, h2, h3, h4⟩
  · exact ⟨none, 0, rfl, fun i hi => absurd hi (by omega), hl, by omega, by omega, fun a ha => by cases ha⟩
  · refine ⟨_, cap, rfl, fun i hi => ⟨_, rfl, ?_⟩, hl, h1, by simpa [maxLen] using h2, fun a ha => by cases ha; exact ⟨hb, rfl⟩⟩
    exact h.cells (g := g) rfl i _ (by simp [hi])

/-- An append of numbers that are read somewhere, onto a row of the call's own. -/
theorem wpList_append_rd {P : Program} (w : World) {ops : Array Oper} {rest : List Oper} {o : Oper} {a : Act} {Q : Exit → Act → World → Prop} (hgd : o.guard = none) (s x : Operand) (t : TypeId)
    (ho : o.op = .call { callee := .builtin .append, args := #[s, x], argTypes := #[t, t] })
    (base : Nat) (e : TypeId) (i : TypeInfo) (k : IntKind) (bytes : Nat) (ht : P.underlying t = some (.slice e)) (hi : P.info? e = some i) (hz : i.zero = some (.int k 0))
    (hsize : i.size = 1) (hby : i.bytes = bytes)
    (v : Value) (n : Nat) (xs : List Int) (hs : a.eval s = v) (hown : w.ownsRow base e 1 v n (xs.map (Value.int k)))
    (ao : Option Addr) (m c : Nat) (ys : List Int) (hm : m = ys.length) (hmc : ao = none → c = 0) (hx : a.eval x = .slice ao m c) (hrd : Rd k w ao ys)
    (h63 : n + m ≤ maxLen) (hbytes : (n + m) * bytes ≤ 140737488355328) (hbase : base ≤ w.heap.size)
    (h : ∀ v' w', w'.ownsRow base e 1 v' (n + m) ((xs ++ ys).map (Value.int k)) → w.grownBy w' v.ownBlock → wpList P ops Q rest (a.put o.dst v') w') : wpList P ops Q (o :: rest) a w := by
  subst hm
  cases ao with
  | none =>
    have h0 : ys = [] := by
      cases ys with
      | nil => rfl
      | cons y ys => obtain ⟨_, h, _⟩ := hrd 0 (by simp); cases h
    subst h0
    have hc := hmc rfl
    subst hc
    refine wpList_append_own_none hgd s x t ho base e i 1 ht hi v n _ hs hown hx ?_
    refine h v w ?_ ⟨rfl, rfl, rfl, Nat.le_refl _, fun _ _ _ => rfl⟩
    simpa using hown
  | some ad =>
    refine wpList_append_own w hgd s x t ho base e i (.int k 0) 1 bytes ht hi hz hsize hby rfl (by decide) v n _ hs hown ad ys.length c (ys.map (Value.int k)) hx (by simp) ?_ (ints_oneCell _ _) h63 hbytes hbase ?_
    · intro j u hj
      rw [List.getElem?_map] at hj
      have hjl : j < ys.length := by
        rcases Nat.lt_or_ge j ys.length with h | h
        · exact h
        · simp [List.getElem?_eq_none h] at hj
      obtain ⟨a', ha', hc'⟩ := hrd j hjl
      cases ha'
      rw [hc']
      simpa [List.getElem?_eq_getElem hjl] using hj
    · intro v' w' h1 h2 _
      exact h v' w' (by rw [List.map_append]; exact h1) h2

theorem add_at (b i : Nat) : (⟨b, 0, none⟩ : Addr).add i = ⟨b, i, none⟩ := by unfold Addr.add; split <;> simp_all
theorem cell_mark (w : World) (c : Array Value) (t : TypeId) (m : Nat × Nat) (i : Nat) : (w.alloc (.cells c t m)).cell? ((⟨w.heap.size, 0, none⟩ : Addr).add i) = c[i]? := by
  rw [add_at, World.cell?_alloc_mark]

/-- An argument that is a slice of whole numbers, as the shell of a proof tells it, in this text's words. -/
theorem row_parts {k : IntKind} {w : World} {a : Option Addr} {len cap : Nat} {zs : List Int}
    (h : (a = none ∧ len = 0 ∧ cap = 0 ∧ zs = []) ∨
      ∃ x, a = some x ∧ len ≤ cap ∧ cap ≤ maxLen ∧ zs.length = cap ∧ (∀ i, i < zs.length → w.cell? (x.add i) = some (.int k (zs.getD i 0))) ∧ ∀ n ∈ zs, (Lit.int k n).wf = true) :
    len = (zs.take len).length ∧ len ≤ cap ∧ cap ≤ 9223372036854775807 ∧ (a = none → cap = 0) ∧ Rd k w a (zs.take len) ∧ ∀ n ∈ zs.take len, (Lit.int k n).wf = true := by
  rcases h with ⟨rfl, rfl, rfl, rfl⟩ | ⟨x, rfl, h1, h2, h3, h4, h5⟩
  · exact ⟨rfl, by omega, by omega, fun _ => rfl, fun i hi => absurd hi (by simp), fun n hn => by cases hn⟩
  · refine ⟨by rw [List.length_take]; omega, h1, by simpa [maxLen] using h2, (fun e => by cases e), fun i hi => ⟨x, rfl, ?_⟩, fun n hn => h5 n (List.mem_of_mem_take hn)⟩
    have hi' : i < zs.length := by rw [List.length_take] at hi; omega
    rw [h4 i hi', List.getElem_take]
    simp [hi']
theorem byt_wf {xs : List Int} (h : ∀ n ∈ xs, (Lit.int .u8 n).wf = true) : Byt xs := fun x hx => by
  have := h x hx
  simp only [Lit.wf, Bool.and_eq_true, decide_eq_true_eq] at this
  have h1 : IntKind.u8.min = 0 := rfl
  have h2 : IntKind.u8.max = 255 := rfl
  omega

/-- 'min', 'max' of two whole numbers, kept whole in a walk (made known to it by 'attribute [local go_sem high] run_min_mn run_max_mx'). -/
def mnI (a b : Int) : Int := if b < a then b else a
def mxI (a b : Int) : Int := if b > a then b else a
theorem run_min_mn {P : Program} (w : World) (ts : Array TypeId) (t : TypeId) (k k' : IntKind) (x y : Int) : (Builtin.min_ ts t #[.int k x, .int k' y]).run P w = .ok (.int k (mnI x y)) w := run_min_int2 w ts t k k' x y
theorem run_max_mx {P : Program} (w : World) (ts : Array TypeId) (t : TypeId) (k k' : IntKind) (x y : Int) : (Builtin.max_ ts t #[.int k x, .int k' y]).run P w = .ok (.int k (mxI x y)) w := run_max_int2 w ts t k k' x y

/-- A block known whole. -/
theorem blk_cell {w : World} {b : Nat} {C : Array Value} {t : TypeId} (h : w.heap[b]? = some (.cells C t (0, 0))) (i : Nat) : w.cell? ⟨b, i, none⟩ = C[i]? := by simp [World.cell?, h]
theorem blk_free {w : World} {b : Nat} {C : Array Value} {t : TypeId} (h : w.heap[b]? = some (.cells C t (0, 0))) (i : Nat) : w.frozen? ⟨b, i, none⟩ = false := by simp [World.frozen?, h]
theorem blk_set {w : World} {b : Nat} {C : Array Value} {t : TypeId} (h : w.heap[b]? = some (.cells C t (0, 0))) (i : Nat) (v : Value) :
    (w.setCell ⟨b, i, none⟩ v).heap[b]? = some (.cells (C.setIfInBounds i v) t (0, 0)) := by
  simp [World.setCell, Array.getElem?_modify, h]
theorem blk_new (w : World) (o : Obj) : (w.alloc o).heap[w.heap.size]? = some o := by
  show (w.heap.push o)[w.heap.size]? = _
  simp

theorem fill_step {α : Type} (f : α → Value) (ds : List α) (n k : Nat) (hl : ds.length = n) (h : k < ds.length) (z : α) :
    (((ds.take k ++ List.replicate (n - k) z).map f).toArray).setIfInBounds k (f ds[k]) = ((ds.take (k + 1) ++ List.replicate (n - (k + 1)) z).map f).toArray := by
  apply Array.ext'
  rw [Array.toList_setIfInBounds]
  apply List.ext_getElem?
  intro i
  have e1 : (ds.take k).length = k := by rw [List.length_take]; omega
  have e2 : (ds.take (k + 1)).length = k + 1 := by rw [List.length_take]; omega
  by_cases hi : k = i
  · subst hi
    rw [List.getElem?_set_self (by rw [List.length_map, List.length_append, e1, List.length_replicate]; omega), List.getElem?_map, List.getElem?_append_left (by omega), List.getElem?_take_of_lt (by omega), List.getElem?_eq_getElem h]
    rfl
  · rw [List.getElem?_set_ne hi, List.getElem?_map, List.getElem?_map]
    congr 1
    by_cases h1 : i < k
    · rw [List.getElem?_append_left (by omega), List.getElem?_append_left (by omega), List.getElem?_take_of_lt h1, List.getElem?_take_of_lt (by omega)]
    · rw [List.getElem?_append_right (by omega), List.getElem?_append_right (by omega), e1, e2, List.getElem?_replicate, List.getElem?_replicate]
      by_cases h2 : i < n
      · rw [if_pos (by omega), if_pos (by omega)]
      · rw [if_neg (by omega), if_neg (by omega)]
theorem Rd.drewN {k : IntKind} {w : World} {ao : Option Addr} {xs : List Int} (h : Rd k w ao xs) (n : Nat) : Rd k (w.drewN n) ao xs := fun i hi => by
  obtain ⟨a, ha, hc⟩ := h i hi
  exact ⟨a, ha, by rw [World.cell?_drewN]; exact hc⟩
theorem belowN {B : Nat} {w w' : World} (h : Below B w w') (n : Nat) : Below B w (w'.drewN n) := ⟨h.os, h.tape, h.output, h.size, h.block⟩

/-- Where a walk is to stand still: 'go_wp2_with (with_reducible refine halt_op 17 ?_)' walks up to the operation that writes slot 17; 'refine Halted.run ?_' goes on. -/
def Halted (p : Prop) : Prop := p
theorem Halted.run {p : Prop} (h : p) : Halted p := h
theorem halt_op (d : Nat) {P : Program} {ops : Array Oper} {Q : Exit → Act → World → Prop} {op : Op} {ty : TypeId} {pos : String} {after : Array Edge} {g : Option (Nat × Bool)} {rest : List Oper} {a : Act} {w : World}
    (h : Halted (wpList P ops Q ({ dst := some d, op := op, type := ty, pos := pos, after := after, guard := g } :: rest) a w)) : wpList P ops Q ({ dst := some d, op := op, type := ty, pos := pos, after := after, guard := g } :: rest) a w := h
theorem halt_call {P : Program} {f : FuncId} {args : Array Value} {w : World} {R : Ending → World → Prop} (h : Halted (Calls P f args w R)) : Calls P f args w R := h
theorem halt_bare {P : Program} {ops : Array Oper} {Q : Exit → Act → World → Prop} {op : Op} {ty : TypeId} {pos : String} {after : Array Edge} {g : Option (Nat × Bool)} {rest : List Oper} {a : Act} {w : World}
    (h : Halted (wpList P ops Q ({ dst := none, op := op, type := ty, pos := pos, after := after, guard := g } :: rest) a w)) : wpList P ops Q ({ dst := none, op := op, type := ty, pos := pos, after := after, guard := g } :: rest) a w := h
end Go.Proofs.Ytknhignklepgeaa
