/- A device in memory, told as plain data: what its two blocks hold, and what a store into them makes of it. -/
import Derived.Test.YtcahhopneobjbaaCore
import Derived.Deep.MidRow
namespace Go.Proofs.Ytcahhopneobjbaa
open Go.RowKit

structure Sec where
  now : List Int
  lasts : List Int
  loose : Bool
structure Dv where
  n : Nat
  sec : Nat → Sec
  calls : Int
  lit : Bool
  fuse : Int
  dead : Bool

def secCell (s : Sec) (j : Nat) : Value :=
  if j < 64 then .int .u8 (s.now.getD j 0) else if j < 128 then .int .u8 (s.lasts.getD (j - 64) 0) else .bool s.loose
structure SecOk (s : Sec) : Prop where
  n : s.now.length = 64
  l : s.lasts.length = 64
  bn : Byt s.now
  bl : Byt s.lasts

structure DevAt (w : World) (b r : Nat) (D : Dv) : Prop where
  hb : w.heap[b]? = some (.cells #[.slice (some ⟨r, 0, none⟩) D.n D.n, .int .i64 D.calls, .bool D.lit, .int .i64 D.fuse, .bool D.dead] 55 (0, 0))
  hr : ∃ C, w.heap[r]? = some (.cells C 62 (0, 0)) ∧ C.size = D.n * 129 ∧ ∀ i j, i < D.n → j < 129 → C[i * 129 + j]? = some (secCell (D.sec i) j)
  ok : ∀ i, i < D.n → SecOk (D.sec i)
  h1 : 1 ≤ D.n
  h2 : D.n ≤ 2048

/-- All blocks but those of 'bs' are as they were. -/
structure But (bs : List Nat) (w w' : World) : Prop where
  os : w'.os = w.os
  tape : w'.tape = w.tape
  output : w'.output = w.output
  size : w.heap.size ≤ w'.heap.size
  block : ∀ k, k < w.heap.size → k ∉ bs → w'.heap[k]? = w.heap[k]?
theorem But.refl (bs : List Nat) (w : World) : But bs w w := ⟨rfl, rfl, rfl, Nat.le_refl _, fun _ _ _ => rfl⟩
theorem But.trans {bs : List Nat} {a b c : World} (h : But bs a b) (k : But bs b c) : But bs a c :=
  ⟨k.os.trans h.os, k.tape.trans h.tape, k.output.trans h.output, Nat.le_trans h.size k.size, fun i hi hn => (k.block i (Nat.lt_of_lt_of_le hi h.size) hn).trans (h.block i hi hn)⟩
theorem But.mono {bs cs : List Nat} {a b : World} (h : But bs a b) (hs : ∀ k, k ∈ bs → k ∈ cs) : But cs a b :=
  ⟨h.os, h.tape, h.output, h.size, fun i hi hn => h.block i hi (fun e => hn (hs i e))⟩
theorem But.of_below {bs : List Nat} {w w' : World} (h : Below w.heap.size w w') : But bs w w' := ⟨h.os, h.tape, h.output, h.size, fun i hi _ => h.block i hi⟩
theorem But.below {w w' : World} (h : But [] w w') : Below w.heap.size w w' := ⟨h.os, h.tape, h.output, h.size, fun i hi => h.block i hi (by simp)⟩
theorem But.step {bs : List Nat} {w0 w w' : World} (h0 : Below w0.heap.size w0 w) (h : But bs w w') (hb : ∀ k, k ∈ bs → w0.heap.size ≤ k) : Below w0.heap.size w0 w' :=
  h0.trans ⟨h.os, h.tape, h.output, h.size, fun k hk => h.block k (Nat.lt_of_lt_of_le hk h0.size) (fun e => by have := hb k e; omega)⟩
theorem But.alloc {bs : List Nat} {w0 w : World} (h : But bs w0 w) (o : Obj) : But bs w0 (w.alloc o) := h.trans (But.of_below ((Below.refl _ _).alloc (Nat.le_refl _) o))
theorem But.drew {bs : List Nat} {w0 w : World} (h : But bs w0 w) : But bs w0 w.drew := ⟨h.os, h.tape, h.output, h.size, h.block⟩
theorem But.drewN {bs : List Nat} {w0 w : World} (h : But bs w0 w) (n : Nat) : But bs w0 (w.drewN n) := ⟨h.os, h.tape, h.output, h.size, h.block⟩
theorem But.setCell {bs : List Nat} {w0 w : World} (h : But bs w0 w) {a : Addr} (ha : a.block ∈ bs) (v : Value) : But bs w0 (w.setCell a v) :=
  h.trans ⟨rfl, rfl, rfl, by simp, fun k _ hn => Below.heap_setCell _ _ _ _ (fun e => hn (e ▸ ha))⟩
theorem setCells_other (b : Nat) : ∀ (vs : List Value) (o : Nat) (w : World) (k : Nat), k ≠ b → (w.setCells b o vs).heap[k]? = w.heap[k]?
  | [], _, _, _, _ => rfl
  | v :: r, o, w, k, h => by rw [World.setCells, setCells_other b r (o + 1) _ k h]; exact Below.heap_setCell _ _ _ _ (by exact h)
theorem setCells_world (b : Nat) : ∀ (vs : List Value) (o : Nat) (w : World), (w.setCells b o vs).os = w.os ∧ (w.setCells b o vs).tape = w.tape ∧ (w.setCells b o vs).output = w.output ∧ (w.setCells b o vs).heap.size = w.heap.size
  | [], _, _ => ⟨rfl, rfl, rfl, rfl⟩
  | v :: r, o, w => by
    obtain ⟨h1, h2, h3, h4⟩ := setCells_world b r (o + 1) (w.setCell ⟨b, o, none⟩ v)
    rw [World.setCells]
    exact ⟨h1, h2, h3, by rw [h4]; simp⟩
theorem But.setCells {bs : List Nat} {w0 w : World} (h : But bs w0 w) {b : Nat} (hb : b ∈ bs) (o : Nat) (vs : List Value) : But bs w0 (w.setCells b o vs) := by
  obtain ⟨h1, h2, h3, h4⟩ := setCells_world b vs o w
  exact h.trans ⟨h1, h2, h3, by omega, fun k _ hn => setCells_other b vs o w k (fun e => hn (e ▸ hb))⟩

/-- A row of cells behind a store of several. -/
def setRange (C : Array Value) : Nat → List Value → Array Value
  | _, [] => C
  | o, v :: r => setRange (C.setIfInBounds o v) (o + 1) r
theorem setRange_size : ∀ (vs : List Value) (C : Array Value) (o : Nat), (setRange C o vs).size = C.size
  | [], _, _ => rfl
  | v :: r, C, o => by rw [setRange, setRange_size r]; simp
theorem setRange_at : ∀ (vs : List Value) (C : Array Value) (o k : Nat), k < C.size → (setRange C o vs)[k]? = if o ≤ k ∧ k < o + vs.length then vs[k - o]? else C[k]?
  | [], C, o, k, _ => by rw [if_neg (by rw [List.length_nil]; omega)]; rfl
  | v :: r, C, o, k, hk => by
    rw [setRange, setRange_at r _ _ _ (by simpa using hk)]
    by_cases h1 : o + 1 ≤ k ∧ k < o + 1 + r.length
    · rw [if_pos h1, if_pos (by simp; omega)]
      have e : k - o = k - (o + 1) + 1 := by omega
      rw [e, List.getElem?_cons_succ]
    · rw [if_neg h1]
      by_cases h2 : k = o
      · subst h2
        rw [if_pos (by simp), Nat.sub_self]
        simp [hk]
      · rw [if_neg (by simp; omega), Array.getElem?_setIfInBounds_ne (by omega)]
theorem heap_setCells (b : Nat) (t : TypeId) (fr : Nat × Nat) : ∀ (vs : List Value) (o : Nat) (w : World) (C : Array Value), w.heap[b]? = some (.cells C t fr) → (w.setCells b o vs).heap[b]? = some (.cells (setRange C o vs) t fr)
  | [], _, _, _, h => h
  | v :: r, o, w, C, h => by
    rw [World.setCells]
    refine heap_setCells b t fr r (o + 1) _ _ ?_
    simp [World.setCell, Array.getElem?_modify, h]

section
variable {w : World} {b r : Nat} {D : Dv}
theorem DevAt.ne (h : DevAt w b r D) : b ≠ r := by
  intro e
  subst e
  obtain ⟨C, hC, _⟩ := h.hr
  rw [h.hb] at hC
  injection hC with hC
  injection hC with _ ht
  exact absurd ht (by decide)
theorem DevAt.lt_b (h : DevAt w b r D) : b < w.heap.size := (Array.getElem?_eq_some_iff.1 h.hb).1
theorem DevAt.lt_r (h : DevAt w b r D) : r < w.heap.size := by obtain ⟨C, hC, _⟩ := h.hr; exact (Array.getElem?_eq_some_iff.1 hC).1
theorem DevAt.c0 (h : DevAt w b r D) : w.cell? ⟨b, 0, none⟩ = some (.slice (some ⟨r, 0, none⟩) D.n D.n) := blk_cell h.hb 0
theorem DevAt.c1 (h : DevAt w b r D) : w.cell? ⟨b, 1, none⟩ = some (.int .i64 D.calls) := blk_cell h.hb 1
theorem DevAt.c2 (h : DevAt w b r D) : w.cell? ⟨b, 2, none⟩ = some (.bool D.lit) := blk_cell h.hb 2
theorem DevAt.c3 (h : DevAt w b r D) : w.cell? ⟨b, 3, none⟩ = some (.int .i64 D.fuse) := blk_cell h.hb 3
theorem DevAt.c4 (h : DevAt w b r D) : w.cell? ⟨b, 4, none⟩ = some (.bool D.dead) := blk_cell h.hb 4
theorem DevAt.fb (h : DevAt w b r D) (i : Nat) : w.frozen? ⟨b, i, none⟩ = false := blk_free h.hb i
theorem DevAt.fr (h : DevAt w b r D) (i : Nat) : w.frozen? ⟨r, i, none⟩ = false := by obtain ⟨C, hC, _⟩ := h.hr; exact blk_free hC i
theorem DevAt.cs (h : DevAt w b r D) {i j : Nat} (hi : i < D.n) (hj : j < 129) : w.cell? ⟨r, i * 129 + j, none⟩ = some (secCell (D.sec i) j) := by
  obtain ⟨C, hC, _, hc⟩ := h.hr
  rw [blk_cell hC, hc i j hi hj]
theorem DevAt.loose (h : DevAt w b r D) {i : Nat} (hi : i < D.n) : w.cell? ⟨r, i * 129 + 128, none⟩ = some (.bool (D.sec i).loose) := h.cs hi (by omega)
theorem DevAt.but {w' : World} (h : DevAt w b r D) {bs : List Nat} (hb : But bs w w') (h1 : b ∉ bs) (h2 : r ∉ bs) : DevAt w' b r D := by
  obtain ⟨C, hC, hs, hc⟩ := h.hr
  exact ⟨(hb.block b h.lt_b h1).trans h.hb, ⟨C, (hb.block r h.lt_r h2).trans hC, hs, hc⟩, h.ok, h.h1, h.h2⟩
theorem DevAt.below {w' : World} (h : DevAt w b r D) (hb : Below w.heap.size w w') : DevAt w' b r D := h.but (But.of_below (bs := []) hb) (by simp) (by simp)
theorem DevAt.drew (h : DevAt w b r D) : DevAt w.drew b r D := h.below (Below.refl _ _).drew
theorem DevAt.drewN (h : DevAt w b r D) (n : Nat) : DevAt (w.drewN n) b r D := h.below ⟨rfl, rfl, rfl, Nat.le_refl _, fun _ _ => rfl⟩

theorem DevAt.setCalls (h : DevAt w b r D) (c : Int) : DevAt (w.setCell ⟨b, 1, none⟩ (.int .i64 c)) b r { D with calls := c } := by
  obtain ⟨C, hC, hs, hc⟩ := h.hr
  exact ⟨blk_set h.hb 1 _, ⟨C, (Below.heap_setCell _ _ _ _ (by exact h.ne.symm)).trans hC, hs, hc⟩, h.ok, h.h1, h.h2⟩
theorem DevAt.setLit (h : DevAt w b r D) (c : Bool) : DevAt (w.setCell ⟨b, 2, none⟩ (.bool c)) b r { D with lit := c } := by
  obtain ⟨C, hC, hs, hc⟩ := h.hr
  exact ⟨blk_set h.hb 2 _, ⟨C, (Below.heap_setCell _ _ _ _ (by exact h.ne.symm)).trans hC, hs, hc⟩, h.ok, h.h1, h.h2⟩
theorem DevAt.setFuse (h : DevAt w b r D) (c : Int) : DevAt (w.setCell ⟨b, 3, none⟩ (.int .i64 c)) b r { D with fuse := c } := by
  obtain ⟨C, hC, hs, hc⟩ := h.hr
  exact ⟨blk_set h.hb 3 _, ⟨C, (Below.heap_setCell _ _ _ _ (by exact h.ne.symm)).trans hC, hs, hc⟩, h.ok, h.h1, h.h2⟩
theorem DevAt.setDead (h : DevAt w b r D) (c : Bool) : DevAt (w.setCell ⟨b, 4, none⟩ (.bool c)) b r { D with dead := c } := by
  obtain ⟨C, hC, hs, hc⟩ := h.hr
  exact ⟨blk_set h.hb 4 _, ⟨C, (Below.heap_setCell _ _ _ _ (by exact h.ne.symm)).trans hC, hs, hc⟩, h.ok, h.h1, h.h2⟩

/-- The device of which sector i is another one. -/
def Dv.put (D : Dv) (i : Nat) (s : Sec) : Dv := { D with sec := fun k => if k = i then s else D.sec k }
/-- A store into one sector's cells. -/
theorem DevAt.setSec (h : DevAt w b r D) {i : Nat} (hi : i < D.n) (o : Nat) (vs : List Value) (s : Sec) (ho : o + vs.length ≤ 129) (hs : SecOk s)
    (hv : ∀ j, j < 129 → some (secCell s j) = if o ≤ j ∧ j < o + vs.length then vs[j - o]? else some (secCell (D.sec i) j)) :
    DevAt (w.setCells r (i * 129 + o) vs) b r (D.put i s) := by
  obtain ⟨C, hC, hz, hc⟩ := h.hr
  refine ⟨(setCells_other r vs _ w b h.ne).trans h.hb, ⟨_, heap_setCells r 62 (0, 0) vs _ w C hC, by rw [setRange_size]; exact hz, ?_⟩, ?_, h.h1, h.h2⟩
  · intro k j hk hj
    have hlt : k * 129 + j < C.size := by rw [hz]; show _ < D.n * 129; have : k < D.n := hk; omega
    rw [setRange_at _ _ _ _ hlt]
    by_cases e : k = i
    · subst e
      have hp : (D.put k s).sec k = s := by simp [Dv.put]
      rw [hp, hv j hj]
      by_cases h1 : o ≤ j ∧ j < o + vs.length
      · rw [if_pos h1, if_pos (by omega)]
        congr 1
        omega
      · rw [if_neg h1, if_neg (by omega)]
        exact hc k j hk hj
    · have hp : (D.put i s).sec k = D.sec k := by simp [Dv.put, e]
      rw [hp, if_neg (by
        rcases Nat.lt_or_gt_of_ne e with h | h
        · omega
        · omega)]
      exact hc k j hk hj
  · intro k hk
    by_cases e : k = i
    · subst e; simpa [Dv.put] using hs
    · simpa [Dv.put, e] using h.ok k hk
theorem DevAt.range_now (h : DevAt w b r D) {i : Nat} (hi : i < D.n) : w.rangeAt r (i * 129) ((D.sec i).now.map (Value.int .u8)) := by
  intro j v hv
  have hok := h.ok i hi
  have hj : j < 64 := by
    rcases Nat.lt_or_ge j 64 with h | h
    · exact h
    · rw [List.getElem?_eq_none (by simp [hok.n]; exact h)] at hv; cases hv
  rw [h.cs hi (by omega), ← hv, secCell, if_pos hj, List.getElem?_map, List.getElem?_eq_getElem (by rw [hok.n]; exact hj)]
  simp [List.getD_eq_getElem?_getD, List.getElem?_eq_getElem (show j < (D.sec i).now.length by rw [hok.n]; exact hj)]
theorem DevAt.range_lasts (h : DevAt w b r D) {i : Nat} (hi : i < D.n) : w.rangeAt r (i * 129 + 64) ((D.sec i).lasts.map (Value.int .u8)) := by
  intro j v hv
  have hok := h.ok i hi
  have hj : j < 64 := by
    rcases Nat.lt_or_ge j 64 with h | h
    · exact h
    · rw [List.getElem?_eq_none (by simp [hok.l]; exact h)] at hv; cases hv
  rw [Nat.add_assoc, h.cs hi (by omega), ← hv, secCell, if_neg (by omega), if_pos (by omega), List.getElem?_map, List.getElem?_eq_getElem (by rw [hok.l]; exact hj)]
  simp [List.getD_eq_getElem?_getD, List.getElem?_eq_getElem (show j < (D.sec i).lasts.length by rw [hok.l]; exact hj)]
theorem DevAt.there (h : DevAt w b r D) {i : Nat} (hi : i < D.n) (o n : Nat) (ho : o + n ≤ 129) : w.there r (i * 129 + o) n := by
  intro j hj
  refine ⟨?_, h.fr _⟩
  rw [Nat.add_assoc, h.cs hi (by omega)]
  rfl
end
end Go.Proofs.Ytcahhopneobjbaa
