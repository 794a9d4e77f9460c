/- The closures that append. -/
import Derived.Test.YtknhignklepgeaaWk
import Derived.Deep.RegionLaw
import Derived.Handy
namespace Go.Proofs.Ytknhignklepgeaa
open Go.RowKit

/-- The list in a captured variable. -/
structure St (W0 w : World) (gb : Nat) (v : Value) (L : List El) : Prop where
  h : w.heap[gb]? = some (.cells #[v] 24 (0, 0))
  r : RowN W0 w v L
  b : W0.heap.size ≤ gb
/-- What is left alone: all but the variable, v's own row, new blocks. -/
structure Grow2 (gb : Nat) (w : World) (v : Value) (w' : World) (v' : Value) : Prop where
  os : w'.os = w.os
  tape : w'.tape = w.tape
  output : w'.output = w.output
  size : w.heap.size ≤ w'.heap.size
  block : ∀ k, k < w.heap.size → k ≠ gb → v.ownBlock ≠ some k → w'.heap[k]? = w.heap[k]?
  at' : v'.ownBlock = v.ownBlock ∨ ∃ g, v'.ownBlock = some g ∧ w.heap.size ≤ g
theorem Grow2.refl (gb : Nat) (w : World) (v : Value) : Grow2 gb w v w v := ⟨rfl, rfl, rfl, Nat.le_refl _, fun _ _ _ _ => rfl, .inl rfl⟩
theorem Grow2.of_below {gb : Nat} {w w' : World} (v : Value) (h : Below w.heap.size w w') : Grow2 gb w v w' v := ⟨h.os, h.tape, h.output, h.size, fun k hk _ _ => h.block k hk, .inl rfl⟩
theorem Grow2.trans {gb : Nat} {w w1 w2 : World} {v v1 v2 : Value} (h : Grow2 gb w v w1 v1) (k : Grow2 gb w1 v1 w2 v2) : Grow2 gb w v w2 v2 := by
  refine ⟨k.os.trans h.os, k.tape.trans h.tape, k.output.trans h.output, Nat.le_trans h.size k.size, fun i hi hg hn => ?_, ?_⟩
  · refine (k.block i (Nat.lt_of_lt_of_le hi h.size) hg (fun e => ?_)).trans (h.block i hi hg hn)
    rcases h.at' with e1 | ⟨g, e1, hg⟩
    · exact hn (by rw [← e1]; exact e)
    · rw [e1] at e; injection e with e; omega
  · rcases k.at' with e2 | ⟨g, e2, hg⟩
    · rcases h.at' with e1 | ⟨g, e1, hg⟩
      · exact .inl (e2.trans e1)
      · exact .inr ⟨g, e2.trans e1, hg⟩
    · exact .inr ⟨g, e2, Nat.le_trans h.size hg⟩
theorem Grow2.below {gb : Nat} {w0 w w' : World} {v v' : Value} (h0 : Below w0.heap.size w0 w) (h : Grow2 gb w v w' v') (hb : w0.heap.size ≤ gb) (hv : ∀ g, v.ownBlock = some g → w0.heap.size ≤ g) : Below w0.heap.size w0 w' :=
  ⟨h.os.trans h0.os, h.tape.trans h0.tape, h.output.trans h0.output, Nat.le_trans h0.size h.size, fun k hk => (h.block k (Nat.lt_of_lt_of_le hk h0.size) (by omega) (fun e => by have := hv k e; omega)).trans (h0.block k hk)⟩
theorem St.below {W0 w w' : World} {gb : Nat} {v : Value} {L : List El} (h : St W0 w gb v L) (hb : Below w.heap.size w w') : St W0 w' gb v L :=
  ⟨(hb.block gb (Array.getElem?_eq_some_iff.1 h.h).1).trans h.h, h.r.below hb, h.b⟩
theorem St.ne {W0 w : World} {gb : Nat} {v : Value} {L : List El} (h : St W0 w gb v L) : v.ownBlock ≠ some gb := fun e => by
  obtain ⟨cs, _, h2, _⟩ := h.r
  rcases h2.2 with ⟨h0, _⟩ | ⟨g', cap, cur, hv, _, q2, _⟩
  · rw [h0] at e; cases e
  · rw [hv] at e
    cases e
    rw [h.h] at q2
    injection q2 with q2
    injection q2 with _ q2
    exact absurd q2 (by decide)
theorem RowN.form {W0 w : World} {v : Value} {L : List El} (h : RowN W0 w v L) : ∃ vo vc, v = .slice vo L.length vc := by
  obtain ⟨cs, h1, h2, _⟩ := h
  have e : cs.length = L.length := by rw [← h1]; simp
  rcases h2.2 with ⟨h0, hn⟩ | ⟨g', cap, cur, hv, _⟩
  · exact ⟨none, 0, by rw [h0, ← e, hn]⟩
  · exact ⟨_, _, by rw [hv, e]⟩
def zeroN : List Value := [.int .i64 0, .int .i64 0, .slice none 0 0]
/-- Behind an append of a nought: where it lies, what else there is. -/
theorem app_facts {W0 w1 Wm w5 : World} {gb g c5 vc : Nat} {vo : Option Addr} {L : List El} {cs : List Nc} (hs : St W0 w1 gb (.slice vo L.length vc) L) (hbm : Below w1.heap.size w1 Wm) (hlen : cs.length = L.length)
    (ho5 : w5.ownsRow W0.heap.size 26 3 (.slice (some ⟨g, 0, none⟩) (L.length + 1) c5) (L.length + 1) (cellsN cs ++ zeroN)) (hg5 : Wm.grownBy w5 (Value.slice vo L.length vc).ownBlock)
    (hat : (Value.slice vo L.length vc).ownBlock = some g ∨ g = Wm.heap.size) :
    (w5.cell? ⟨g, L.length * 3, none⟩ = some (.int .i64 0) ∧ w5.cell? ⟨g, L.length * 3 + 1, none⟩ = some (.int .i64 0) ∧ w5.cell? ⟨g, L.length * 3 + 2, none⟩ = some (.slice none 0 0)) ∧ (∀ i, w5.frozen? ⟨g, i, none⟩ = false) ∧ g ≠ gb ∧
    (∀ b, b < w1.heap.size → (Value.slice vo L.length vc).ownBlock ≠ some b → w5.heap[b]? = w1.heap[b]? ∧ b ≠ g) ∧ L.length + 1 ≤ c5 ∧ c5 ≤ 9223372036854775807 := by
  have hl : (cellsN cs).length = L.length * 3 := by rw [cellsN_length, hlen]
  have hc : ∀ j u, (cellsN cs ++ zeroN)[j]? = some u → w5.cell? ⟨g, j, none⟩ = some u := fun j u hj => by
    have := ho5.cells (g := g) rfl j u hj
    rwa [add_at] at this
  obtain ⟨cur, hcur, h1, h2⟩ : ∃ cur, w5.heap[g]? = some (.cells cur 26 (0, 0)) ∧ L.length + 1 ≤ c5 ∧ c5 ≤ 9223372036854775807 := by
    rcases ho5.2 with ⟨_, h0⟩ | ⟨g', cap, cur, hv, _, q2, q3, q4, _⟩
    · omega
    · injection hv with e1 e2 e3
      injection e1 with e1
      injection e1 with e1
      subst e1 e3
      exact ⟨cur, q2, q3, by simpa [maxLen] using q4⟩
  have hoth : ∀ b, b < w1.heap.size → (Value.slice vo L.length vc).ownBlock ≠ some b → w5.heap[b]? = w1.heap[b]? ∧ b ≠ g := fun b hb hn => by
    refine ⟨(hg5.block b (Nat.lt_of_lt_of_le hb hbm.size) (fun e => hn e.symm)).trans (hbm.block b hb), fun e => ?_⟩
    subst e
    rcases hat with e | e
    · exact hn e
    · have := hbm.size; omega
  refine ⟨⟨hc _ _ ?_, hc _ _ ?_, hc _ _ ?_⟩, fun i => blk_free hcur i, ?_, hoth, h1, h2⟩
  · rw [List.getElem?_append_right (by omega), hl]; simp [zeroN]
  · rw [List.getElem?_append_right (by omega), hl]; simp [zeroN]
  · rw [List.getElem?_append_right (by omega), hl]; simp [zeroN]
  · exact fun e => (hoth gb (Array.getElem?_eq_some_iff.1 hs.h).1 hs.ne).2 e.symm
/-- The element is laid in, the variable holds the new slice. -/
theorem app_done {W0 w1 Wm w5 : World} {gb g c5 vc : Nat} {vo : Option Addr} {L : List El} {cs : List Nc} (c : Nc) (hs : St W0 w1 gb (.slice vo L.length vc) L) (hbm : Below w1.heap.size w1 Wm) (hcs : cs.map (·.e) = L) (hkk : ∀ c, c ∈ cs → KidsV W0 c.ao c.cap c.e.kids) (hk : KidsV W0 c.ao c.cap c.e.kids)
    (ho5 : w5.ownsRow W0.heap.size 26 3 (.slice (some ⟨g, 0, none⟩) (L.length + 1) c5) (L.length + 1) (cellsN cs ++ zeroN)) (hg5 : Wm.grownBy w5 (Value.slice vo L.length vc).ownBlock)
    (hat : (Value.slice vo L.length vc).ownBlock = some g ∨ g = Wm.heap.size) :
    St W0 ((((w5.setCell ⟨g, L.length * 3, none⟩ (.int .i64 c.e.k)).setCell ⟨g, L.length * 3 + 1, none⟩ (.int .i64 c.e.t)).setCell ⟨g, L.length * 3 + 2, none⟩ (.slice c.ao c.e.kids.els.length c.cap)).setCell ⟨gb, 0, none⟩ (.slice (some ⟨g, 0, none⟩) (L.length + 1) c5)) gb (.slice (some ⟨g, 0, none⟩) (L.length + 1) c5) (L ++ [c.e]) ∧
    Grow2 gb w1 (.slice vo L.length vc) ((((w5.setCell ⟨g, L.length * 3, none⟩ (.int .i64 c.e.k)).setCell ⟨g, L.length * 3 + 1, none⟩ (.int .i64 c.e.t)).setCell ⟨g, L.length * 3 + 2, none⟩ (.slice c.ao c.e.kids.els.length c.cap)).setCell ⟨gb, 0, none⟩ (.slice (some ⟨g, 0, none⟩) (L.length + 1) c5)) (.slice (some ⟨g, 0, none⟩) (L.length + 1) c5) := by
  have hlen : cs.length = L.length := by rw [← hcs]; simp
  obtain ⟨_, _, hgg, hoth, _, _⟩ := app_facts hs hbm hlen ho5 hg5 hat
  have hl : (cellsN cs).length = L.length * 3 := by rw [cellsN_length, hlen]
  have hgb1 : gb < w1.heap.size := (Array.getElem?_eq_some_iff.1 hs.h).1
  have hgb5 := (hoth gb hgb1 hs.ne).1.trans hs.h
  have far : ∀ (w : World) (b o : Nat) (v : Value) (k : Nat), k ≠ b → (w.setCell ⟨b, o, none⟩ v).heap[k]? = w.heap[k]? := fun w b o v k hk => Below.heap_setCell _ _ _ _ (by exact hk)
  refine ⟨⟨?_, ⟨cs ++ [c], by rw [List.map_append, hcs]; rfl, ?_, fun c' hc' => ?_⟩, hs.b⟩, ?_⟩
  · exact blk_set ((far _ _ _ _ _ (Ne.symm hgg)).trans ((far _ _ _ _ _ (Ne.symm hgg)).trans ((far _ _ _ _ _ (Ne.symm hgg)).trans hgb5))) 0 _
  · rcases ho5.2 with ⟨_, h0⟩ | ⟨g', cap, cur, hv, q1, q2, q3, q4, q5, q6⟩
    · omega
    · injection hv with e1 e2 e3
      injection e1 with e1
      injection e1 with e1
      subst e1 e3
      have hfin := blk_set (blk_set (blk_set q2 (L.length * 3) (.int .i64 c.e.k)) (L.length * 3 + 1) (.int .i64 c.e.t)) (L.length * 3 + 2) (.slice c.ao c.e.kids.els.length c.cap)
      rw [List.length_append, List.length_singleton, hlen]
      refine ⟨by rw [cellsN_append, List.length_append, hl]; show _ + 3 = _; omega, .inr ⟨g, c5, _, rfl, q1, (far _ _ _ _ _ hgg).trans hfin, q3, q4, by simp [q5], ?_⟩⟩
      rw [Array.toList_setIfInBounds, Array.toList_setIfInBounds, Array.toList_setIfInBounds, List.take_set, List.take_set, List.take_set, q6, cellsN_append]
      rw [List.set_append_right _ _ (by omega), List.set_append_right _ _ (by omega), List.set_append_right _ _ (by omega), hl]
      simp [zeroN, cellsN]
  · rcases List.mem_append.1 hc' with h | h
    · exact hkk c' h
    · rw [List.mem_singleton] at h; subst h; exact hk
  · refine ⟨hg5.os.trans hbm.os, hg5.tape.trans hbm.tape, hg5.output.trans hbm.output, ?_, fun k hk hkg hkn => ?_, ?_⟩
    · have := hg5.size; have := hbm.size; simp; omega
    · obtain ⟨e1, e2⟩ := hoth k hk hkn
      exact (far _ _ _ _ _ hkg).trans ((far _ _ _ _ _ e2).trans ((far _ _ _ _ _ e2).trans ((far _ _ _ _ _ e2).trans e1)))
    · rcases hat with e | e
      · exact .inl e.symm
      · exact .inr ⟨g, rfl, by rw [e]; exact hbm.size⟩
theorem setCell_comm2 (w : World) (b o b' o' : Nat) (v v' : Value) (h : b ≠ b') : (w.setCell ⟨b, o, none⟩ v).setCell ⟨b', o', none⟩ v' = (w.setCell ⟨b', o', none⟩ v').setCell ⟨b, o, none⟩ v := by
  unfold World.setCell
  congr 1
  apply Array.ext_getElem?
  intro i
  rw [Array.getElem?_modify, Array.getElem?_modify, Array.getElem?_modify, Array.getElem?_modify]
  by_cases h1 : b = i
  · subst h1
    rw [if_neg (fun e => h e.symm), if_pos rfl, if_pos rfl, if_neg (fun e => h e.symm)]
  · by_cases h2 : b' = i
    · subst h2
      rw [if_pos rfl, if_neg h1, if_neg h1, if_pos rfl]
    · rw [if_neg h2, if_neg h1, if_neg h1, if_neg h2]
theorem setCell_four (w : World) (b g o o1 o2 : Nat) (v x y z : Value) (h : b ≠ g) :
    (((w.setCell ⟨b, 0, none⟩ v).setCell ⟨g, o, none⟩ x).setCell ⟨g, o1, none⟩ y).setCell ⟨g, o2, none⟩ z = (((w.setCell ⟨g, o, none⟩ x).setCell ⟨g, o1, none⟩ y).setCell ⟨g, o2, none⟩ z).setCell ⟨b, 0, none⟩ v := by
  rw [setCell_comm2 w b 0 g o v x h, setCell_comm2 _ b 0 g o1 v y h, setCell_comm2 _ b 0 g o2 v z h]
set_option maxHeartbeats 4000000 in
theorem clo17_any (W0 w : World) (k t : Int) (ao : Option Addr) (cap gb sb : Nat) (stop : Int) (v : Value) (L : List El) (F : Fo) (hB0 : Below W0.heap.size W0 w) (hk : KidsV W0 ao cap F) (hcl : L.length < 2000) (hs : St W0 w gb v L) (hsb : w.heap[sb]? = some (.cells #[.int .i64 stop] 3 (0, 0))) :
    Calls Try.prog 17 #[nodeV k t ao F.els.length cap, .pointer (some ⟨gb, 0, none⟩), .pointer (some ⟨sb, 0, none⟩)] w fun e w' => e = .returned (.bool (k != stop)) ∧ ∃ v', St W0 w' gb v' (L ++ [⟨k, t, F⟩]) ∧ Grow2 gb w v w' v' := by
  obtain ⟨i0, hi, hz0, hz1, hz2⟩ := info_parts info26'
  obtain ⟨vo, vc, hv⟩ := hs.r.form
  subst hv
  have b0 : Below w.heap.size w (w.alloc (.cells #[.int .i64 k, .int .i64 t, .slice ao F.els.length cap] 26)) := (Below.refl _ _).alloc (Nat.le_refl _) _
  have z0 := blk_new w (.cells #[.int .i64 k, .int .i64 t, .slice ao F.els.length cap] 26)
  have g0 : w.heap.size < (w.alloc (.cells #[.int .i64 k, .int .i64 t, .slice ao F.els.length cap] 26)).heap.size := by simp
  have hs1 := hs.below b0
  have cg : (w.alloc (.cells #[.int .i64 k, .int .i64 t, .slice ao F.els.length cap] 26)).cell? ⟨gb, 0, none⟩ = some (.slice vo L.length vc) := blk_cell hs1.h 0
  have cs0 : (w.alloc (.cells #[.int .i64 k, .int .i64 t, .slice ao F.els.length cap] 26)).cell? ⟨sb, 0, none⟩ = some (.int .i64 stop) := blk_cell ((b0.block _ (Array.getElem?_eq_some_iff.1 hsb).1).trans hsb) 0
  obtain ⟨x0, x1, x2⟩ := tri_cells z0
  have lg := World.block_lt_of_cell? _ _ cg
  have HVL := Lib.hid (fun g hg => (hs.r.lt g hg).1); have HZS := Lib.hid ((b0.block _ (Array.getElem?_eq_some_iff.1 hsb).1).trans hsb)
  have HS1 := Lib.hid hs1; have B0 := Lib.hid b0; have HB0 := Lib.hid hB0; have HK := Lib.hid hk; have HSB := Lib.hid hsb; have Z0 := Lib.hid z0
  have Hi := Lib.hid hi; have Hz0 := Lib.hid hz0; have Hz1 := Lib.hid hz1; have Hz2 := Lib.hid hz2
  clear hi hz0 hz1 hz2
  clear hs hs1 hB0 hk b0 hsb z0
  unfold nodeV
  go_enter Try.func17, Try.ntmps17
  go_wp2
  generalize hw1 : w.alloc (.cells #[.int .i64 k, .int .i64 t, .slice ao F.els.length cap] 26) = w1 at *
  clear hw1
  obtain ⟨cs, hcs, ho, hkk⟩ := HS1.out.r
  have hlen : cs.length = L.length := by rw [← hcs]; simp
  have HO := Lib.hid (fun (W : World) (hb : Below w1.heap.size w1 W) => owns_keep ho (fun g hg => hb.block g (own_block_lt ho g hg).1))
  rw [hlen] at HO
  have s01 : W0.heap.size ≤ w1.heap.size := by have := HB0.out.size; omega
  have lb0 : w.heap.size < w1.heap.size := g0
  have lsb : sb < w1.heap.size := World.block_lt_of_cell? _ _ cs0
  have hnb : (Value.slice vo L.length vc).ownBlock ≠ some w.heap.size := fun e => by have := HVL.out _ e; omega
  have hnsb : (Value.slice vo L.length vc).ownBlock ≠ some sb := fun e => by
    rcases ho.2 with ⟨h0, _⟩ | ⟨g', cap', cur, hv, _, q2, _⟩
    · rw [h0] at e; cases e
    · rw [hv] at e
      cases e
      rw [HZS.out] at q2
      injection q2 with q2
      injection q2 with _ q2
      exact absurd q2 (by decide)
  have hbg : w.heap.size ≠ gb := fun e => by
    have h1 := HS1.out.h
    rw [← e, Z0.out] at h1
    injection h1 with h1
    injection h1 with _ h1
    exact absurd h1 (by decide)
  have hsg : sb ≠ gb := fun e => by
    have h1 := HS1.out.h
    rw [← e, HZS.out] at h1
    injection h1 with h1
    injection h1 with _ h1
    exact absurd h1 (by decide)
  have HCS := Lib.hid hcs; have HKK := Lib.hid hkk
  clear ho hcs hkk
  have hidx : (L.length : Int) < (L.length : Int) + 1 := by omega
  go_region_law (refine step_append_lies _ rfl (.tmp 5) (.tmp 8) 24 rfl W0.heap.size 26 i0 (.agg #[.int .i64 0, .int .i64 0, .slice none 0 0]) 3 40 Try.underlying24 Hi.out Hz0.out Hz1.out Hz2.out rfl (by decide) (.slice vo L.length vc) L.length (cellsN cs) rfl (HO.out _ (by go_grown)) ⟨w1.heap.size, 0, none⟩ 1 1 zeroN rfl rfl (fun j u hj => by rw [← hj]; simp [add_at, zeroN]) (by simp [Value.oneCell', zeroN]) (by decide) (by unfold maxLen; omega) (by omega) (by simp; omega) _ rfl ?_; intro g c5 w5 ho5 hg5 hat5 hlt5; obtain ⟨⟨y0, y1, y2⟩, ff, hgg, hoth, hc1, hc2⟩ := app_facts HS1.out (by go_grown) hlen ho5 hg5 hat5; have cgb := blk_cell ((hoth gb lg HS1.out.ne).1.trans HS1.out.h) 0; have fgb := blk_free ((hoth gb lg HS1.out.ne).1.trans HS1.out.h) 0; obtain ⟨z0, z1, z2⟩ := tri_cells ((hoth _ lb0 hnb).1.trans Z0.out); have zs := blk_cell ((hoth _ lsb hnsb).1.trans HZS.out) 0; have hgb' : gb ≠ g := Ne.symm hgg; have hbg' := (hoth _ lb0 hnb).2; have hsg' := (hoth _ lsb hnsb).2; have HD := Lib.hid (app_done ⟨⟨k, t, F⟩, ao, cap⟩ HS1.out (by go_grown) HCS.out HKK.out HK.out ho5 hg5 hat5); have HQ := Lib.hid (setCell_four w5 gb g (L.length * 3) (L.length * 3 + 1) (L.length * 3 + 2) (.slice (some ⟨g, 0, none⟩) (L.length + 1) c5) (.int .i64 k) (.int .i64 t) (.slice ao F.els.length cap) hgb'); clear ho5 hg5 hat5 hoth)
  all_goals (try rw [HQ.out])
  all_goals go_wp2
  all_goals go_ret
  all_goals exact ⟨rfl, _, HD.out.1, (Grow2.of_below _ B0.out).trans HD.out.2⟩
end Go.Proofs.Ytknhignklepgeaa
