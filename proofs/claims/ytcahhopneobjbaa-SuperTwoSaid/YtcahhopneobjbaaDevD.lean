/- The device behind a crash. -/
import Derived.Test.YtcahhopneobjbaaDevC
import Derived.Deep.WholeRow
namespace Go.Proofs.Ytcahhopneobjbaa
open Go.RowKit

/-- What a slice of truth values holds. -/
def RdB (w : World) (ao : Option Addr) (ks : List Bool) : Prop :=
  ∀ i (h : i < ks.length), ∃ a, ao = some a ∧ w.cell? (a.add i) = some (.bool ks[i])
theorem RdB.below {w w' : World} {ao : Option Addr} {ks : List Bool} (h : RdB w ao ks) (hb : Below w.heap.size w w') : RdB w' ao ks := by
  intro i hi
  obtain ⟨a, ha, hc⟩ := h i hi
  exact ⟨a, ha, by rw [hb.cell (World.block_lt_of_cell? _ _ hc)]; exact hc⟩
theorem RdB.nil {w : World} {ao : Option Addr} : RdB w ao [] := fun _ h => absurd h (by simp)

def ld62 (p : Value) : Sem Value := Instr.loadAt 62 p
def st62 (p v : Value) : Sem Unit := Instr.storeAt 62 p v
def al62 : Sem Value := Instr.alloc 62 true (.tuple #[])
def al60 : Sem Value := Instr.alloc 60 true (.tuple #[])
def bd62 (ps : Array (Nat × Value)) : Sem Value := Instr.build 62 ps
theorem ld62_is (p : Value) : Instr.loadAt 62 p = ld62 p := rfl
theorem st62_is (p v : Value) : Instr.storeAt 62 p v = st62 p v := rfl
theorem al62_is : Instr.alloc 62 true (.tuple #[]) = al62 := rfl
theorem al60_is : Instr.alloc 60 true (.tuple #[]) = al60 := rfl
theorem bd62_is (ps : Array (Nat × Value)) : Instr.build 62 ps = bd62 ps := rfl

def zc64 : Array Value := Array.replicate 64 (.int .u8 0)
theorem Try.info60 : (Try.prog.info? 60).map (fun i => (i.zero, i.size)) = some (some (.agg zc64), 64) := by kernel_rfl
theorem run_al60 (w : World) : al60.run Try.prog w = .ok (.pointer (some ⟨w.heap.size, 0, none⟩)) (w.alloc (.cells zc64 60)) := by
  obtain ⟨h1, h2⟩ := zero_of_info (P := Try.prog) Try.info60
  unfold al60
  simp [Instr.alloc, Sem.run_bind, h1, newVar, newRow, Value.cells]
theorem Try.info62' : (Try.prog.info? 62).map (fun i => (i.zero, i.size)) = some (some z129, 129) := by kernel_rfl
theorem run_al62 (w : World) : al62.run Try.prog w = .ok (.pointer (some ⟨w.heap.size, 0, none⟩)) (w.alloc (.cells zc129 62)) := by
  obtain ⟨h1, h2⟩ := zero_of_info (P := Try.prog) Try.info62'
  unfold al62
  simp [Instr.alloc, Sem.run_bind, h1, newVar, newRow, Value.cells, z129]

def secArr (s : Sec) : Array Value := ((List.range 129).map (secCell s)).toArray
theorem secArr_size (s : Sec) : (secArr s).size = 129 := by simp [secArr]
theorem secArr_at (s : Sec) (j : Nat) (h : j < 129) : (secArr s)[j]? = some (secCell s j) := by simp [secArr, h]
theorem secArr_one (s : Sec) : (secArr s).all (·.oneCell') = true := by
  refine Array.all_eq_true_iff_forall_mem.2 (fun v hv => ?_)
  simp only [secArr, List.mem_toArray, List.mem_map] at hv
  obtain ⟨j, _, rfl⟩ := hv
  unfold secCell
  split
  · rfl
  · split <;> rfl
theorem fold_setRange (off : Nat) : ∀ (vs : List Value) (k : Nat) (C : Array Value), (vs.zipIdx k).foldl (fun cs (p : Value × Nat) => cs.setIfInBounds (off + p.2) p.1) C = setRange C (off + k) vs
  | [], _, _ => rfl
  | v :: r, k, C => by
    rw [List.zipIdx_cons, List.foldl_cons, fold_setRange off r (k + 1)]
    rfl
theorem built62 : (fun parts => Try.prog.built 62 parts) = fun parts => Instr.fill (fun i => (#[(0, 64), (64, 64), (128, 1)] : Array (Nat × Nat))[i]?) zc129 parts := by kernel_rfl
theorem run_bd62 (w : World) (X Y : List Int) (hx : X.length = 64) (hy : Y.length = 64) :
    (bd62 #[(0, .agg (X.map (Value.int .u8)).toArray), (1, .agg (Y.map (Value.int .u8)).toArray)]).run Try.prog w = .ok (.agg (secArr ⟨X, Y, false⟩)) w := by
  refine run_build w 62 _ _ ?_
  have := congrFun built62 [(0, .agg (X.map (Value.int .u8)).toArray), (1, .agg (Y.map (Value.int .u8)).toArray)]
  refine this.trans ?_
  have hz : zc129.size = 129 := by simp [zc129]
  have e1 : ((X.map (Value.int .u8)).toArray.zipIdx.foldl (fun cs (p : Value × Nat) => cs.setIfInBounds (0 + p.2) p.1) zc129) = setRange zc129 0 (X.map (Value.int .u8)) := by
    have := fold_setRange 0 (X.map (Value.int .u8)) 0 zc129
    rw [← this]
    simp
  have e2 : ∀ C, ((Y.map (Value.int .u8)).toArray.zipIdx.foldl (fun cs (p : Value × Nat) => cs.setIfInBounds (64 + p.2) p.1) C) = setRange C 64 (Y.map (Value.int .u8)) := by
    intro C
    have := fold_setRange 64 (Y.map (Value.int .u8)) 0 C
    rw [← this]
    simp
  have p0 : (#[(0, 64), (64, 64), (128, 1)] : Array (Nat × Nat))[0]? = some (0, 64) := rfl
  have p1 : (#[(0, 64), (64, 64), (128, 1)] : Array (Nat × Nat))[1]? = some (64, 64) := rfl
  have sx : (X.map (Value.int .u8)).toArray.size = 64 := by simp [hx]
  have sy : (Y.map (Value.int .u8)).toArray.size = 64 := by simp [hy]
  simp only [Instr.fill, Value.cells, p0, p1, sx, sy, e1, e2, hz, setRange_size]
  rw [if_neg (by decide), if_neg (by decide)]
  congr 1
  apply Array.ext_getElem?
  intro j
  by_cases hj : j < 129
  · rw [secArr_at _ _ hj, setRange_at _ _ _ _ (by rw [setRange_size, hz]; exact hj), setRange_at _ _ _ _ (by rw [hz]; exact hj), zc_at j hj]
    by_cases h1 : j < 64
    · rw [if_neg (by simp; omega), if_pos (by simp; omega), secCell_at_now h1, List.getElem?_map, List.getElem?_eq_getElem (show j - 0 < X.length by omega)]
      have : j < X.length := by omega
      simp [this]
    · by_cases h2 : j < 128
      · rw [if_pos (by simp; omega), secCell_at_lasts (by omega) h2, List.getElem?_map, List.getElem?_eq_getElem (show j - 64 < Y.length by omega)]
        have : j - 64 < Y.length := by omega
        simp [this]
      · have : j = 128 := by omega
        subst this
        rw [if_neg (by simp; omega), if_neg (by simp; omega), secCell_at_loose, secCell_at_loose]
        rfl
  · rw [Array.getElem?_eq_none (by rw [setRange_size, setRange_size, hz]; omega), Array.getElem?_eq_none (by rw [secArr_size]; omega)]

/-- What lasts of a sector behind a crash. -/
def Dv.left (D : Dv) (ks : List Bool) (k : Nat) : List Int := if (D.sec k).loose && ks.getD (D.looseTo k).length false then (D.sec k).now else (D.sec k).lasts
def Dv.crash (D : Dv) (ks : List Bool) : Dv := ⟨D.n, fun k => ⟨D.left ks k, D.left ks k, false⟩, 0, false, 0, false⟩
def Dv.crashTo (D : Dv) (ks : List Bool) (m : Nat) : Dv := ⟨D.n, fun k => if k < m then ⟨D.left ks k, D.left ks k, false⟩ else zSec, 0, false, 0, false⟩

theorem DevAt.range_all {w : World} {b r : Nat} {D : Dv} (h : DevAt w b r D) {i : Nat} (hi : i < D.n) : w.rangeAt r (i * 129) ((List.range 129).map (secCell (D.sec i))) := by
  intro j v hv
  have hj : j < 129 := by
    rcases Nat.lt_or_ge j 129 with h | h
    · exact h
    · rw [List.getElem?_eq_none (by simp; exact h)] at hv; cases hv
  rw [h.cs hi hj, ← hv]
  simp [hj]
theorem DevAt.load_sec {w : World} {b r : Nat} {D : Dv} (h : DevAt w b r D) {i : Nat} (hi : i < D.n) : (ld62 (.pointer (some ⟨r, i * 129, none⟩))).run Try.prog w = .ok (.agg (secArr (D.sec i))) w :=
  run_loadAt_mid (P := Try.prog) w r (i * 129) 62 _ _ (h.range_all hi) Try.underlying62 rfl (by rw [List.length_map, List.length_range]; kernel_rfl)
theorem DevAt.setAll {w : World} {b r : Nat} {D : Dv} (h : DevAt w b r D) {i : Nat} (hi : i < D.n) (s : Sec) (hs : SecOk s) : DevAt (w.setCells r (i * 129) (secArr s).toList) b r (D.put i s) := by
  refine h.setSec hi 0 _ _ (by simp [secArr_size]) hs ?_
  intro j hj
  rw [if_pos (by simp [secArr_size]; omega), Nat.sub_zero, Array.getElem?_toList, secArr_at _ _ hj]
theorem DevAt.store_sec {w : World} {b r : Nat} {D : Dv} (h : DevAt w b r D) {i : Nat} (hi : i < D.n) (s : Sec) :
    (st62 (.pointer (some ⟨r, i * 129, none⟩)) (.agg (secArr s))).run Try.prog w = .ok () (w.setCells r (i * 129) (secArr s).toList) :=
  run_storeAt_mid (P := Try.prog) w r (i * 129) 62 _ (by rw [secArr_size]; exact h.there hi 0 129 (by omega)) (by rw [secArr_size]; kernel_rfl) (secArr_one s)

theorem Dv.crashTo_succ (D : Dv) (ks : List Bool) (k : Nat) : D.crashTo ks (k + 1) = (D.crashTo ks k).put k ⟨D.left ks k, D.left ks k, false⟩ := by
  unfold Dv.crashTo Dv.put
  simp only
  congr 1
  funext i
  by_cases h : i = k
  · subst h; simp
  · rw [if_neg h]
    by_cases h2 : i < k
    · rw [if_pos h2, if_pos (by omega)]
    · rw [if_neg h2, if_neg (by omega)]
/-- The end of a round. -/
theorem crash_tail {w WX : World} {cb cr k g : Nat} {D : Dv} {ks : List Bool} (X : List Int) (hk : k < D.n) (hd : DevAt WX cb cr (D.crashTo ks k)) (hX : X = D.left ks k) (hl : X.length = 64) (hb : Byt X) (hr : WX.rangeAt g 0 (X.map (Value.int .u8)))
    (hB : Below w.heap.size w WX) (hcr : w.heap.size ≤ cr) :
    (ld60 (.pointer (some ⟨g, 0, none⟩))).run Try.prog WX.drew = .ok (.agg (X.map (Value.int .u8)).toArray) WX.drew ∧
    (∀ w', (bd62 #[(0, .agg (X.map (Value.int .u8)).toArray), (1, .agg (X.map (Value.int .u8)).toArray)]).run Try.prog w' = .ok (.agg (secArr ⟨X, X, false⟩)) w') ∧
    (st62 (.pointer (some ⟨cr, k * 129, none⟩)) (.agg (secArr ⟨X, X, false⟩))).run Try.prog WX.drew = .ok () (WX.drew.setCells cr (k * 129) (secArr ⟨X, X, false⟩).toList) ∧
    DevAt (WX.drew.setCells cr (k * 129) (secArr ⟨X, X, false⟩).toList) cb cr (D.crashTo ks (k + 1)) ∧
    Below w.heap.size w (WX.drew.setCells cr (k * 129) (secArr ⟨X, X, false⟩).toList) := by
  refine ⟨run_loadAt_mid (P := Try.prog) WX.drew g 0 60 _ _ hr Try.underlying60 rfl (by rw [List.length_map, hl]; kernel_rfl), fun w' => run_bd62 w' X X hl hl, hd.drew.store_sec hk _, ?_, ?_⟩
  · rw [Dv.crashTo_succ, ← hX]
    exact hd.drew.setAll hk _ ⟨hl, hl, hb, hb⟩
  · exact But.step (bs := [cr]) hB (((But.refl _ _).drew).setCells (by simp) _ _) (by simp; exact hcr)

section
attribute [local go_sem ↓ high] ld60_is st60_is ld62_is st62_is al62_is al60_is bd62_is
theorem crash_any (w : World) (b r : Nat) (D : Dv) (ao : Option Addr) (n cap : Nat) (ks : List Bool) (hn : n = ks.length) (h : DevAt w b r D) (hk : RdB w ao ks) (hcap : ks.length ≤ 9223372036854775807) :
    Calls Try.prog 19 #[.pointer (some ⟨b, 0, none⟩), .slice ao n cap] w fun e w' => ∃ cb cr, e = .returned (.pointer (some ⟨cb, 0, none⟩)) ∧ DevAt w' cb cr (D.crash ks) ∧ w.heap.size ≤ cb ∧ w.heap.size ≤ cr ∧ Below w.heap.size w w' := by
  subst hn
  have c0 := h.c0
  have h2 := h.h2
  have hnew := new_is D.n w
  rw [clamp_in D.n h.h1 h.h2] at hnew
  have H := Lib.hid h; have Hk := Lib.hid hk; have Hnew := Lib.hid hnew
  clear h hk hnew
  go_enter Try.func19, Try.ntmps19
  go_wp2_with (with_reducible refine halt_call ?_)
  refine Halted.run (Hnew.out.mono ?_); rintro e w1 ⟨cb, cr, rfl, hd, hcb, hcr, hB⟩
  have c0' := (H.out.below hB).c0
  have Hd := Lib.hid hd; have HB := Lib.hid hB
  clear hd hB
  go_wp2
  go_loopw [6, 23] (fun jv i wx => ∃ k : Nat, k ≤ D.n ∧ i = .int .i64 k ∧ jv = .int .i64 (D.looseTo k).length ∧ DevAt wx cb cr (D.crashTo ks k) ∧ Below w.heap.size w wx) (fun _ i _ => D.n - (intOf i).toNat)
  case atStart => exact ⟨0, by omega, rfl, rfl, Hd.out, HB.out⟩
  case round =>
    clear c0 c0' Hd HB
    obtain ⟨k, hkn, rfl, rfl, hd, hB⟩ := hrel
    have hle := D.looseTo_le k
    by_cases hlt : k < D.n
    · have c0 := hd.c0
      have hdd := H.out.below hB
      have hl0 := hdd.load_sec hlt
      have ra60 := run_al60
      have ra62 := run_al62
      have ok := H.out.ok k hlt
      have hzs : zc129.size = 129 := by simp [zc129]
      have hst : (st62 (.pointer (some ⟨wr.heap.size, 0, none⟩)) (.agg (secArr (D.sec k)))).run Try.prog (wr.alloc (.cells zc129 62)) = .ok () (wr.alloc (.cells (secArr (D.sec k)) 62)) :=
        run_storeAt_new wr 62 _ _ (by rw [secArr_size]; kernel_rfl) (by rw [secArr_size, hzs]) (secArr_one _)
      generalize hA : secArr (D.sec k) = A at *
      have HA := Lib.hid hA; have Hd := Lib.hid hd; have HB := Lib.hid hB; have Hdd := Lib.hid hdd; have Ok := Lib.hid ok
      clear hA hd hB hdd hzs ok
      go_wp2_with (with_reducible refine halt_op 29 ?_)
      have hlt1 : wr.heap.size < (wr.alloc (.cells A 62)).heap.size := by simp
      have B1 := below_next HB.out (.cells A 62)
      have B1' : Below wr.heap.size wr (wr.alloc (.cells A 62)) := (Below.refl _ _).alloc (Nat.le_refl _) _
      have hA1 : ∀ j, j < 129 → (wr.alloc (.cells A 62)).cell? ⟨wr.heap.size, j, none⟩ = some (secCell (D.sec k) j) := by
        intro j hj
        have := cell_mark wr A 62 (0, 0) j
        rw [add_at] at this
        rw [this, ← HA.out, secArr_at _ _ hj]
      have hsz : (wr.alloc (.cells A 62)).heap.size = wr.heap.size + 1 := by simp
      have D1 := Hd.out.below B1'
      have DD1 := Hdd.out.below B1'
      clear ra62 hst hl0 B1' c0
      generalize wr.alloc (.cells A 62) = W1 at *
      generalize wr.heap.size = m at *
      have hr1 : W1.rangeAt m 64 ((D.sec k).lasts.map (Value.int .u8)) := by
        intro j v hv
        have hj : j < 64 := by
          rcases Nat.lt_or_ge j 64 with h | h
          · exact h
          · rw [List.getElem?_eq_none (by simp [Ok.out.l]; exact h)] at hv; cases hv
        have hj' : j < (D.sec k).lasts.length := by rw [Ok.out.l]; exact hj
        rw [hA1 _ (by omega), ← hv, secCell_at_lasts (by omega) (by omega), List.getElem?_map, List.getElem?_eq_getElem hj']
        simp [hj']
      have hr0 : W1.rangeAt m 0 ((D.sec k).now.map (Value.int .u8)) := by
        intro j v hv
        have hj : j < 64 := by
          rcases Nat.lt_or_ge j 64 with h | h
          · exact h
          · rw [List.getElem?_eq_none (by simp [Ok.out.n]; exact h)] at hv; cases hv
        have hj' : j < (D.sec k).now.length := by rw [Ok.out.n]; exact hj
        rw [hA1 _ (by omega), ← hv, secCell_at_now (by omega), List.getElem?_map, List.getElem?_eq_getElem hj']
        simp [hj']
      have hlo := hA1 128 (by omega)
      rw [secCell_at_loose] at hlo
      clear hA1 HA Hd Hdd
      have hl1 := run_loadAt_mid (P := Try.prog) W1 m 64 60 _ _ hr1 Try.underlying60 rfl (by rw [List.length_map, Ok.out.l]; kernel_rfl)
      rw [ld60_is] at hl1
      have hst1 : (st60 (.pointer (some ⟨W1.heap.size, 0, none⟩)) (.agg ((D.sec k).lasts.map (Value.int .u8)).toArray)).run Try.prog (W1.alloc (.cells zc64 60)) = .ok () (W1.alloc (.cells ((D.sec k).lasts.map (Value.int .u8)).toArray 60)) :=
        run_storeAt_new W1 60 _ _ (by simp only [List.size_toArray, List.length_map, Ok.out.l]; kernel_rfl) (by simp [zc64, Ok.out.l]) (all_oneCell_toArray (ints_oneCell _ _))
      generalize hL : ((D.sec k).lasts.map (Value.int .u8)).toArray = L at *
      have HL := Lib.hid hL; have Hr0 := Lib.hid hr0; have D1' := Lib.hid D1; have DD1' := Lib.hid DD1; have B1' := Lib.hid B1; have Hlo := Lib.hid hlo; have Hsz := Lib.hid hsz
      clear hL hr0 hr1 D1 DD1 B1 hlo hsz
      refine Halted.run ?_
      go_wp2_with (with_reducible refine halt_op 31 ?_)
      have B2 := below_next B1'.out (.cells L 60)
      have B12 : Below W1.heap.size W1 (W1.alloc (.cells L 60)) := (Below.refl _ _).alloc (Nat.le_refl _) _
      have D2 := D1'.out.below B12
      have K2 := Hk.out.below B2
      have lo2 : (W1.alloc (.cells L 60)).cell? ⟨m, 128, none⟩ = some (.bool (D.sec k).loose) := by rw [B12.cell (by show m < _; have := Hsz.out; omega)]; exact Hlo.out
      have now2 : (W1.alloc (.cells L 60)).rangeAt m 0 ((D.sec k).now.map (Value.int .u8)) := fun j v hv => by rw [B12.cell (by show m < _; have := Hsz.out; omega)]; exact Hr0.out j v hv
      have hg := blk_new W1 (.cells L 60)
      have g1 : ∀ x, x = cb ∨ x = cr → x < W1.heap.size := by
        rintro x (rfl | rfl)
        · exact D1'.out.lt_b
        · exact D1'.out.lt_r
      have g0 := B1'.out.size
      have hfz : ∀ j, (W1.alloc (.cells L 60)).frozen? ⟨W1.heap.size, j, none⟩ = false := fun j => blk_free hg j
      have lst2 : (W1.alloc (.cells L 60)).rangeAt W1.heap.size 0 ((D.sec k).lasts.map (Value.int .u8)) := by
        intro j v hv
        rw [Nat.zero_add, blk_cell hg j, ← HL.out]
        simpa using hv
      clear B12 hg hl1 hst1 D1' DD1' B1' Hlo Hr0 HL Hsz ra60
      generalize W1.alloc (.cells L 60) = W2 at *
      generalize W1.heap.size = g at *
      have okn := Ok.out.n; have okl := Ok.out.l
      have hcrn : (D.crashTo ks k).n = D.n := rfl
      have hnx : D.looseTo (k + 1) = if (D.sec k).loose then D.looseTo k ++ [(k : Int)] else D.looseTo k := rfl
      have Hnx := Lib.hid hnx
      have hleft : D.left ks k = if (D.sec k).loose && ks.getD (D.looseTo k).length false then (D.sec k).now else (D.sec k).lasts := rfl
      have c2 : W2.cell? ⟨cb, 0, none⟩ = some (.slice (some ⟨cr, 0, none⟩) D.n D.n) := D2.c0
      refine Halted.run ?_
      cases hz : (D.sec k).loose <;> rw [hz] at lo2 hleft hnx
      · have hleft : (D.sec k).lasts = D.left ks k := by rw [hleft]; rfl
        obtain ⟨q1, q2, q3, q4, q5⟩ := crash_tail (g := g) (D.sec k).lasts hlt D2 hleft okl Ok.out.bl lst2 B2 hcr
        have Q4 := Lib.hid q4; have Q5 := Lib.hid q5
        have Hn : Hid (D.looseTo (k + 1) = D.looseTo k) := Lib.hid hnx
        clear q4 q5 Hnx hnx hleft okn okl D2 K2 now2 lst2 B2 hcrn hz hfz Ok Hk
        generalize ((D.sec k).lasts.map (Value.int .u8)).toArray = XA at *
        generalize secArr ⟨(D.sec k).lasts, (D.sec k).lasts, false⟩ = XS at *
        generalize W2.drew.setCells cr (k * 129) XS.toList = WE at *
        go_wp2
        go_region
        all_goals go_wp2
        all_goals go_roundw
        all_goals first
          | exact ⟨k + 1, by omega, by go_num, by rw [Hn.out], Q4.out, Q5.out⟩
          | (simp [intOf]; omega)
      · have Hn : Hid ((D.looseTo (k + 1)).length = (D.looseTo k).length + 1) := Lib.hid (by rw [hnx]; simp)
        clear Hnx hnx
        by_cases hj : (D.looseTo k).length < ks.length
        · have hget : ks.getD (D.looseTo k).length false = ks[(D.looseTo k).length] := by simp [hj]
          obtain ⟨ka, rfl, hka⟩ := K2 _ hj
          cases hkk : ks[(D.looseTo k).length] <;> rw [hkk] at hka hget <;> rw [hget] at hleft
          · have hleft : (D.sec k).lasts = D.left ks k := by rw [hleft]; rfl
            obtain ⟨q1, q2, q3, q4, q5⟩ := crash_tail (g := g) (D.sec k).lasts hlt D2 hleft okl Ok.out.bl lst2 B2 hcr
            have Q4 := Lib.hid q4; have Q5 := Lib.hid q5
            clear q4 q5 hleft okn okl D2 K2 now2 lst2 B2 hcrn hz hfz Ok Hk hget hkk
            generalize ((D.sec k).lasts.map (Value.int .u8)).toArray = XA at *
            generalize secArr ⟨(D.sec k).lasts, (D.sec k).lasts, false⟩ = XS at *
            generalize W2.drew.setCells cr (k * 129) XS.toList = WE at *
            go_wp2
            go_region
            all_goals go_wp2
            all_goals go_roundw
            all_goals first
              | exact ⟨k + 1, by omega, by go_num, by rw [Hn.out]; go_num, Q4.out, Q5.out⟩
              | (simp [intOf]; omega)
          · have hleft : (D.sec k).now = D.left ks k := by rw [hleft]; rfl
            have hl3 := run_loadAt_mid (P := Try.prog) W2 m 0 60 _ _ now2 Try.underlying60 rfl (by rw [List.length_map, okn]; kernel_rfl)
            have th : W2.there g 0 64 := fun j hj => ⟨by rw [lst2 j (.int .u8 ((D.sec k).lasts[j]'(by rw [okl]; exact hj))) (by simp [okl, hj])]; rfl, by rw [Nat.zero_add]; exact hfz j⟩
            have hst3 := run_storeAt_mid (P := Try.prog) W2 g 0 60 ((D.sec k).now.map (Value.int .u8)).toArray (by simp only [List.size_toArray, List.length_map, okn]; exact th) (by simp only [List.size_toArray, List.length_map, okn]; kernel_rfl) (all_oneCell_toArray (ints_oneCell _ _))
            rw [ld60_is] at hl3
            rw [st60_is] at hst3
            simp only at hst3
            have r3 := World.rangeAt_setCells_same W2 g 0 ((D.sec k).now.map (Value.int .u8)) (by rw [List.length_map, okn]; exact th)
            have b3 : But [g] W2 (W2.setCells g 0 ((D.sec k).now.map (Value.int .u8))) := (But.refl _ _).setCells (by simp) _ _
            have D3 := D2.but b3 (by simp; have := g1 cb (.inl rfl); omega) (by simp; have := g1 cr (.inr rfl); omega)
            have B3 := But.step B2 b3 (by simp; exact g0)
            have c3 : (W2.setCells g 0 ((D.sec k).now.map (Value.int .u8))).cell? ⟨cb, 0, none⟩ = some (.slice (some ⟨cr, 0, none⟩) D.n D.n) := D3.c0
            generalize W2.setCells g 0 ((D.sec k).now.map (Value.int .u8)) = W3 at *
            obtain ⟨q1, q2, q3, q4, q5⟩ := crash_tail (g := g) (D.sec k).now hlt D3 hleft okn Ok.out.bn r3 B3 hcr
            have Q4 := Lib.hid q4; have Q5 := Lib.hid q5
            clear q4 q5 hleft okn okl D2 K2 now2 lst2 B2 hcrn hz hfz Ok Hk hget hkk th r3 b3 D3 B3
            generalize ((D.sec k).now.map (Value.int .u8)).toArray = XA at *
            generalize secArr ⟨(D.sec k).now, (D.sec k).now, false⟩ = XS at *
            generalize W3.drew.setCells cr (k * 129) XS.toList = WE at *
            go_wp2
            go_region
            all_goals go_wp2
            all_goals go_roundw
            all_goals first
              | exact ⟨k + 1, by omega, by go_num, by rw [Hn.out]; go_num, Q4.out, Q5.out⟩
              | (simp [intOf]; omega)
        · have hget : ks.getD (D.looseTo k).length false = false := by rw [List.getD_eq_getElem?_getD, List.getElem?_eq_none (by omega)]; rfl
          rw [hget] at hleft
          have hleft : (D.sec k).lasts = D.left ks k := by rw [hleft]; rfl
          obtain ⟨q1, q2, q3, q4, q5⟩ := crash_tail (g := g) (D.sec k).lasts hlt D2 hleft okl Ok.out.bl lst2 B2 hcr
          have Q4 := Lib.hid q4; have Q5 := Lib.hid q5
          clear q4 q5 hleft okn okl D2 K2 now2 lst2 B2 hcrn hz hfz Ok Hk hget 
          generalize ((D.sec k).lasts.map (Value.int .u8)).toArray = XA at *
          generalize secArr ⟨(D.sec k).lasts, (D.sec k).lasts, false⟩ = XS at *
          generalize W2.drew.setCells cr (k * 129) XS.toList = WE at *
          go_wp2
          go_region
          all_goals go_wp2
          all_goals go_roundw
          all_goals first
            | exact ⟨k + 1, by omega, by go_num, by rw [Hn.out]; go_num, Q4.out, Q5.out⟩
            | (simp [intOf]; omega)
    · have hkn : k = D.n := by omega
      have Hd := Lib.hid hd; have HB := Lib.hid hB
      clear hd hB
      go_wp2
      go_ret
      refine ⟨cb, cr, rfl, ?_, hcb, hcr, HB.out⟩
      have := Hd.out
      rw [hkn] at this
      obtain ⟨q1, q2, q3, q4, q5⟩ := this
      refine ⟨q1, ?_, ?_, q4, q5⟩
      · obtain ⟨C, e1, e2, e3⟩ := q2
        refine ⟨C, e1, e2, fun i j hi hj => ?_⟩
        rw [e3 i j hi hj]
        show some (secCell (if i < D.n then _ else _) j) = _
        rw [if_pos (show i < D.n from hi)]
        rfl
      · intro i hi
        have := q3 i hi
        have e : (D.crashTo ks D.n).sec i = (D.crash ks).sec i := by
          show (if i < D.n then _ else _) = _
          rw [if_pos (show i < D.n from hi)]
          rfl
        rw [← e]; exact this
end
end Go.Proofs.Ytcahhopneobjbaa
