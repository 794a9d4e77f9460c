/- A text on a device: what lies in a sector, what a Super holds, write. -/
import Derived.Test.YtcahhopneobjbaaPut
import Derived.Test.YtcahhopneobjbaaDevE
import Derived.Deep.RegionHeld3
namespace Go.Proofs.Ytcahhopneobjbaa
open Go.RowKit CrcM

def tailOf (n : Int) (ys : List Int) : List Int := be 8 n ++ ((ys.length : Int) :: (ys ++ List.replicate (51 - ys.length) 0))
def image (n : Int) (ys : List Int) : List Int := be 4 (V (sum (tailOf n ys))) ++ tailOf n ys
theorem tailOf_length (n : Int) (ys : List Int) (h : ys.length ≤ 51) : (tailOf n ys).length = 60 := by simp [tailOf, be_length]; omega
theorem image_length (n : Int) (ys : List Int) (h : ys.length ≤ 51) : (image n ys).length = 64 := by simp [image, be_length, tailOf_length n ys h]
theorem tailOf_byt (n : Int) (ys : List Int) (h : ys.length ≤ 51) (hb : Byt ys) : Byt (tailOf n ys) := by
  refine (be_byt 8 n).append (fun x hx => ?_)
  rcases List.mem_cons.1 hx with rfl | hx
  · omega
  · exact (hb.append (fun y hy => by have := (List.mem_replicate.1 hy).2; omega)) x hx
theorem image_byt (n : Int) (ys : List Int) (h : ys.length ≤ 51) (hb : Byt ys) : Byt (image n ys) := (be_byt 4 _).append (tailOf_byt n ys h hb)
theorem XAt.setCells {w : World} {g : Nat} {xs : List Int} (h : XAt w g xs) (o : Nat) (ys : List Int) (ho : o + ys.length ≤ xs.length) : XAt (w.setCells g o (ys.map (Value.int .u8))) g (putIn xs o ys.length ys) := by
  unfold XAt
  rw [heap_setCells g 5 (0, 0) _ o w _ h]
  congr 2
  apply Array.ext_getElem?
  intro i
  by_cases hi : i < xs.length
  · rw [setRange_at _ _ _ _ (by simpa using hi)]
    unfold putIn
    by_cases h1 : o ≤ i ∧ i < o + ys.length
    · rw [if_pos (by simpa using h1)]
      simp only [List.getElem?_toArray, List.getElem?_map]
      rw [List.append_assoc, List.getElem?_append_right (by simp; omega), List.getElem?_append_left (by simp; omega)]
      congr 2
      simp; omega
    · rw [if_neg (by simpa using h1)]
      simp only [List.getElem?_toArray, List.getElem?_map]
      congr 1
      by_cases h2 : i < o
      · rw [List.append_assoc, List.getElem?_append_left (by simp; omega), List.getElem?_take_of_lt h2]
      · rw [List.getElem?_append_right (by simp; omega), List.getElem?_drop]
        congr 1
        simp; omega
  · rw [Array.getElem?_eq_none (by rw [setRange_size]; simp; omega), Array.getElem?_eq_none (by simp [putIn]; omega)]
theorem XAt.drew {w : World} {g : Nat} {xs : List Int} (h : XAt w g xs) : XAt w.drew g xs := h.below (Below.refl _ _).drew
theorem x4_is (n : Int) (ys : List Int) (h : ys.length ≤ 51) :
    putIn ((putIn (List.replicate 64 (0 : Int)) 4 8 (be 8 n)).set 12 (ys.length : Int)) 13 ys.length ys = List.replicate 4 0 ++ tailOf n ys := by
  unfold putIn tailOf
  have hb := be_length 8 n
  generalize be 8 n = B at *
  rw [List.take_replicate, List.drop_replicate]
  have e : ((List.replicate (min 4 64) (0 : Int) ++ B ++ List.replicate (64 - (4 + 8)) 0).set 12 (ys.length : Int)) = List.replicate 4 0 ++ B ++ ((ys.length : Int) :: List.replicate 51 0) := by
    rw [List.set_append_right _ _ (by simp; omega)]
    simp [hb]
  rw [e]
  have e1 : (List.replicate 4 (0 : Int) ++ B ++ ((ys.length : Int) :: List.replicate 51 0)) = (List.replicate 4 0 ++ B ++ [(ys.length : Int)]) ++ List.replicate 51 0 := by simp
  rw [e1, List.take_append_of_le_length (by simp; omega), List.take_of_length_le (by simp; omega), List.drop_append, List.drop_of_length_le (by simp; omega), List.drop_replicate]
  simp [hb]

theorem Rd.but' {k : IntKind} {w w' : World} {ao : Option Addr} {xs : List Int} {bs : List Nat} (h : Rd k w ao xs) (hb : But bs w w') (hn : ∀ a, ao = some a → xs ≠ [] → a.block ∉ bs) : Rd k w' ao xs := by
  cases xs with
  | nil => exact Rd.nil
  | cons x xs => exact h.but hb (fun a ha => hn a ha (by simp))
theorem Rd.lt {k : IntKind} {w : World} {ao : Option Addr} {xs : List Int} (h : Rd k w ao xs) (a : Addr) (ha : ao = some a) (hx : xs ≠ []) : a.block < w.heap.size := by
  cases xs with
  | nil => exact absurd rfl hx
  | cons x xs =>
    obtain ⟨a', ha', hc⟩ := h 0 (by simp)
    rw [ha] at ha'
    cases ha'
    have := World.block_lt_of_cell? _ _ hc
    rwa [show (a.add 0).block = a.block by unfold Addr.add; split <;> rfl] at this
/-- What a Super holds; its text lies in none of the blocks N. -/
structure SupAt (w : World) (s b : Nat) (N : List Nat) (pt slot turn : Int) (xs : List Int) : Prop where
  h : ∃ ao cap, w.heap[s]? = some (.cells #[.pointer (some ⟨b, 0, none⟩), .int .i64 pt, .int .i64 slot, .int .i64 turn, .slice ao xs.length cap] 58 (0, 0)) ∧ Rd .u8 w ao xs ∧ (ao = none → cap = 0) ∧ ∀ a, ao = some a → xs ≠ [] → a.block ∉ N
  l : xs.length ≤ 40
theorem SupAt.lt {w : World} {s b : Nat} {N : List Nat} {pt slot turn : Int} {xs : List Int} (h : SupAt w s b N pt slot turn xs) : s < w.heap.size := by
  obtain ⟨ao, cap, h1, _⟩ := h.h
  exact (Array.getElem?_eq_some_iff.1 h1).1
theorem SupAt.but {w w' : World} {s b : Nat} {N : List Nat} {pt slot turn : Int} {xs : List Int} {bs : List Nat} (h : SupAt w s b N pt slot turn xs) (hb : But bs w w') (hs : s ∉ bs) (hN : ∀ k, k ∈ bs → k ∈ N) : SupAt w' s b N pt slot turn xs := by
  obtain ⟨ao, cap, h1, h2, h3, h4⟩ := h.h
  exact ⟨⟨ao, cap, (hb.block s h.lt hs).trans h1, h2.but' hb (fun a ha hne hk => h4 a ha hne (hN _ hk)), h3, h4⟩, h.l⟩
theorem SupAt.below {w w' : World} {s b : Nat} {N : List Nat} {pt slot turn : Int} {xs : List Int} (h : SupAt w s b N pt slot turn xs) (hb : Below w.heap.size w w') : SupAt w' s b N pt slot turn xs :=
  h.but (But.of_below (bs := []) hb) (by simp) (by simp)
theorem SupAt.c0 {w : World} {s b : Nat} {N : List Nat} {pt slot turn : Int} {xs : List Int} (h : SupAt w s b N pt slot turn xs) : w.cell? ⟨s, 0, none⟩ = some (.pointer (some ⟨b, 0, none⟩)) := by obtain ⟨ao, cap, h1, _⟩ := h.h; exact blk_cell h1 0
theorem SupAt.c1 {w : World} {s b : Nat} {N : List Nat} {pt slot turn : Int} {xs : List Int} (h : SupAt w s b N pt slot turn xs) : w.cell? ⟨s, 1, none⟩ = some (.int .i64 pt) := by obtain ⟨ao, cap, h1, _⟩ := h.h; exact blk_cell h1 1
theorem SupAt.c2 {w : World} {s b : Nat} {N : List Nat} {pt slot turn : Int} {xs : List Int} (h : SupAt w s b N pt slot turn xs) : w.cell? ⟨s, 2, none⟩ = some (.int .i64 slot) := by obtain ⟨ao, cap, h1, _⟩ := h.h; exact blk_cell h1 2
theorem SupAt.c3 {w : World} {s b : Nat} {N : List Nat} {pt slot turn : Int} {xs : List Int} (h : SupAt w s b N pt slot turn xs) : w.cell? ⟨s, 3, none⟩ = some (.int .i64 turn) := by obtain ⟨ao, cap, h1, _⟩ := h.h; exact blk_cell h1 3
theorem SupAt.free {w : World} {s b : Nat} {N : List Nat} {pt slot turn : Int} {xs : List Int} (h : SupAt w s b N pt slot turn xs) (i : Nat) : w.frozen? ⟨s, i, none⟩ = false := by obtain ⟨ao, cap, h1, _⟩ := h.h; exact blk_free h1 i

theorem image_is (n : Int) (ys : List Int) (_h : ys.length ≤ 51) (H : List Int) (hH : H.length = 4) : putIn (H ++ tailOf n ys) 0 4 (be 4 (V (sum (tailOf n ys)))) = image n ys := by
  unfold putIn image
  rw [List.take_zero, List.nil_append, Nat.zero_add, List.drop_append, List.drop_of_length_le (by omega)]
  simp [hH]

/-- What write does. -/
def WrPost (w : World) (s b r : Nat) (N : List Nat) (pt slot turn : Int) (xs : List Int) (slot' n : Int) (ys : List Int) (D : Dv) (e : Ending) (w' : World) : Prop :=
  But [b, r, s] w w' ∧
  ((D.isDead = true ∧ e = .returned (.int .i64 10) ∧ DevAt w' b r D ∧ SupAt w' s b N pt slot turn xs) ∨
   (D.isDead = false ∧ (D.wr (pt + slot') (image n ys)).isDead = true ∧ e = .returned (.int .i64 10) ∧ DevAt w' b r (D.wr (pt + slot') (image n ys)) ∧ SupAt w' s b N pt slot turn xs) ∨
   (D.isDead = false ∧ (D.wr (pt + slot') (image n ys)).isDead = false ∧ e = .returned (.int .i64 0) ∧ DevAt w' b r (D.wr (pt + slot') (image n ys)).fl ∧ SupAt w' s b N pt slot' n ys))

set_option maxHeartbeats 1000000 in
theorem write_sup (w : World) (s b r : Nat) (N : List Nat) (pt slot turn : Int) (xs : List Int) (slot' n : Int) (ao : Option Addr) (m cap : Nat) (ys : List Int) (D : Dv)
    (hs : SupAt w s b N pt slot turn xs) (hd : DevAt w b r D) (hf : Fit D) (hc : D.calls < 900000) (hN : ∀ k, k ∈ [b, r, s] → k ∈ N) (hlt : ∀ k, k ∈ N → k < w.heap.size)
    (hp0 : 0 ≤ pt) (hp1 : pt + 1 < D.n) (hs0 : 0 ≤ slot') (hs1 : slot' ≤ 1) (hn0 : 0 ≤ n) (hn1 : n < 1000000)
    (hm : m = ys.length) (h40 : ys.length ≤ 40) (hrd : Rd .u8 w ao ys) (hby : Byt ys) (hao : ∀ a, ao = some a → ys ≠ [] → a.block ∉ N) (hcn : ao = none → cap = 0) (hmc : m ≤ cap) :
    Calls Try.prog 31 #[.pointer (some ⟨s, 0, none⟩), .int .i64 slot', .int .i64 n, .slice ao m cap] w (WrPost w s b r N pt slot turn xs slot' n ys D) := by
  subst hm
  obtain ⟨i0, hi, hz0, hz1, hz2⟩ := info_parts Try.info5
  have hmk := run_make (P := Try.prog) w 22 5 i0 (.int .u8 0) Try.underlying22 hi hz0 .i64 .i64 64 64 (by omega) (by omega) (by rw [hz2]; omega) (by omega)
  rw [hz1] at hmk
  have hz : madeCells (Value.int .u8 0).cells ((64 : Int).toNat * 1) = ((List.replicate 64 (0 : Int)).map (Value.int .u8)).toArray := by kernel_rfl
  rw [hz] at hmk
  have hx1 : XAt (w.alloc (.cells ((List.replicate 64 (0 : Int)).map (Value.int .u8)).toArray 5)) w.heap.size (List.replicate 64 0) := blk_new _ _
  have hB1 : Below w.heap.size w (w.alloc (.cells ((List.replicate 64 (0 : Int)).map (Value.int .u8)).toArray 5)) := (Below.refl _ _).alloc (Nat.le_refl _) _
  generalize w.alloc (.cells ((List.replicate 64 (0 : Int)).map (Value.int .u8)).toArray 5) = w1 at *
  have Hx1 := Lib.hid hx1; have HB1 := Lib.hid hB1; have Hs := Lib.hid hs; have Hd := Lib.hid hd; have Hf := Lib.hid hf; have Hc := Lib.hid hc; have HN := Lib.hid hN; have Hlt := Lib.hid hlt
  have Hrd := Lib.hid hrd; have Hby := Lib.hid hby; have Hao := Lib.hid hao; have Hcn := Lib.hid hcn
  clear hx1 hB1 hs hd hf hc hN hlt hrd hby hao hcn hi hz0 hz1 hz2 hz
  go_enter Try.func31, Try.ntmps31
  go_wp2_with (with_reducible refine halt_call ?_)
  have hput := put_any w1 w.heap.size 4 8 60 _ n Hx1.out (by omega) (by simp) hn0 (by omega)
  refine Halted.run (hput.mono ?_); rintro e w2 ⟨rfl, hx2, hb2⟩
  have hB2 := But.step HB1.out hb2 (by simp)
  have hl2 : (putIn (List.replicate 64 (0 : Int)) 4 8 (be 8 n)).length = 64 := by simp [putIn, be_length]
  have c12 := hx2.cell 12 (by rw [hl2]; omega)
  have f12 := hx2.free 12
  have hx3 := hx2.set 12 (ys.length : Int)
  have hB3 := But.step hB2 ((But.refl [w.heap.size] w2).setCell (a := ⟨w.heap.size, 12, none⟩) (by simp) (.int .u8 ys.length)) (by simp)
  have Hx3 := Lib.hid hx3; have HB3 := Lib.hid hB3
  clear hput hx2 hb2 hB2 hx3 hB3 Hx1 HB1 hmk
  generalize (putIn (List.replicate 64 (0 : Int)) 4 8 (be 8 n))[12] = z12 at c12
  go_wp2_with (with_reducible refine halt_op 26 ?_)
  have hrd3 := Hrd.out.below HB3.out
  generalize w2.setCell ⟨w.heap.size, 12, none⟩ (.int .u8 ys.length) = w3 at *
  have hl3 : ((putIn (List.replicate 64 (0 : Int)) 4 8 (be 8 n)).set 12 (ys.length : Int)).length = 64 := by rw [List.length_set]; exact hl2
  have hcp : ∃ q : Int, (Builtin.copy_ #[22, 22] 3 #[.slice (some ⟨w.heap.size, 13, none⟩) 51 51, .slice ao ys.length cap]).run Try.prog w3 = .ok (.int .i64 q) (w3.setCells w.heap.size 13 (ys.map (Value.int .u8))) := by
    cases ao with
    | none =>
      have : ys = [] := by
        cases ys with
        | nil => rfl
        | cons y ys => obtain ⟨_, h, _⟩ := hrd3 0 (by simp); cases h
      subst this
      exact ⟨_, run_copy_none w3 22 22 3 5 _ _ _ _ _ _ (by kernel_rfl) (by kernel_rfl) (by simp)⟩
    | some ad =>
      refine ⟨_, run_copy_cells w3 22 22 3 5 w.heap.size 13 51 51 ad ys.length cap (ys.map (Value.int .u8)) (by kernel_rfl) (by kernel_rfl) ?_ ?_ ?_ ?_ ?_⟩
      · rw [List.length_map]; exact (Nat.min_eq_left (by omega)).symm
      · intro k v hv
        rw [List.getElem?_map] at hv
        have hk : k < ys.length := by
          rcases Nat.lt_or_ge k ys.length with h | h
          · exact h
          · simp [List.getElem?_eq_none h] at hv
        obtain ⟨a', ha', hc'⟩ := hrd3 k hk
        cases ha'
        rw [hc']
        simpa [List.getElem?_eq_getElem hk] using hv
      · intro k hk
        simp at hk
        rw [Hx3.out.cell (13 + k) (by rw [hl3]; omega)]; rfl
      · intro k hk; exact Hx3.out.free _
      · exact ints_oneCell _ _
  obtain ⟨q, hcp⟩ := hcp
  have hx4 := Hx3.out.setCells 13 ys (by rw [hl3]; omega)
  rw [x4_is n ys (by omega)] at hx4
  have hB4 := But.step HB3.out ((But.refl [w.heap.size] w3).setCells (b := w.heap.size) (by simp) 13 (ys.map (Value.int .u8))) (by simp)
  have Hx4 := Lib.hid hx4; have HB4 := Lib.hid hB4
  clear hrd3 hl3 Hx3 HB3 hx4 hB4 hl2 f12 c12
  generalize w3.setCells w.heap.size 13 (ys.map (Value.int .u8)) = w4 at *
  refine Halted.run ?_
  have tl := tailOf_length n ys (by omega)
  have hsum : ∀ W, XAt W w.heap.size (List.replicate 4 0 ++ tailOf n ys) → Calls Try.prog 33 #[.slice (some ⟨w.heap.size, 4, none⟩) 60 60] W fun e w' => e = .returned (.int .u32 (V (sum (tailOf n ys)))) ∧ W = w' := by
    intro W hW
    have h := hW.rd 4 60
    rw [List.drop_append, List.drop_of_length_le (by simp), List.nil_append, List.length_replicate, Nat.sub_self, List.drop_zero, List.take_of_length_le (by omega)] at h
    exact sum_any _ _ 60 60 W tl.symm (by omega) (tailOf_byt n ys (by omega) Hby.out) h
  have hpu : ∀ W, XAt W w.heap.size (List.replicate 4 0 ++ tailOf n ys) → Calls Try.prog 37 #[.slice (some ⟨w.heap.size, 0, none⟩) 4 64, .int .u64 (V (sum (tailOf n ys)))] W fun e w' => e = .returned (.tuple #[]) ∧ XAt w' w.heap.size (image n ys) ∧ But [w.heap.size] W w' := by
    intro W hW
    have hb := V_bounds (sum (tailOf n ys))
    have h := put_any W w.heap.size 0 4 64 _ (V (sum (tailOf n ys))) hW (by omega) (by simp) hb.1 (by omega)
    rw [image_is n ys (by omega) (List.replicate 4 0) rfl] at h
    exact h
  have Hsum := Lib.hid hsum; have Hpu := Lib.hid hpu
  clear hsum hpu tl
  have hVw : IntKind.u64.wrap (V (sum (tailOf n ys))) = V (sum (tailOf n ys)) := by
    have := V_bounds (sum (tailOf n ys))
    rw [IntKind.wrap_u64]; omega
  generalize V (sum (tailOf n ys)) = cv at *
  go_wp2
  clear hcp
  go_region_held3 (fun _ => True) (trivial) (first | (go_at_call 33; with_reducible refine (Hsum.out _ ?_).mono ?_; with_reducible exact XAt.drew Hx4.out; rintro e w' ⟨rfl, rfl⟩) | (go_at_call 37; with_reducible refine (Hpu.out _ ?_).mono ?_; with_reducible exact XAt.drew Hx4.out; rintro e w5 ⟨rfl, hx5, hb5⟩))
  have hx5d := hx5.drew
  have hB5 := (But.step HB4.out.drew hb5 (by simp)).drew
  have hk5 := Hs.out.below hB5
  have hd5 := Hd.out.below hB5
  have hgl := HN.out
  have hsr : s ≠ b ∧ s ≠ r := by
    obtain ⟨ao', cap', q1, _⟩ := hk5.h
    constructor
    · rintro rfl
      have := hd5.hb
      rw [q1] at this
      injection this with this
      injection this with _ ht
      exact absurd ht (by decide)
    · rintro rfl
      obtain ⟨C, hC, _⟩ := hd5.hr
      rw [q1] at hC
      injection hC with hC
      injection hC with _ ht
      exact absurd ht (by decide)
  obtain ⟨hsb, hsr⟩ := hsr
  have il := image_length n ys (by omega)
  have hgb : w.heap.size ≠ b ∧ w.heap.size ≠ r := by
    have h1 := Hd.out.lt_b
    have h2 := Hd.out.lt_r
    omega
  have hw := write_any w5.drew b r D (pt + slot') (image n ys) (some ⟨w.heap.size, 0, none⟩) 64 64 il.symm hd5 Hf.out (by have := hx5d.rd 0 64; rw [List.drop_zero, List.take_of_length_le (by omega)] at this; exact this) (image_byt n ys (by omega) Hby.out) (by intro a ha; cases ha; simp; exact hgb) (by omega)
  have hat : D.atErr (pt + slot') = 0 := by unfold Dv.atErr; rw [if_pos (by omega)]
  have HNb : Hid (∀ k, k ∈ [b, r] → k ∈ N) := Lib.hid (fun k hk => HN.out k (by simp at hk ⊢; omega))
  have hpb := Hd.out.h2
  have hpw : IntKind.i64.wrap (pt + slot') = pt + slot' := by rw [IntKind.wrap_i64]; omega
  rw [il] at hw
  cases hdd : D.isDead
  · have he : D.wErr (pt + slot') 64 = 0 := by unfold Dv.wErr; rw [hdd, hat]; rfl
    rw [he] at hw
    have Hw := Lib.hid hw; have HB5 := Lib.hid hB5; have Hhd := Lib.hid hdd
    clear hw he hat hB5 hd5 hx5d hx5 hb5 il hgb Hx4 HB4 Hsum Hpu hVw hgl hdd
    have hD1f : Fit (D.wr (pt + slot') (image n ys)) := by
      unfold Dv.wr
      split
      · obtain ⟨f1, f2, f3, f4⟩ := Dv.burn_fit Hf.out (by have := Hc.out; omega) Hhd.out
        exact ⟨f1, f2, f3, f4⟩
      · exact Hf.out
    have HD1f := Lib.hid hD1f
    clear hD1f
    go_wp2
    go_region_held3 (fun W => W.cell? ⟨s, 0, none⟩ = some (.pointer (some ⟨b, 0, none⟩)) ∧ W.cell? ⟨s, 1, none⟩ = some (.int .i64 pt)) ((first | assumption | exact ⟨SupAt.c0 (by assumption), SupAt.c1 (by assumption)⟩)) (first | (go_at_call 24; with_reducible refine (Hw.out).mono ?_; rintro e w6 ⟨rfl, hd6, hb6⟩; have hk6 := hk5.but hb6 (by simp; omega) HNb.out))
    go_wp2_with (with_reducible refine halt_call ?_)
    have hfl := flush_any w6 b r _ hd6 HD1f.out
    unfold Dv.flErr at hfl
    have hb56 : But [b, r] w5.drew w6 := hb6
    cases hd1 : (D.wr (pt + slot') (image n ys)).isDead
    · rw [hd1] at hfl
      have Hfl := Lib.hid hfl; have Hd1 := Lib.hid hd1; have Hk6 := Lib.hid hk6; have Hb6 := Lib.hid hb6
      clear hfl hd1 hk6 hb6 hd6 hb56 hk5
      refine Halted.run (Hfl.out.mono ?_); rintro e w7 ⟨rfl, hd7, hb7⟩
      have hk7 := Hk6.out.but hb7 (by simp; omega) HNb.out
      have hrd7 := ((Hrd.out.below HB5.out).but' Hb6.out (fun a ha hy hk => Hao.out a ha hy (HNb.out _ hk))).but' hb7 (fun a ha hy hk => Hao.out a ha hy (HNb.out _ hk))
      have hcl := clone_any w7 ao ys.length cap ys rfl hrd7 Hcn.out (by omega)
      have Hcl := Lib.hid hcl; have Hb67 := Lib.hid (Hb6.out.trans hb7); have Hk7 := Lib.hid hk7; have Hd7 := Lib.hid hd7
      clear Hfl Hk6 Hb6 hd7 hb7 hk7 hrd7 hcl
      go_wp2_with (with_reducible refine halt_call ?_)
      refine Halted.run (Hcl.out.mono ?_); rintro e w8 ⟨v8, rfl, hs8, hb8⟩
      have hk8 := Hk7.out.below hb8
      have hd8 := Hd7.out.below hb8
      have c2 := hk8.c2; have c3 := hk8.c3
      obtain ⟨ao8, cap8, q8, _⟩ := hk8.h
      have c4 := blk_cell q8 4
      rw [show (#[.pointer (some ⟨b, 0, none⟩), .int .i64 pt, .int .i64 slot, .int .i64 turn, .slice ao8 xs.length cap8] : Array Value)[4]? = some (.slice ao8 xs.length cap8) from rfl] at c4
      have f2 := hk8.free 2; have f3 := hk8.free 3; have f4 := hk8.free 4
      have g1 := blk_set q8 2 (.int .i64 slot')
      have g2 := blk_set g1 3 (.int .i64 n)
      have g3 := blk_set g2 4 v8
      obtain ⟨ao9, cap9, rfl, r9, l9, l9b, n9, m9⟩ := hs8
      have hb9 : But [s] w8 (((w8.setCell ⟨s, 2, none⟩ (.int .i64 slot')).setCell ⟨s, 3, none⟩ (.int .i64 n)).setCell ⟨s, 4, none⟩ (.slice ao9 ys.length cap9)) := (((But.refl _ _).setCell (by simp) _).setCell (by simp) _).setCell (by simp) _
      have g7 := Hb67.out.size
      have g5 := HB5.out.size
      have hN9 : ∀ k, k ∈ N → k < w7.heap.size := fun k hk => by have := Hlt.out k hk; have : w5.drew.heap.size = w5.heap.size := rfl; omega
      have hsN := hN9 s (HN.out s (by simp))
      have hs9 : SupAt (((w8.setCell ⟨s, 2, none⟩ (.int .i64 slot')).setCell ⟨s, 3, none⟩ (.int .i64 n)).setCell ⟨s, 4, none⟩ (.slice ao9 ys.length cap9)) s b N pt slot' n ys :=
        ⟨⟨ao9, cap9, g3, r9.but hb9 (fun a ha hk => by have := m9 a ha; simp at hk; omega), n9, fun a ha _ hk => by have := m9 a ha; have := hN9 _ hk; omega⟩, h40⟩
      have hd9 := hd8.but hb9 (by simp; omega) (by simp; omega)
      have Hs9 := Lib.hid hs9; have Hd9 := Lib.hid hd9; have Hb9 := Lib.hid hb9; have Hb8 := Lib.hid hb8
      clear hk8 hd8 q8 g1 g2 g3 r9 l9 l9b n9 m9 hb9 hb8 Hcl Hk7 Hd7 hs9 hd9 hN9 hsN g7 g5
      go_wp2
      go_ret
      refine ⟨?_, .inr (.inr ⟨Hhd.out, Hd1.out, rfl, Hd9.out, Hs9.out⟩)⟩
      exact (((But.of_below HB5.out).trans (Hb67.out.mono (by intro k hk; simp at hk ⊢; omega))).trans (But.of_below Hb8.out)).trans (Hb9.out.mono (by intro k hk; simp at hk ⊢; omega))
    · have hflD : (D.wr (pt + slot') (image n ys)).fl = D.wr (pt + slot') (image n ys) := by unfold Dv.fl; rw [hd1]; rfl
      rw [hd1, hflD] at hfl
      have Hfl := Lib.hid hfl; have Hd1 := Lib.hid hd1; have Hk6 := Lib.hid hk6; have Hb6 := Lib.hid hb6
      clear hfl hd1 hk6 hb6 hd6 hb56 hk5 hflD
      refine Halted.run (Hfl.out.mono ?_); rintro e w7 ⟨rfl, hd7, hb7⟩
      have hk7 := Hk6.out.but hb7 (by simp; omega) HNb.out
      have Hd7 := Lib.hid hd7; have Hk7 := Lib.hid hk7; have Hb7 := Lib.hid hb7
      clear hd7 hk7 hb7 Hfl Hk6
      go_wp2
      go_ret
      exact ⟨(But.of_below HB5.out).trans ((Hb6.out.trans Hb7.out).mono (by intro k hk; simp at hk ⊢; omega)), .inr (.inl ⟨Hhd.out, Hd1.out, rfl, Hd7.out, Hk7.out⟩)⟩
  · have he : D.wErr (pt + slot') 64 = 10 := by unfold Dv.wErr; rw [hdd]; rfl
    have hwr : D.wr (pt + slot') (image n ys) = D := by unfold Dv.wr; rw [il, he]; rfl
    rw [he, hwr] at hw
    have Hw := Lib.hid hw; have HB5 := Lib.hid hB5; have Hhd := Lib.hid hdd
    clear hw he hwr hat hB5 hd5 hx5d hx5 hb5 il hgb Hx4 HB4 Hsum Hpu hVw hgl hdd
    go_wp2
    go_region_held3 (fun W => W.cell? ⟨s, 0, none⟩ = some (.pointer (some ⟨b, 0, none⟩)) ∧ W.cell? ⟨s, 1, none⟩ = some (.int .i64 pt)) ((first | assumption | exact ⟨SupAt.c0 (by assumption), SupAt.c1 (by assumption)⟩)) (first | (go_at_call 24; with_reducible refine (Hw.out).mono ?_; rintro e w6 ⟨rfl, hd6, hb6⟩; have hk6 := hk5.but hb6 (by simp; omega) HNb.out))
    go_wp2
    go_ret
    exact ⟨(But.of_below HB5.out).trans (hb6.mono (by intro k hk; simp at hk ⊢; omega)), .inl ⟨Hhd.out, rfl, hd6, hk6⟩⟩
end Go.Proofs.Ytcahhopneobjbaa
