/- Numbers in bytes: put, get. -/
import Derived.Test.YtcahhopneobjbaaSum
import Derived.Test.YtcahhopneobjbaaDev
namespace Go.Proofs.Ytcahhopneobjbaa
open Go.RowKit

/-- A block that is a row of bytes. -/
def XAt (w : World) (g : Nat) (xs : List Int) : Prop := w.heap[g]? = some (.cells (xs.map (Value.int .u8)).toArray 5 (0, 0))
theorem XAt.cell {w : World} {g : Nat} {xs : List Int} (h : XAt w g xs) (i : Nat) (hi : i < xs.length) : w.cell? ⟨g, i, none⟩ = some (.int .u8 xs[i]) := by
  rw [blk_cell h]; simp [hi]
theorem XAt.free {w : World} {g : Nat} {xs : List Int} (h : XAt w g xs) (i : Nat) : w.frozen? ⟨g, i, none⟩ = false := blk_free h i
theorem XAt.lt {w : World} {g : Nat} {xs : List Int} (h : XAt w g xs) : g < w.heap.size := (Array.getElem?_eq_some_iff.1 h).1
theorem XAt.set {w : World} {g : Nat} {xs : List Int} (h : XAt w g xs) (i : Nat) (u : Int) : XAt (w.setCell ⟨g, i, none⟩ (.int .u8 u)) g (xs.set i u) := by
  unfold XAt
  rw [blk_set h]
  congr 2
  apply Array.ext'
  simp [List.map_set]
theorem XAt.but {w w' : World} {g : Nat} {xs : List Int} {bs : List Nat} (h : XAt w g xs) (hb : But bs w w') (hn : g ∉ bs) : XAt w' g xs := (hb.block g h.lt hn).trans h
theorem XAt.below {w w' : World} {g : Nat} {xs : List Int} (h : XAt w g xs) (hb : Below w.heap.size w w') : XAt w' g xs := h.but (But.of_below (bs := []) hb) (by simp)
theorem XAt.rd {w : World} {g : Nat} {xs : List Int} (h : XAt w g xs) (o n : Nat) : Rd .u8 w (some ⟨g, o, none⟩) ((xs.drop o).take n) := by
  intro i hi
  refine ⟨_, rfl, ?_⟩
  have hi' : i < n ∧ o + i < xs.length := by simp at hi; omega
  rw [Addr.add_mid, h.cell (o + i) hi'.2]
  simp

/-- The k low bytes, the great end first. -/
def be : Nat → Int → List Int
  | 0, _ => []
  | k + 1, v => v / 256 ^ k % 256 :: be k v
theorem be_length : ∀ k v, (be k v).length = k
  | 0, _ => rfl
  | k + 1, v => by simp [be, be_length k v]
theorem be_byt : ∀ k v, Byt (be k v)
  | 0, _ => fun x hx => by cases hx
  | k + 1, v => fun x hx => by
    rcases List.mem_cons.1 hx with rfl | hx
    · omega
    · exact be_byt k v x hx
def gv (bs : List Int) : Int := bs.foldl (fun n c => n * 256 + c) 0
theorem gv_fold (k : Nat) (v a : Int) : (be k v).foldl (fun n c => n * 256 + c) a = a * 256 ^ k + v % 256 ^ k := by
  induction k generalizing a with
  | zero => simp [be]
  | succ k ih =>
    rw [be, List.foldl_cons, ih]
    have h1 : v % 256 ^ (k + 1) = (v / 256 ^ k % 256) * 256 ^ k + v % 256 ^ k := by
      rw [Int.pow_succ]
      have e1 := Int.mul_ediv_add_emod v (256 ^ k)
      have e2 := Int.mul_ediv_add_emod (v / 256 ^ k) 256
      have hp : (0 : Int) < 256 ^ k := Int.pow_pos (by decide)
      have e3 := Int.emod_nonneg v (by omega : (256 : Int) ^ k ≠ 0)
      have e4 := Int.emod_lt_of_pos v hp
      have e5 := Int.emod_nonneg (v / 256 ^ k) (by decide : (256 : Int) ≠ 0)
      have e6 := Int.emod_lt_of_pos (v / 256 ^ k) (by decide : (0 : Int) < 256)
      generalize v % 256 ^ k = r at *
      generalize v / 256 ^ k = q at *
      generalize q % 256 = r2 at *
      generalize q / 256 = q2 at *
      generalize (256 : Int) ^ k = p at *
      subst e2
      have : v = (r2 * p + r) + p * 256 * q2 := by rw [← e1, Int.mul_add, Int.mul_comm p r2, ← Int.mul_assoc p 256 q2]; omega
      rw [this, Int.add_mul_emod_self_left]
      refine Int.emod_eq_of_lt ?_ ?_
      · have := Int.mul_nonneg e5 (Int.le_of_lt hp); omega
      · have h7 : r2 * p ≤ 255 * p := Int.mul_le_mul_of_nonneg_right (by omega) (Int.le_of_lt hp)
        omega
    rw [h1, Int.pow_succ, Int.add_mul, Int.mul_assoc, Int.mul_comm 256 (256 ^ k)]
    omega
theorem gv_be (k : Nat) (v : Int) (h0 : 0 ≤ v) (h1 : v < 256 ^ k) : gv (be k v) = v := by
  unfold gv
  rw [gv_fold k v 0, Int.zero_mul, Int.zero_add]
  exact Int.emod_eq_of_lt h0 h1

/-- A row whose cells from o on, n in number, are others. -/
def putIn (xs : List Int) (o n : Nat) (ys : List Int) : List Int := xs.take o ++ ys ++ xs.drop (o + n)
theorem putIn_step (xs : List Int) (m : Nat) (R : List Int) (u : Int) (h : m < xs.length) : (xs.take (m + 1) ++ R).set m u = xs.take m ++ u :: R := by
  rw [List.take_succ_eq_append_getElem h, List.append_assoc, List.set_append_right _ _ (by simp; omega)]
  have : m - (xs.take m).length = 0 := by simp; omega
  rw [this]
  simp

set_option maxHeartbeats 1000000 in
theorem put_any (w : World) (g o n c : Nat) (xs : List Int) (v : Int) (hx : XAt w g xs) (hn : n ≤ 8) (ho : o + n ≤ xs.length) (h0 : 0 ≤ v) (h1 : v < 18446744073709551616) :
    Calls Try.prog 37 #[.slice (some ⟨g, o, none⟩) n c, .int .u64 v] w fun e w' => e = .returned (.tuple #[]) ∧ XAt w' g (putIn xs o n (be n v)) ∧ But [g] w w' := by
  have Hx := Lib.hid hx
  clear hx
  go_enter Try.func37, Try.ntmps37
  go_wp2
  go_loopw [7] (fun i wx => ∃ k : Nat, k ≤ n ∧ i = .int .i64 k ∧ XAt wx g (xs.take (o + n - k) ++ (be k v ++ xs.drop (o + n))) ∧ But [g] w wx) (fun i _ => n - (intOf i).toNat)
  case atStart => exact ⟨0, by omega, rfl, by simpa [be] using Hx.out, But.refl _ _⟩
  case round =>
    clear Hx
    obtain ⟨k, hkn, rfl, hx, hb⟩ := hrel
    by_cases hlt : k < n
    · have hlen : (xs.take (o + n - k) ++ (be k v ++ xs.drop (o + n))).length = xs.length := by simp [be_length]; omega
      have hc := hx.cell (o + (n - 1 - k)) (by rw [hlen]; omega)
      have hf := hx.free (o + (n - 1 - k))
      have hst := hx.set (o + (n - 1 - k)) (v / 256 ^ k % 256)
      have e1 : o + n - k = o + (n - 1 - k) + 1 := by omega
      rw [e1, putIn_step xs _ _ _ (by omega)] at hst
      have e2 : o + n - (k + 1) = o + (n - 1 - k) := by omega
      generalize (xs.take (o + n - k) ++ (be k v ++ xs.drop (o + n)))[o + (n - 1 - k)] = z at hc
      have hst2 : XAt (wr.setCell ⟨g, o + (n - 1 - k), none⟩ (.int .u8 (v / 256 ^ k % 256))) g (xs.take (o + n - (k + 1)) ++ (be (k + 1) v ++ xs.drop (o + n))) := by rw [e2]; exact hst
      have Hst := Lib.hid hst2; have Hb := Lib.hid (hb.setCell (a := ⟨g, o + (n - 1 - k), none⟩) (by simp) (.int .u8 (v / 256 ^ k % 256)))
      clear hst hst2 hb hx hlen e1 e2
      have hk8 : k = 0 ∨ k = 1 ∨ k = 2 ∨ k = 3 ∨ k = 4 ∨ k = 5 ∨ k = 6 ∨ k = 7 := by omega
      rcases hk8 with rfl | rfl | rfl | rfl | rfl | rfl | rfl | rfl
      · simp only [Nat.sub_zero, Int.pow_zero, Int.ediv_one] at hc hf Hst Hb
        go_wp2
        refine ⟨⟨1, by omega, rfl, Hst.out, Hb.out⟩, by simp [intOf]; omega⟩
      · go_wp2
        refine ⟨⟨2, by omega, rfl, Hst.out, Hb.out⟩, by simp [intOf]; omega⟩
      · go_wp2
        refine ⟨⟨3, by omega, rfl, Hst.out, Hb.out⟩, by simp [intOf]; omega⟩
      · go_wp2
        refine ⟨⟨4, by omega, rfl, Hst.out, Hb.out⟩, by simp [intOf]; omega⟩
      · go_wp2
        refine ⟨⟨5, by omega, rfl, Hst.out, Hb.out⟩, by simp [intOf]; omega⟩
      · go_wp2
        refine ⟨⟨6, by omega, rfl, Hst.out, Hb.out⟩, by simp [intOf]; omega⟩
      · go_wp2
        refine ⟨⟨7, by omega, rfl, Hst.out, Hb.out⟩, by simp [intOf]; omega⟩
      · have hn8 : n = 8 := by omega
        subst hn8
        have ea : o + (8 - 1 - 7) = o := by omega
        have ev : v / 256 ^ 7 % 256 = v / 72057594037927936 := by
          rw [show (256 : Int) ^ 7 = 72057594037927936 from by decide]
          omega
        rw [ea] at hc hf Hst Hb
        rw [ev] at Hst Hb
        clear ea ev
        go_wp2
        refine ⟨⟨8, by omega, rfl, Hst.out, Hb.out⟩, by simp [intOf]⟩
    · have hkn : k = n := by omega
      subst hkn
      have Hx := Lib.hid hx; have Hb := Lib.hid hb
      clear hx hb
      go_wp2
      go_end0
      refine ⟨rfl, ?_, Hb.out⟩
      have := Hx.out
      rw [Nat.add_sub_cancel] at this
      unfold putIn
      rw [List.append_assoc]
      exact this

theorem gv_snoc (bs : List Int) (k : Nat) (h : k < bs.length) : gv (bs.take (k + 1)) = gv (bs.take k) * 256 + bs[k] := by
  rw [List.take_succ_eq_append_getElem h]
  simp only [gv, List.foldl_append, List.foldl_cons, List.foldl_nil]
theorem gv_bounds (bs : List Int) (hb : Byt bs) : ∀ k, k ≤ bs.length → 0 ≤ gv (bs.take k) ∧ gv (bs.take k) < 256 ^ k
  | 0, _ => by simp [gv]
  | k + 1, h => by
    obtain ⟨h1, h2⟩ := gv_bounds bs hb k (by omega)
    obtain ⟨h3, h4⟩ := hb _ (List.getElem_mem (show k < bs.length by omega))
    rw [gv_snoc bs k (by omega), Int.pow_succ]
    omega
theorem or_step (a z : Int) (h0 : 0 ≤ a) (h1 : a < 72057594037927936) (h2 : 0 ≤ z) (h3 : z < 256) : bits .or .u64 (IntKind.u64.wrap (a * 256)) z = a * 256 + z := by
  obtain ⟨a, rfl⟩ := Int.eq_ofNat_of_zero_le h0
  obtain ⟨z, rfl⟩ := Int.eq_ofNat_of_zero_le h2
  have e : IntKind.u64.wrap ((a : Int) * 256) = ((a * 256 : Nat) : Int) := by
    rw [IntKind.wrap_u64, Int.emod_eq_of_lt (by omega) (by omega)]
    exact (Int.natCast_mul a 256).symm
  have ha : a < 72057594037927936 := by omega
  have hz : z < 256 := by omega
  rw [e, u64_or_nat (a * 256) z (by omega) (by omega)]
  have h8 := Nat.shiftLeft_add_eq_or_of_lt (show z < 2 ^ 8 from hz) a
  rw [Nat.shiftLeft_eq, show (2 : Nat) ^ 8 = 256 from rfl] at h8
  rw [← h8]
  exact (Int.natCast_add (a * 256) z).trans (by rw [Int.natCast_mul]; rfl)

set_option maxHeartbeats 1000000 in
theorem get_any (w : World) (ao : Option Addr) (n c : Nat) (bs : List Int) (hn : n = bs.length) (hr : Rd .u8 w ao bs) (hb : Byt bs) (h8 : n ≤ 8) :
    Calls Try.prog 32 #[.slice ao n c] w fun e w' => e = .returned (.int .u64 (gv bs)) ∧ w = w' := by
  subst hn
  have Hr := Lib.hid hr; have Hb := Lib.hid hb
  clear hr hb
  go_enter Try.func32, Try.ntmps32
  go_wp2
  go_loop [3, 8] (fun v i => ∃ k : Nat, k ≤ bs.length ∧ i = .int .i64 k ∧ v = .int .u64 (gv (bs.take k))) (fun _ i => bs.length - (intOf i).toNat)
  case atStart => exact ⟨0, by omega, rfl, rfl⟩
  case round =>
    obtain ⟨k, hk, rfl, rfl⟩ := hrel
    by_cases hlt : k < bs.length
    · obtain ⟨a, rfl, hc⟩ := Hr.out k hlt
      have hby := Hb.out _ (List.getElem_mem hlt)
      have hsn := gv_snoc bs k hlt
      obtain ⟨g0, g1⟩ := gv_bounds bs Hb.out k hk
      have hp : (256 : Int) ^ k ≤ 72057594037927936 := by
        rcases (show k = 0 ∨ k = 1 ∨ k = 2 ∨ k = 3 ∨ k = 4 ∨ k = 5 ∨ k = 6 ∨ k = 7 by omega) with h | h | h | h | h | h | h | h <;> rw [h] <;> decide
      have hor := or_step (gv (bs.take k)) bs[k] g0 (by omega) hby.1 hby.2
      rw [← hsn] at hor
      have Hor := Lib.hid hor
      obtain ⟨z0, z1⟩ := hby
      clear hor hsn hp g0 g1
      generalize bs[k] = z at *
      go_wp2
      refine ⟨⟨k + 1, by omega, by go_num, by rw [Hor.out]⟩, by simp [intOf]; omega⟩
    · have hk' : k = bs.length := by omega
      have Hk := Lib.hid hk'; clear hk'
      go_wp2
      go_ret
      exact ⟨by rw [Hk.out, List.take_length]; rfl, rfl⟩
end Go.Proofs.Ytcahhopneobjbaa
