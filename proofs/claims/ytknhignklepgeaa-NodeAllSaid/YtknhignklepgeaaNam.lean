/- The two Names. -/
import Derived.Test.YtknhignklepgeaaTre
namespace Go.Proofs.Ytknhignklepgeaa
open Go.RowKit

/-- The kinds' names. -/
def nms : List ByteArray := [⟨#[]⟩, ⟨#[102, 105, 108, 101]⟩, ⟨#[112, 97, 99, 107, 97, 103, 101]⟩, ⟨#[105, 109, 112, 111, 114, 116]⟩, ⟨#[118, 97, 114]⟩, ⟨#[99, 111, 110, 115, 116]⟩, ⟨#[115, 116, 114, 117, 99, 116]⟩, ⟨#[102, 105, 101, 108, 100]⟩, ⟨#[102, 117, 110, 99]⟩, ⟨#[112, 97, 114, 97, 109]⟩, ⟨#[98, 108, 111, 99, 107]⟩, ⟨#[100, 101, 102, 105, 110, 101]⟩, ⟨#[100, 111]⟩, ⟨#[97, 115, 115, 105, 103, 110]⟩, ⟨#[105, 102]⟩, ⟨#[102, 111, 114]⟩, ⟨#[114, 101, 116, 117, 114, 110]⟩, ⟨#[98, 114, 101, 97, 107]⟩, ⟨#[99, 111, 110, 116, 105, 110, 117, 101]⟩, ⟨#[108, 97, 98, 101, 108]⟩, ⟨#[110, 97, 109, 101]⟩, ⟨#[105, 110, 116]⟩, ⟨#[115, 116, 114, 105, 110, 103]⟩, ⟨#[117, 110, 97, 114, 121]⟩, ⟨#[98, 105, 110, 97, 114, 121]⟩, ⟨#[112, 97, 114, 101, 110]⟩, ⟨#[99, 97, 108, 108]⟩, ⟨#[115, 101, 108, 101, 99, 116]⟩, ⟨#[116, 121, 112, 101]⟩]
def nmT : Array Value := (nms.map Value.string).toArray
def nmT1 : Array Value := (nms.tail.map Value.string).toArray
def nameOf (n : Int) : ByteArray := if n < 0 then ⟨#[]⟩ else nms[n.toNat]?.getD ⟨#[]⟩
def NameIs (f : FuncId) (n : Int) (s : ByteArray) : Prop := ∀ w, Calls Try.prog f #[.int .i64 n] w fun r w' => r = .returned (.string s) ∧ Below w.heap.size w w'
theorem nms_length : nms.length = 29 := rfl
theorem nameOf_big (n : Int) (h : 29 ≤ n) : nameOf n = ⟨#[]⟩ := by
  unfold nameOf
  rw [if_neg (by omega), List.getElem?_eq_none (by rw [nms_length]; omega)]
  rfl
theorem nameOf_at (m : Nat) (h : m < nms.length) : nameOf (m : Int) = nms[m] := by
  unfold nameOf
  rw [if_neg (by omega), Int.toNat_natCast, List.getElem?_eq_getElem h]
  rfl
set_option maxHeartbeats 4000000 in
theorem name_any (n : Int) : NameIs 14 n (nameOf n) := by
  intro w
  by_cases h0 : n < 0
  · have he : nameOf n = ⟨#[]⟩ := by unfold nameOf; rw [if_pos h0]
    rw [he]
    go_enter Try.func14, Try.ntmps14
    go_wp2
    go_ret
    exact ⟨rfl, (Below.refl _ _).alloc (Nat.le_refl _) _⟩
  · by_cases h1 : 29 ≤ n
    · rw [nameOf_big n h1]
      go_enter Try.func14, Try.ntmps14
      go_wp2
      go_ret
      exact ⟨rfl, (Below.refl _ _).alloc (Nat.le_refl _) _⟩
    · obtain ⟨m, rfl⟩ : ∃ m : Nat, n = m := ⟨n.toNat, by omega⟩
      have hm : m < nms.length := by rw [nms_length]; omega
      rw [nameOf_at m hm]
      have hc : (w.alloc (.cells nmT 9)).cell? ⟨w.heap.size, m, none⟩ = some (.string nms[m]) := by
        rw [blk_cell (blk_new w (.cells nmT 9)) m]
        unfold nmT
        rw [List.getElem?_toArray, List.getElem?_map, List.getElem?_eq_getElem hm]
        rfl
      have hb : Below w.heap.size w (w.alloc (.cells nmT 9)) := (Below.refl _ _).alloc (Nat.le_refl _) _
      generalize nms[m] = s at *
      have h2 : (m : Int) < 29 := by omega
      have HC := Lib.hid hc; have HB := Lib.hid hb
      clear hc hb h1 h0 hm
      go_enter Try.func14, Try.ntmps14
      go_wp2_with (with_reducible refine halt_op 16 ?_)
      change Halted (wpList _ _ _ _ _ (w.alloc (.cells nmT 9)))
      refine Halted.run ?_
      generalize w.alloc (.cells nmT 9) = w1 at *
      have hc := HC.out
      go_wp2
      go_ret
      exact ⟨rfl, HB.out⟩
set_option maxHeartbeats 4000000 in
theorem nameR_any (n : Int) : NameIs 15 n (nameOf n) := by
  intro w
  by_cases h0 : n < 1
  · have he : nameOf n = ⟨#[]⟩ := by
      unfold nameOf
      by_cases h : n < 0
      · rw [if_pos h]
      · obtain rfl : n = 0 := by omega
        rfl
    rw [he]
    go_enter Try.func15, Try.ntmps15
    go_wp2
    go_ret
    exact ⟨rfl, (Below.refl _ _).alloc (Nat.le_refl _) _⟩
  · by_cases h1 : 29 ≤ n
    · rw [nameOf_big n h1]
      go_enter Try.func15, Try.ntmps15
      go_wp2
      go_ret
      exact ⟨rfl, (Below.refl _ _).alloc (Nat.le_refl _) _⟩
    · obtain ⟨m, rfl⟩ : ∃ m : Nat, n = ((m + 1 : Nat) : Int) := ⟨(n - 1).toNat, by omega⟩
      have hm : m + 1 < nms.length := by rw [nms_length]; omega
      rw [nameOf_at (m + 1) hm]
      have hc : (w.alloc (.cells nmT1 9)).cell? ⟨w.heap.size, m, none⟩ = some (.string nms[m + 1]) := by
        rw [blk_cell (blk_new w (.cells nmT1 9)) m]
        unfold nmT1
        rw [List.getElem?_toArray, List.getElem?_map, List.getElem?_tail, List.getElem?_eq_getElem hm]
        rfl
      have hb : Below w.heap.size w (w.alloc (.cells nmT1 9)) := (Below.refl _ _).alloc (Nat.le_refl _) _
      generalize nms[m + 1] = s at *
      have h2 : (m : Int) < 28 := by omega
      have h3 : IntKind.i64.wrap ((m : Int) + 1 - 1) = (m : Int) := by rw [show (m : Int) + 1 - 1 = m by omega]; exact IntWalk.i64_in _ (by omega)
      have HC := Lib.hid hc; have HB := Lib.hid hb
      clear hc hb h1 h0 hm
      go_enter Try.func15, Try.ntmps15
      go_wp2_with (with_reducible refine halt_op 17 ?_)
      change Halted (wpList _ _ _ _ _ (w.alloc (.cells nmT1 9)))
      refine Halted.run ?_
      generalize w.alloc (.cells nmT1 9) = w1 at *
      have hc := HC.out
      go_wp2
      go_ret
      exact ⟨rfl, HB.out⟩
end Go.Proofs.Ytknhignklepgeaa
