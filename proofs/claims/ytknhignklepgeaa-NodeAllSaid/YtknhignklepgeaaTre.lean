/- tree. -/
import Derived.Test.YtknhignklepgeaaOf
namespace Go.Proofs.Ytknhignklepgeaa
open Go.RowKit

def treeE (l : List Int) : El := (ofE 6 (l.take 40) 0).1
theorem treeE_small (l : List Int) : SmallE (treeE l) := ofE_small 6 _ 0
theorem treeE_count (l : List Int) : 1 + cF (treeE l).kids ≤ 40 + 1 := by
  have h := ofE_ends 6 (l.take 40) 0 (Nat.zero_le _)
  have hl : (l.take 40).length ≤ 40 := by rw [List.length_take]; omega
  show 1 + cF (ofE 6 (l.take 40) 0).1.kids ≤ _
  omega
set_option maxHeartbeats 4000000 in
theorem tree_any (w : World) (la : Option Addr) (lc : Nat) (l : List Int) (hl1 : l.length ≤ lc) (hl2 : lc ≤ 9223372036854775807) (hrd : Rd .i64 w la l) :
    Calls Try.prog 7 #[.slice la l.length lc] w fun r w' => ∃ ao cap, r = .returned (nodeV (treeE l).k (treeE l).t ao (treeE l).kids.els.length cap) ∧ Below w.heap.size w w' ∧ KI w' w.heap.size w'.heap.size ao cap (treeE l).kids := by
  have b1 : Below w.heap.size w ((w.alloc (.cells #[.int .i64 0, .int .i64 0, .slice none 0 0] 26)).alloc (.cells #[.int .i64 0] 3)) := ((Below.refl _ _).alloc (Nat.le_refl _) _).alloc (by simp) _
  have zp : ((w.alloc (.cells #[.int .i64 0, .int .i64 0, .slice none 0 0] 26)).alloc (.cells #[.int .i64 0] 3)).heap[w.heap.size + 1]? = some (.cells #[.int .i64 ((0 : Nat) : Int)] 3 (0, 0)) := by
    have := blk_new (w.alloc (.cells #[.int .i64 0, .int .i64 0, .slice none 0 0] 26)) (.cells #[.int .i64 0] 3)
    rw [World.size_alloc] at this
    exact this
  have z0 : ((w.alloc (.cells #[.int .i64 0, .int .i64 0, .slice none 0 0] 26)).alloc (.cells #[.int .i64 0] 3)).heap[w.heap.size]? = some (.cells #[.int .i64 0, .int .i64 0, .slice none 0 0] 26 (0, 0)) :=
    (((Below.refl _ _).alloc (Nat.le_refl _) _).block _ (by simp)).trans (blk_new w (.cells #[.int .i64 0, .int .i64 0, .slice none 0 0] 26))
  have s1 : ((w.alloc (.cells #[.int .i64 0, .int .i64 0, .slice none 0 0] 26)).alloc (.cells #[.int .i64 0] 3)).heap.size = w.heap.size + 2 := by simp
  have hcall := of_any 6 0 ((w.alloc (.cells #[.int .i64 0, .int .i64 0, .slice none 0 0] 26)).alloc (.cells #[.int .i64 0] 3)) la lc (w.heap.size + 1) 0 (l.take 40) rfl (by rw [List.length_take]; omega) hl2 (by rw [List.length_take]; omega) (Nat.zero_le _) ((hrd.below b1).take 40) (fun a ha hpos => by
    rw [List.length_take] at hpos
    obtain ⟨a', ha', cx⟩ := hrd 0 (by omega)
    rw [ha] at ha'
    cases ha'
    have := World.block_lt_of_cell? _ _ cx
    have e1 : (a.add 0).block = a.block := by unfold Addr.add; split <;> rfl
    rw [e1] at this
    omega) zp
  have hfin : ∀ w3 : World, ((w.alloc (.cells #[.int .i64 0, .int .i64 0, .slice none 0 0] 26)).alloc (.cells #[.int .i64 0] 3)).grownBy w3 (some (w.heap.size + 1)) → Below w.heap.size w w3 ∧ w3.heap[w.heap.size]? = some (.cells #[.int .i64 0, .int .i64 0, .slice none 0 0] 26 (0, 0)) := fun w3 hg => by
    refine ⟨⟨hg.os.trans b1.os, hg.tape.trans b1.tape, hg.output.trans b1.output, Nat.le_trans b1.size hg.size, fun i hi => (hg.block i (by omega) (fun e => by injection e with e; omega)).trans (b1.block i hi)⟩, (hg.block _ (by omega) (fun e => by injection e with e; omega)).trans z0⟩
  have hE : (ofE 6 (l.take 40) 0).1 = treeE l := rfl
  rw [hE] at hcall
  generalize treeE l = E at *
  obtain ⟨k, t, F⟩ := E
  have HC := Lib.hid hcall; have HF := Lib.hid hfin
  clear hcall hfin b1 zp z0 hE
  unfold nodeV at *
  by_cases h40 : 40 < l.length
  · have h40' : (l.take 40).length = 40 := by rw [List.length_take]; omega
    rw [h40'] at HC
    go_enter Try.func7, Try.ntmps7
    go_wp2_with (with_reducible refine halt_call ?_)
    refine Halted.run (HC.out.mono ?_); rintro r w3 ⟨ao, cap, rfl, hg, -, hk⟩
    obtain ⟨hb3, hz3⟩ := HF.out w3 hg
    have r0 := blk_free hz3
    obtain ⟨r1, r2, r3⟩ := tri_cells hz3
    have s3 := hg.size
    rw [s1] at s3
    have HK := Lib.hid hk; have HB := Lib.hid hb3
    clear HC HF hg hk hb3
    go_wp2_with fail
    (try simp only [Exit.inBlock, Exit.then])
    refine bodyPost_ret (v := nodeV k t ao F.els.length cap) (by simp [results, Try.results7, go_sem, r1, r2, r3, nodeV]; try rfl) rfl ?_
    refine ⟨ao, cap, rfl, ((HB.out.setCell (by show _ ≤ w.heap.size; omega) _).setCell (by show _ ≤ w.heap.size; omega) _).setCell (by show _ ≤ w.heap.size; omega) _, ?_⟩
    refine (HK.out.keep (fun b q1 q2 => ?_)).wide (by rw [s1]; omega) (by rw [World.size_setCell, World.size_setCell, World.size_setCell]; omega)
    rw [s1] at q1
    rw [Below.heap_setCell _ _ _ _ (by show b ≠ w.heap.size; omega), Below.heap_setCell _ _ _ _ (by show b ≠ w.heap.size; omega), Below.heap_setCell _ _ _ _ (by show b ≠ w.heap.size; omega)]
  · have h40' : l.take 40 = l := List.take_of_length_le (by omega)
    rw [h40'] at HC
    go_enter Try.func7, Try.ntmps7
    go_wp2_with (with_reducible refine halt_call ?_)
    refine Halted.run (HC.out.mono ?_); rintro r w3 ⟨ao, cap, rfl, hg, -, hk⟩
    obtain ⟨hb3, hz3⟩ := HF.out w3 hg
    have r0 := blk_free hz3
    obtain ⟨r1, r2, r3⟩ := tri_cells hz3
    have s3 := hg.size
    rw [s1] at s3
    have HK := Lib.hid hk; have HB := Lib.hid hb3
    clear HC HF hg hk hb3
    go_wp2_with fail
    (try simp only [Exit.inBlock, Exit.then])
    refine bodyPost_ret (v := nodeV k t ao F.els.length cap) (by simp [results, Try.results7, go_sem, r1, r2, r3, nodeV]; try rfl) rfl ?_
    refine ⟨ao, cap, rfl, ((HB.out.setCell (by show _ ≤ w.heap.size; omega) _).setCell (by show _ ≤ w.heap.size; omega) _).setCell (by show _ ≤ w.heap.size; omega) _, ?_⟩
    refine (HK.out.keep (fun b q1 q2 => ?_)).wide (by rw [s1]; omega) (by rw [World.size_setCell, World.size_setCell, World.size_setCell]; omega)
    rw [s1] at q1
    rw [Below.heap_setCell _ _ _ _ (by show b ≠ w.heap.size; omega), Below.heap_setCell _ _ _ _ (by show b ≠ w.heap.size; omega), Below.heap_setCell _ _ _ _ (by show b ≠ w.heap.size; omega)]
end Go.Proofs.Ytknhignklepgeaa
