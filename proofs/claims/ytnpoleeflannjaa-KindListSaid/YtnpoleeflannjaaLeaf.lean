/- The kinds' own functions. -/
import Derived.Test.YtnpoleeflannjaaProg
import Derived.Test.YtnpoleeflannjaaCore
import Derived.Deep.RegionHeld3
namespace Go.Proofs.Ytnpoleeflannjaa
open Go.RowKit

abbrev K (f t : Int) : Value := .agg #[.int .i64 f, .int .i64 t]
abbrev KO (f t : Int) : Obj := .cells #[.int .i64 f, .int .i64 t] 24
/-- World's and Struct's kinds. -/
def wF (n : Int) : Int := if 0 ≤ n ∧ n ≤ 2 then -1 else -2
def wT (n : Int) : Int := if 0 ≤ n ∧ n ≤ 2 then n else 0
def sF (f t : Int) : Int := if 0 ≤ f ∧ 0 ≤ t then f else -2
def sT (f t : Int) : Int := if 0 ≤ f ∧ 0 ≤ t then t else 0

theorem none_any (w : World) : Calls Try.prog 12 #[] w fun e w' => e = .returned (K (-2) 0) ∧ w.alloc (KO (-2) 0) = w' := by
  go_enter Try.func12, Try.ntmps12
  go_wp2
  exact bodyPost_ret (v := K (-2) 0) (by simp [results, Try.results12, go_sem]) rfl ⟨rfl, rfl⟩
theorem is_any (f t : Int) (w : World) : Calls Try.prog 9 #[K f t] w fun e w' => e = .returned (.bool (f != -2)) ∧ w.alloc (KO f t) = w' := by
  go_enter Try.func9, Try.ntmps9
  go_wp2
  go_ret
  exact ⟨rfl, rfl⟩
theorem fields_any (f t : Int) (w : World) : Calls Try.prog 10 #[K f t] w fun e w' => e = .returned (.bool (decide (0 ≤ f))) ∧ w.alloc (KO f t) = w' := by
  go_enter Try.func10, Try.ntmps10
  go_wp2
  go_ret
  exact ⟨rfl, rfl⟩
theorem eq_any (f t f' t' : Int) (w : World) : Calls Try.prog 11 #[K f t, K f' t'] w fun e w' => e = .returned (.bool (f == f' && t == t')) ∧ (w.alloc (KO f t)).alloc (KO f' t') = w' := by
  by_cases h1 : f = f'
  · subst h1
    by_cases h2 : t = t'
    · subst h2
      go_enter Try.func11, Try.ntmps11
      go_wp2
      go_ret
      exact ⟨by simp, rfl⟩
    · go_enter Try.func11, Try.ntmps11
      go_wp2
      go_ret
      exact ⟨by simp [h2], rfl⟩
  · go_enter Try.func11, Try.ntmps11
    go_wp2
    go_ret
    exact ⟨by simp [h1], rfl⟩

theorem world_any (n : Int) (w : World) : Calls Try.prog 7 #[.int .i64 n] w fun e w' => e = .returned (K (wF n) (wT n)) ∧ Below w.heap.size w w' := by
  by_cases h : 0 ≤ n ∧ n ≤ 2
  · unfold wF wT
    rw [if_pos h, if_pos h]
    obtain ⟨h0, h1⟩ := h
    go_enter Try.func7, Try.ntmps7
    go_wp2
    exact bodyPost_ret (v := K (-1) n) (by simp [results, Try.results7, go_sem]) rfl ⟨rfl, (Below.refl _ _).alloc (Nat.le_refl _) _⟩
  · unfold wF wT
    rw [if_neg h, if_neg h]
    by_cases h0 : n < 0
    · clear h
      go_enter Try.func7, Try.ntmps7
      go_wp2_with (go_at_call 12; refine (none_any _).mono ?_; rintro e w' ⟨rfl, rfl⟩)
      exact bodyPost_ret (v := K (-2) 0) (by simp [results, Try.results7, go_sem]) rfl ⟨rfl, ((Below.refl _ _).alloc (Nat.le_refl _) _).alloc (by simp) _⟩
    · have h1 : 2 < n := by omega
      clear h
      go_enter Try.func7, Try.ntmps7
      go_wp2_with (go_at_call 12; refine (none_any _).mono ?_; rintro e w' ⟨rfl, rfl⟩)
      exact bodyPost_ret (v := K (-2) 0) (by simp [results, Try.results7, go_sem]) rfl ⟨rfl, ((Below.refl _ _).alloc (Nat.le_refl _) _).alloc (by simp) _⟩
theorem struct_any (f t : Int) (w : World) : Calls Try.prog 8 #[.int .i64 f, .int .i64 t] w fun e w' => e = .returned (K (sF f t) (sT f t)) ∧ Below w.heap.size w w' := by
  by_cases h : 0 ≤ f ∧ 0 ≤ t
  · unfold sF sT
    rw [if_pos h, if_pos h]
    obtain ⟨h0, h1⟩ := h
    go_enter Try.func8, Try.ntmps8
    go_wp2
    exact bodyPost_ret (v := K f t) (by simp [results, Try.results8, go_sem]) rfl ⟨rfl, (Below.refl _ _).alloc (Nat.le_refl _) _⟩
  · unfold sF sT
    rw [if_neg h, if_neg h]
    by_cases h0 : f < 0
    · clear h
      go_enter Try.func8, Try.ntmps8
      go_wp2_with (go_at_call 12; refine (none_any _).mono ?_; rintro e w' ⟨rfl, rfl⟩)
      exact bodyPost_ret (v := K (-2) 0) (by simp [results, Try.results8, go_sem]) rfl ⟨rfl, ((Below.refl _ _).alloc (Nat.le_refl _) _).alloc (by simp) _⟩
    · have h1 : t < 0 := by omega
      clear h
      go_enter Try.func8, Try.ntmps8
      go_wp2_with (go_at_call 12; refine (none_any _).mono ?_; rintro e w' ⟨rfl, rfl⟩)
      exact bodyPost_ret (v := K (-2) 0) (by simp [results, Try.results8, go_sem]) rfl ⟨rfl, ((Below.refl _ _).alloc (Nat.le_refl _) _).alloc (by simp) _⟩
/-- Three kinds in three blocks from B on. -/
structure KK (B : Nat) (a b c d e f : Int) (W : World) : Prop where
  hs : B + 3 ≤ W.heap.size
  k1 : W.cell? ⟨B, 0, none⟩ = some (.int .i64 a)
  k2 : W.cell? ⟨B, 1, none⟩ = some (.int .i64 b)
  k3 : W.cell? ⟨B + 1, 0, none⟩ = some (.int .i64 c)
  k4 : W.cell? ⟨B + 1, 1, none⟩ = some (.int .i64 d)
  k5 : W.cell? ⟨B + 1 + 1, 0, none⟩ = some (.int .i64 e)
  k6 : W.cell? ⟨B + 1 + 1, 1, none⟩ = some (.int .i64 f)
theorem KK.below {B : Nat} {a b c d e f : Int} {W W' : World} (h : KK B a b c d e f W) (hb : Below W.heap.size W W') : KK B a b c d e f W' := by
  obtain ⟨h0, h1, h2, h3, h4, h5, h6⟩ := h
  have hs := hb.size
  refine ⟨by omega, ?_, ?_, ?_, ?_, ?_, ?_⟩ <;> rw [hb.cell (by simp; omega)] <;> assumption


theorem is_b (f t : Int) (w : World) : Calls Try.prog 9 #[K f t] w fun e w' => e = .returned (.bool (f != -2)) ∧ Below w.heap.size w w' :=
  (is_any f t w).mono fun _ _ ⟨h, k⟩ => ⟨h, k ▸ (Below.refl _ _).alloc (Nat.le_refl _) _⟩
theorem fields_b (f t : Int) (w : World) : Calls Try.prog 10 #[K f t] w fun e w' => e = .returned (.bool (decide (0 ≤ f))) ∧ Below w.heap.size w w' :=
  (fields_any f t w).mono fun _ _ ⟨h, k⟩ => ⟨h, k ▸ (Below.refl _ _).alloc (Nat.le_refl _) _⟩
theorem eq_b (f t f' t' : Int) (w : World) : Calls Try.prog 11 #[K f t, K f' t'] w fun e w' => e = .returned (.bool (f == f' && t == t')) ∧ Below w.heap.size w w' :=
  (eq_any f t f' t' w).mono fun _ _ ⟨h, k⟩ => ⟨h, k ▸ ((Below.refl _ _).alloc (Nat.le_refl _) _).alloc (by simp) _⟩
theorem none_b (w : World) : Calls Try.prog 12 #[] w fun e w' => e = .returned (K (-2) 0) ∧ Below w.heap.size w w' :=
  (none_any w).mono fun _ _ ⟨h, k⟩ => ⟨h, k ▸ (Below.refl _ _).alloc (Nat.le_refl _) _⟩

theorem three_new (w : World) (A B C : Array Value) (t : TypeId) (i : Nat) :
    (((w.alloc (.cells A t)).alloc (.cells B t)).alloc (.cells C t)).cell? ⟨w.heap.size, i, none⟩ = A[i]? ∧
    (((w.alloc (.cells A t)).alloc (.cells B t)).alloc (.cells C t)).cell? ⟨w.heap.size + 1, i, none⟩ = B[i]? ∧
    (((w.alloc (.cells A t)).alloc (.cells B t)).alloc (.cells C t)).cell? ⟨w.heap.size + 1 + 1, i, none⟩ = C[i]? := by
  refine ⟨?_, ?_, ?_⟩
  · rw [World.cell?_alloc_old _ _ _ (by simp; omega), World.cell?_alloc_old _ _ _ (by simp), World.cell?_alloc_new]
  · rw [World.cell?_alloc_old _ _ _ (by simp)]
    have := World.cell?_alloc_new (w.alloc (.cells A t)) B t i
    rwa [World.size_alloc] at this
  · have := World.cell?_alloc_new ((w.alloc (.cells A t)).alloc (.cells B t)) C t i
    rwa [World.size_alloc, World.size_alloc] at this

theorem KK.new (w : World) (a b c d e f : Int) : KK w.heap.size a b c d e f (((w.alloc (KO a b)).alloc (KO c d)).alloc (KO e f)) := by
  have h := fun i => three_new w #[.int .i64 a, .int .i64 b] #[.int .i64 c, .int .i64 d] #[.int .i64 e, .int .i64 f] 24 i
  exact ⟨by simp, (h 0).1, (h 1).1, (h 0).2.1, (h 1).2.1, (h 0).2.2, (h 1).2.2⟩

end Go.Proofs.Ytnpoleeflannjaa
