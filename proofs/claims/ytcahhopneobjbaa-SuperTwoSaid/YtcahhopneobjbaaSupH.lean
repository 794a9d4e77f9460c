/- Beside a Super: other sectors, other Supers. No program here. -/
import Derived.Test.YtcahhopneobjbaaSupF
namespace Go.Proofs.Ytcahhopneobjbaa
open Go.RowKit CrcM

theorem SupAt.more {w : World} {s b : Nat} {N : List Nat} {pt slot turn : Int} {xs : List Int} (h : SupAt w s b N pt slot turn xs) (k : Nat) (hk : w.heap.size ≤ k) : SupAt w s b (k :: N) pt slot turn xs := by
  obtain ⟨ao, cap, h1, h2, h3, h4⟩ := h.h
  refine ⟨⟨ao, cap, h1, h2, h3, fun a ha hne hm => ?_⟩, h.l⟩
  rcases List.mem_cons.1 hm with e | hm
  · have := h2.lt a ha hne
    omega
  · exact h4 a ha hne hm
theorem SupAt.less {w : World} {s b : Nat} {N N' : List Nat} {pt slot turn : Int} {xs : List Int} (h : SupAt w s b N pt slot turn xs) (hN : ∀ k, k ∈ N' → k ∈ N) : SupAt w s b N' pt slot turn xs := by
  obtain ⟨ao, cap, h1, h2, h3, h4⟩ := h.h
  exact ⟨⟨ao, cap, h1, h2, h3, fun a ha hne hm => h4 a ha hne (hN _ hm)⟩, h.l⟩
/-- What a Make does to the sectors beside it. -/
theorem mk_other {c : Int} {D : Dv} (h : Live c D) (pt : Nat) (hp : pt + 1 < D.n) (ys : List Int) (h3 : ys.length ≤ 40) (hn : ∀ i, i < D.n → (D.sec i).now.length = 64) (i : Nat) (hi : i < D.n) (h1 : i ≠ pt) (h2 : i ≠ pt + 1) :
    (mkD D pt ys).sec i = (D.sec i).fl := by
  obtain ⟨l1, n1⟩ := mkTo_live h pt (by omega) (by omega) 1 (by omega)
  obtain ⟨l2, n2⟩ := mkTo_live h pt (by omega) (by omega) 2 (by omega)
  have z64 : zeros.length = 64 := by simp [zeros]
  have s1 : ∀ i, (mkTo D pt 1).sec i = if i = pt then ⟨zeros, (D.sec pt).lasts, true⟩ else D.sec i := fun i => by
    have := h.wr_sec pt zeros (by omega) z64 (hn pt (by omega)) i
    show (D.wr ((pt : Int) + (0 : Nat)) zeros).sec i = _
    rw [show (pt : Int) + (0 : Nat) = (pt : Int) by omega]
    exact this
  have s2 : ∀ i, (mkTo D pt 2).sec i = if i = pt + 1 then ⟨zeros, (D.sec (pt + 1)).lasts, true⟩ else (mkTo D pt 1).sec i := fun i => by
    have hh : ((mkTo D pt 1).sec (pt + 1)).now.length = 64 := by rw [s1, if_neg (by omega)]; exact hn _ (by omega)
    have := l1.wr_sec (pt + 1) zeros (by rw [n1]; omega) z64 hh i
    have e := s1 (pt + 1)
    rw [if_neg (by omega)] at e
    rw [e] at this
    show ((mkTo D pt 1).wr ((pt : Int) + (1 : Nat)) zeros).sec i = _
    exact this
  have h64 : ((mkTo D pt 2).sec pt).now.length = 64 := by rw [s2, if_neg (by omega), s1, if_pos rfl]; exact z64
  obtain ⟨_, _, s3⟩ := l2.step pt (image 1 ys) (by rw [n2]; omega) (image_length 1 ys (by omega)) h64
  show ((mkTo D pt 2).wr (pt : Int) (image 1 ys)).fl.sec i = _
  rw [s3 i (by rw [n2]; exact hi), if_neg h1, s2, if_neg h2, s1, if_neg h1]
/-- Two slots that are only flushed. -/
theorem Kept.of_fl {D D' : Dv} {pt : Nat} {o : Nat → Option (Int × List Int)} (hk : Kept D pt o) (h : ∀ k, k < 2 → D'.sec (pt + k) = (D.sec (pt + k)).fl) : Kept D' pt o := by
  refine ⟨fun k hk2 => ?_, fun k hk2 => ?_, fun k hk2 => ?_⟩ <;> rw [h k hk2]
  · exact hk.c k hk2
  · rfl
  · rfl
/-- A sector that holds xs, and it lasts. -/
def Lasts (D : Dv) (i : Nat) (xs : List Int) : Prop := D.sec i = ⟨xs, xs, false⟩
theorem Lasts.fl {D D' : Dv} {i : Nat} {xs : List Int} (h : Lasts D i xs) (h2 : D'.sec i = (D.sec i).fl) : Lasts D' i xs := by
  unfold Lasts at *
  rw [h2, h]; rfl
theorem Lasts.crash {D : Dv} {i : Nat} {xs : List Int} (h : Lasts D i xs) (ks : List Bool) : ((D.crash ks).sec i).now = xs := by
  show D.left ks i = xs
  unfold Dv.left
  rw [h]; rfl
theorem acc_some (st : St) (k n : Int) (x : List Int) : acc st k (some (n, x)) = if st.turn < n then ⟨k, n, x⟩ else st := rfl
/-- The later text stands; a further save turns the slots. -/
theorem accTo_upd (o : Nat → Option (Int × List Int)) (sl n : Int) (x y : List Int) (h : accTo o 2 = ⟨sl, n, x⟩) (hn : 1 ≤ n) (hs : sl = 0 ∨ sl = 1) : accTo (upd o (1 - sl).toNat (some (n + 1, y))) 2 = ⟨1 - sl, n + 1, y⟩ := by
  have e : accTo o 2 = acc (acc ⟨0, 0, []⟩ 0 (o 0)) 1 (o 1) := rfl
  rw [e] at h
  rcases hs with rfl | rfl
  · have e2 : accTo (upd o (1 - (0 : Int)).toNat (some (n + 1, y))) 2 = acc (acc ⟨0, 0, []⟩ 0 (o 0)) 1 (some (n + 1, y)) := rfl
    rw [e2, acc_some]
    have ht : (acc ⟨0, 0, []⟩ 0 (o 0)).turn ≤ n := by
      cases h1 : o 1 with
      | none => rw [h1] at h; show (acc ⟨0, 0, []⟩ 0 (o 0)).turn ≤ n; rw [show acc (acc ⟨0, 0, []⟩ 0 (o 0)) 1 none = acc ⟨0, 0, []⟩ 0 (o 0) from rfl] at h; rw [h]; exact Int.le_refl _
      | some p =>
        obtain ⟨n1, x1⟩ := p
        rw [h1, acc_some] at h
        by_cases hc : (acc ⟨0, 0, []⟩ 0 (o 0)).turn < n1
        · rw [if_pos hc] at h
          injection h with ha _ _
          cases ha
        · rw [if_neg hc] at h
          rw [h]; exact Int.le_refl _
    rw [if_pos (by omega)]
    rfl
  · have e2 : accTo (upd o (1 - (1 : Int)).toNat (some (n + 1, y))) 2 = acc (acc ⟨0, 0, []⟩ 0 (some (n + 1, y))) 1 (o 1) := rfl
    rw [e2, acc_some, if_pos (show (0 : Int) < n + 1 by omega)]
    cases h1 : o 1 with
    | none =>
      rw [h1] at h
      rw [show acc (acc ⟨0, 0, []⟩ 0 (o 0)) 1 none = acc ⟨0, 0, []⟩ 0 (o 0) from rfl] at h
      cases h0 : o 0 with
      | none => rw [h0] at h; injection h with ha; cases ha
      | some p =>
        obtain ⟨n0, x0⟩ := p
        rw [h0, acc_some] at h
        by_cases hc : (0 : Int) < n0
        · rw [if_pos hc] at h; injection h with ha; cases ha
        · rw [if_neg hc] at h; injection h with ha; cases ha
    | some p =>
      obtain ⟨n1, x1⟩ := p
      rw [h1, acc_some] at h
      by_cases hc : (acc ⟨0, 0, []⟩ 0 (o 0)).turn < n1
      · rw [if_pos hc] at h
        injection h with _ hn1 _
        rw [acc_some, if_neg (show ¬ (n + 1 < n1) by omega)]
        rfl
      · rw [if_neg hc] at h
        cases h0 : o 0 with
        | none => rw [h0] at h; injection h with ha; cases ha
        | some p =>
          obtain ⟨n0, x0⟩ := p
          rw [h0, acc_some] at h
          by_cases hc : (0 : Int) < n0
          · rw [if_pos hc] at h; injection h with ha; cases ha
          · rw [if_neg hc] at h; injection h with ha; cases ha
end Go.Proofs.Ytcahhopneobjbaa
