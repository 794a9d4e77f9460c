/- What two slots hold, through writes, flushes and crashes. No program here. -/
import Derived.Test.YtcahhopneobjbaaSupD
namespace Go.Proofs.Ytcahhopneobjbaa
open Go.RowKit CrcM

/-- The two slots at pt hold o, and it lasts. -/
structure Kept (D : Dv) (pt : Nat) (o : Nat → Option (Int × List Int)) : Prop where
  c : ∀ k, k < 2 → Cont (o k) (D.sec (pt + k)).now
  l : ∀ k, k < 2 → (D.sec (pt + k)).lasts = (D.sec (pt + k)).now
  f : ∀ k, k < 2 → (D.sec (pt + k)).loose = false
def upd (o : Nat → Option (Int × List Int)) (j : Nat) (v : Option (Int × List Int)) : Nat → Option (Int × List Int) := fun k => if k = j then v else o k
theorem Live.wr_sec {c : Int} {D : Dv} (h : Live c D) (p : Nat) (bs : List Int) (hp : p < D.n) (hl : bs.length = 64) (hn : (D.sec p).now.length = 64) (i : Nat) :
    (D.wr p bs).sec i = if i = p then ⟨bs, (D.sec p).lasts, true⟩ else D.sec i := by
  rw [h.wr_is p bs (by omega) (by omega)]
  show (if i = (p : Int).toNat then _ else D.sec i) = _
  rw [Int.toNat_natCast]
  by_cases e : i = p
  · rw [if_pos e, if_pos e]
    simp [Sec.over, List.drop_of_length_le (show (D.sec p).now.length ≤ bs.length by omega)]
  · rw [if_neg e, if_neg e]
theorem Live.step {c : Int} {D : Dv} (h : Live c D) (p : Nat) (bs : List Int) (hp : p < D.n) (hl : bs.length = 64) (hn : (D.sec p).now.length = 64) :
    Live (c + 2) (D.wr p bs).fl ∧ (D.wr p bs).fl.n = D.n ∧ ∀ i, i < D.n → (D.wr p bs).fl.sec i = if i = p then ⟨bs, bs, false⟩ else (D.sec i).fl := by
  obtain ⟨h1, h2⟩ := h.wr p bs (by omega) (by omega)
  obtain ⟨h3, h4, h5⟩ := h1.fl
  refine ⟨by rw [show c + 2 = c + 1 + 1 by omega]; exact h3, h4.trans h2, fun i hi => ?_⟩
  rw [h5 i (by rw [h2]; exact hi), h.wr_sec p bs hp hl hn i]
  by_cases e : i = p
  · rw [if_pos e, if_pos e]; rfl
  · rw [if_neg e, if_neg e]
/-- A save onto one slot. -/
theorem Kept.save {c : Int} {D : Dv} {pt : Nat} {o : Nat → Option (Int × List Int)} (h : Live c D) (hk : Kept D pt o) (hp : pt + 1 < D.n) (j : Nat) (hj : j < 2) (n : Int) (ys : List Int) (hn : (D.sec (pt + j)).now.length = 64)
    (h1 : 1 ≤ n) (h2 : n < 1000000) (h3 : ys.length ≤ 40) (h4 : Byt ys) : Kept (D.wr ((pt + j : Nat) : Int) (image n ys)).fl pt (upd o j (some (n, ys))) := by
  obtain ⟨_, _, hs⟩ := h.step (pt + j) (image n ys) (by omega) (image_length n ys (by omega)) hn
  refine ⟨fun k hk2 => ?_, fun k hk2 => ?_, fun k hk2 => ?_⟩ <;> rw [hs (pt + k) (by omega)] <;> by_cases e : k = j
  · subst e
    rw [if_pos rfl]
    unfold upd
    rw [if_pos rfl]
    exact ⟨rfl, h1, h2, h3, h4⟩
  · rw [if_neg (by omega)]
    unfold upd
    rw [if_neg e]
    exact hk.c k hk2
  · subst e; rw [if_pos rfl]
  · rw [if_neg (by omega)]; rfl
  · subst e; rw [if_pos rfl]
  · rw [if_neg (by omega)]; rfl
/-- A write elsewhere, and a flush. -/
theorem Kept.other {c : Int} {D : Dv} {pt : Nat} {o : Nat → Option (Int × List Int)} (h : Live c D) (hk : Kept D pt o) (hp : pt + 1 < D.n) (p : Nat) (bs : List Int) (hpn : p < D.n) (hl : bs.length = 64) (hn : (D.sec p).now.length = 64) (h1 : p ≠ pt) (h2 : p ≠ pt + 1) : Kept (D.wr p bs).fl pt o := by
  obtain ⟨_, _, hs⟩ := h.step p bs hpn hl hn
  refine ⟨fun k hk2 => ?_, fun k hk2 => ?_, fun k hk2 => ?_⟩ <;> rw [hs (pt + k) (by omega), if_neg (by omega)]
  · exact hk.c k hk2
  · rfl
  · rfl
theorem Kept.crash {D : Dv} {pt : Nat} {o : Nat → Option (Int × List Int)} (hk : Kept D pt o) (ks : List Bool) : Kept (D.crash ks) pt o := by
  have e : ∀ k, k < 2 → D.left ks (pt + k) = (D.sec (pt + k)).now := by
    intro k hk2
    unfold Dv.left
    rw [hk.f k hk2]
    exact hk.l k hk2
  refine ⟨fun k hk2 => ?_, fun k hk2 => rfl, fun k hk2 => rfl⟩
  show Cont (o k) (D.left ks (pt + k))
  rw [e k hk2]
  exact hk.c k hk2
theorem crash_live (D : Dv) (ks : List Bool) : Live 0 (D.crash ks) := ⟨rfl, rfl, Int.le_refl _, Int.le_refl _, rfl⟩
/-- What Make leaves. -/
theorem Kept.make {c : Int} {D : Dv} (h : Live c D) (pt : Nat) (hp : pt + 1 < D.n) (ys : List Int) (h3 : ys.length ≤ 40) (h4 : Byt ys) (hn : ∀ i, i < D.n → (D.sec i).now.length = 64) :
    Kept (mkD D pt ys) pt (fun k => if k = 0 then some (1, ys) else none) ∧ Live (c + 4) (mkD D pt ys) ∧ (mkD D pt ys).n = D.n := by
  obtain ⟨l1, n1⟩ := mkTo_live h pt (by omega) (by omega) 1 (by omega)
  obtain ⟨l2, n2⟩ := mkTo_live h pt (by omega) (by omega) 2 (by omega)
  have z64 : zeros.length = 64 := by simp [zeros]
  have s1 : ∀ i, (mkTo D pt 1).sec i = if i = pt then ⟨zeros, (D.sec pt).lasts, true⟩ else D.sec i := fun i => by
    have := h.wr_sec pt zeros (by omega) z64 (hn pt (by omega)) i
    show (D.wr ((pt : Int) + (0 : Nat)) zeros).sec i = _
    rw [show (pt : Int) + (0 : Nat) = (pt : Int) by omega]
    exact this
  have s2 : ∀ i, (mkTo D pt 2).sec i = if i = pt + 1 then ⟨zeros, (D.sec (pt + 1)).lasts, true⟩ else (mkTo D pt 1).sec i := fun i => by
    have hh : ((mkTo D pt 1).sec (pt + 1)).now.length = 64 := by rw [s1, if_neg (by omega)]; exact hn _ (by omega)
    have := l1.wr_sec (pt + 1) zeros (by rw [n1]; omega) z64 hh i
    have e := s1 (pt + 1)
    rw [if_neg (by omega)] at e
    rw [e] at this
    show ((mkTo D pt 1).wr ((pt : Int) + (1 : Nat)) zeros).sec i = _
    exact this
  have h64 : ((mkTo D pt 2).sec pt).now.length = 64 := by rw [s2, if_neg (by omega), s1, if_pos rfl]; exact z64
  obtain ⟨l3, n3, s3⟩ := l2.step pt (image 1 ys) (by rw [n2]; omega) (image_length 1 ys (by omega)) h64
  have e0 : (mkD D pt ys) = ((mkTo D pt 2).wr (pt : Int) (image 1 ys)).fl := rfl
  refine ⟨⟨?_, ?_, ?_⟩, ?_, n3.trans n2⟩
  · intro k hk
    rw [e0, s3 (pt + k) (by rw [n2]; omega)]
    rcases (show k = 0 ∨ k = 1 by omega) with rfl | rfl
    · show Cont (some (1, ys)) _
      rw [if_pos (by omega)]
      exact ⟨rfl, by omega, by omega, h3, h4⟩
    · show Cont none _
      rw [if_neg (by omega), s2, if_pos rfl]
      rfl
  · intro k hk
    rw [e0, s3 (pt + k) (by rw [n2]; omega)]
    split <;> rfl
  · intro k hk
    rw [e0, s3 (pt + k) (by rw [n2]; omega)]
    split <;> rfl
  · rw [show c + 4 = c + (2 : Nat) + 2 by omega]
    exact l3
theorem newD_live (n : Nat) : Live 0 (newD n) := ⟨rfl, rfl, Int.le_refl _, Int.le_refl _, rfl⟩
theorem newD_64 (n : Nat) (i : Nat) : ((newD n).sec i).now.length = 64 := by simp [newD, zSec]
end Go.Proofs.Ytcahhopneobjbaa
