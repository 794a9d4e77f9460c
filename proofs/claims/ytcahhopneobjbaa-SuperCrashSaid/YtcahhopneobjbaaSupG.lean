/- A save onto a device with a fuse, and the crash behind it. No program here. -/
import Derived.Test.YtcahhopneobjbaaSupF
namespace Go.Proofs.Ytcahhopneobjbaa
open Go.RowKit CrcM

theorem alive_wr {D : Dv} (hd : D.isDead = false) (p : Nat) (bs : List Int) (hp : p < D.n) (hl : bs.length = 64) (hn : (D.sec p).now.length = 64) :
    (D.wr p bs).n = D.n ∧ ∀ i, (D.wr p bs).sec i = if i = p then ⟨bs, (D.sec p).lasts, true⟩ else D.sec i := by
  have he : D.wErr p bs.length = 0 := by
    unfold Dv.wErr Dv.atErr
    rw [hd, if_pos (show 0 ≤ (p : Int) ∧ (p : Int) < D.n by omega)]
    simp; omega
  unfold Dv.wr
  rw [he, if_pos rfl]
  refine ⟨rfl, fun i => ?_⟩
  show (if i = (p : Int).toNat then _ else D.sec i) = _
  rw [Int.toNat_natCast]
  by_cases e : i = p
  · rw [if_pos e, if_pos e]
    simp [Sec.over, List.drop_of_length_le (show (D.sec p).now.length ≤ bs.length by omega)]
  · rw [if_neg e, if_neg e]
theorem alive_fl {D : Dv} (hd : D.isDead = false) : D.fl.n = D.n ∧ ∀ i, i < D.n → D.fl.sec i = (D.sec i).fl := by
  unfold Dv.fl
  rw [hd]
  simp only [Bool.false_eq_true, ↓reduceIte]
  refine ⟨rfl, fun i hi => ?_⟩
  show (if i < D.n then _ else _) = _
  rw [if_pos hi]; rfl

/-- Which texts a crash may leave. -/
theorem fused_save {w w' : World} {s b r : Nat} {N : List Nat} {xs ys : List Int} {D : Dv} {e : Ending} {turn : Int}
    (hp : WrPost w s b r N 0 0 turn xs (1 - 0) (turn + 1) ys D e w') (hk : Kept D 0 (fun k => if k = 0 then some (turn, xs) else none)) (hn : D.n = 2) (h64 : ∀ i, i < 2 → (D.sec i).now.length = 64) (ht0 : 0 ≤ turn) (ht1 : turn < 900000) (hy : ys.length ≤ 40) (hb : Byt ys) :
    ∃ (q : Int) (D3 : Dv), e = .returned (.int .i64 q) ∧ But [b, r, s] w w' ∧ DevAt w' b r D3 ∧ D3.n = 2 ∧
      ((q = 0 ∧ SupAt w' s b N 0 1 (turn + 1) ys ∧ ∀ ks, Kept (D3.crash ks) 0 (upd (fun k => if k = 0 then some (turn, xs) else none) 1 (some (turn + 1, ys)))) ∨
       (q = 10 ∧ SupAt w' s b N 0 0 turn xs ∧ ∀ ks, Kept (D3.crash ks) 0 (fun k => if k = 0 then some (turn, xs) else none) ∨ Kept (D3.crash ks) 0 (upd (fun k => if k = 0 then some (turn, xs) else none) 1 (some (turn + 1, ys))))) := by
  have il := image_length (turn + 1) ys (by omega)
  have ej : (0 : Int) + (1 - 0) = ((1 : Nat) : Int) := by omega
  obtain ⟨hbut, hp⟩ := hp
  rcases hp with ⟨h1, rfl, h3, h4⟩ | ⟨h1, h2, rfl, h3, h4⟩ | ⟨h1, h2, rfl, h3, h4⟩
  · exact ⟨10, D, rfl, hbut, h3, hn, .inr ⟨rfl, h4, fun ks => .inl (hk.crash ks)⟩⟩
  · rw [ej] at h2 h3
    obtain ⟨m1, m2⟩ := alive_wr h1 1 (image (turn + 1) ys) (by omega) il (h64 1 (by omega))
    generalize D.wr ((1 : Nat) : Int) (image (turn + 1) ys) = D3 at *
    refine ⟨10, D3, rfl, hbut, h3, m1.trans hn, .inr ⟨rfl, h4, fun ks => ?_⟩⟩
    have e0 : D3.left ks 0 = (D.sec 0).now := by
      have m := m2 0
      rw [if_neg (show ¬ (0 = 1) by omega)] at m
      have f0 : (D.sec 0).loose = false := hk.f 0 (by omega)
      unfold Dv.left
      rw [m, f0]
      exact hk.l 0 (by omega)
    by_cases hks : ks.getD (D3.looseTo 1).length false
    · right
      have e1 : D3.left ks 1 = image (turn + 1) ys := by
        unfold Dv.left
        rw [m2 1, if_pos rfl, hks]
        rfl
      refine ⟨fun k hk2 => ?_, fun k _ => rfl, fun k _ => rfl⟩
      rcases (show k = 0 ∨ k = 1 by omega) with rfl | rfl
      · show Cont (some (turn, xs)) (D3.left ks 0)
        rw [e0]; exact hk.c 0 (by omega)
      · show Cont (some (turn + 1, ys)) (D3.left ks 1)
        rw [e1]; exact ⟨rfl, by omega, by omega, hy, hb⟩
    · left
      have e1 : D3.left ks 1 = (D.sec 1).now := by
        have hks2 : ks.getD (D3.looseTo 1).length false = false := by simpa using hks
        unfold Dv.left
        rw [m2 1, if_pos rfl, hks2]
        exact hk.l 1 (by omega)
      refine ⟨fun k hk2 => ?_, fun k _ => rfl, fun k _ => rfl⟩
      rcases (show k = 0 ∨ k = 1 by omega) with rfl | rfl
      · show Cont (some (turn, xs)) (D3.left ks 0)
        rw [e0]; exact hk.c 0 (by omega)
      · show Cont none (D3.left ks 1)
        rw [e1]; exact hk.c 1 (by omega)
  · rw [ej] at h2 h3
    obtain ⟨m1, m2⟩ := alive_wr h1 1 (image (turn + 1) ys) (by omega) il (h64 1 (by omega))
    obtain ⟨m3, m4⟩ := alive_fl h2
    generalize D.wr ((1 : Nat) : Int) (image (turn + 1) ys) = D3 at *
    refine ⟨0, D3.fl, rfl, hbut, h3, m3.trans (m1.trans hn), .inl ⟨rfl, h4, fun ks => ?_⟩⟩
    refine Kept.crash ⟨fun k hk2 => ?_, fun k hk2 => ?_, fun k hk2 => ?_⟩ ks
    · rw [m4 (0 + k) (by omega), m2 (0 + k)]
      rcases (show k = 0 ∨ k = 1 by omega) with rfl | rfl
      · show Cont (some (turn, xs)) _
        rw [if_neg (by omega)]; exact hk.c 0 (by omega)
      · show Cont (some (turn + 1, ys)) _
        rw [if_pos (by omega)]; exact ⟨rfl, by omega, by omega, hy, hb⟩
    · rw [m4 (0 + k) (by omega)]; rfl
    · rw [m4 (0 + k) (by omega)]; rfl
end Go.Proofs.Ytcahhopneobjbaa
