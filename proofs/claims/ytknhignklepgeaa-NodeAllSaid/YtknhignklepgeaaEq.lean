/- Eq, slices.EqualFunc over it, and the reference's Eq. -/
import Derived.Test.YtknhignklepgeaaCnt
namespace Go.Proofs.Ytknhignklepgeaa
open Go.RowKit

def eqF : Fo → Fo → Bool
  | .nil, .nil => true
  | .cons k t a r, .cons k' t' a' r' => (k == k' && t == t' && eqF a a') && eqF r r'
  | .nil, .cons _ _ _ _ => false
  | .cons _ _ _ _, .nil => false
def eqE (e e' : El) : Bool := e.k == e'.k && e.t == e'.t && eqF e.kids e'.kids
theorem eqF_len : ∀ F G : Fo, F.els.length ≠ G.els.length → eqF F G = false
  | .nil, .nil, h => absurd rfl h
  | .nil, .cons _ _ _ _, _ => rfl
  | .cons _ _ _ _, .nil, _ => rfl
  | .cons k t a r, .cons k' t' a' r', h => by
    rw [eqF, eqF_len r r' (fun e => h (by rw [Fo.els, Fo.els, List.length_cons, List.length_cons, e])), Bool.and_false]
theorem eqF_true : ∀ F G : Fo, F.els.length = G.els.length → (∀ i (h1 : i < F.els.length) (h2 : i < G.els.length), eqE F.els[i] G.els[i] = true) → eqF F G = true
  | .nil, .nil, _, _ => rfl
  | .nil, .cons _ _ _ _, h, _ => by simp [Fo.els] at h
  | .cons _ _ _ _, .nil, h, _ => by simp [Fo.els] at h
  | .cons k t a r, .cons k' t' a' r', h, hi => by
    have h0 : (k == k' && t == t' && eqF a a') = true := hi 0 (by simp [Fo.els]) (by simp [Fo.els])
    have hr := eqF_true r r' (by simpa [Fo.els] using h) (fun i h1 h2 => hi (i + 1) (by simpa [Fo.els] using h1) (by simpa [Fo.els] using h2))
    rw [eqF, h0, hr]; rfl
theorem eqF_at : ∀ (F G : Fo) (i : Nat) (h1 : i < F.els.length) (h2 : i < G.els.length), eqE F.els[i] G.els[i] = false → eqF F G = false
  | .cons k t a r, .cons k' t' a' r', 0, _, _, h => by
    have h : (k == k' && t == t' && eqF a a') = false := h
    rw [eqF, h]; rfl
  | .cons k t a r, .cons k' t' a' r', i + 1, h1, h2, h => by
    rw [eqF, eqF_at r r' i (by simpa [Fo.els] using h1) (by simpa [Fo.els] using h2) h, Bool.and_false]
theorem eqF_self : ∀ F : Fo, eqF F F = true
  | .nil => rfl
  | .cons k t a r => by rw [eqF, eqF_self a, eqF_self r]; simp
theorem eqE_self (e : El) : eqE e e = true := by unfold eqE; rw [eqF_self]; simp
def QEq (n : Nat) (F : Fo) : Prop := ∀ (G : Fo) (w : World) (k t k' t' : Int) (ao ao' : Option Addr) (cap cap' : Nat), KidsV w ao cap F → KidsV w ao' cap' G →
  Calls Try.prog n #[nodeV k t ao F.els.length cap, nodeV k' t' ao' G.els.length cap'] w fun e w' => e = .returned (.bool (k == k' && t == t' && eqF F G)) ∧ Below w.heap.size w w'
set_option maxHeartbeats 2000000 in
theorem equalFunc_any (F G : Fo) (IH : ∀ e, e ∈ F.els → QEq 8 e.kids) (w : World) (ao ao' : Option Addr) (cap cap' : Nat) (hF : KidsV w ao cap F) (hG : KidsV w ao' cap' G) :
    Calls Try.prog 23 #[.slice ao F.els.length cap, .slice ao' G.els.length cap', .func (.func 8) #[] #[]] w fun e w' => e = .returned (.bool (eqF F G)) ∧ Below w.heap.size w w' := by
  have hl1 := hF.1; have hl2 := hF.2.1; have hl3 := hG.1; have hl4 := hG.2.1
  by_cases hne : F.els.length = G.els.length
  rotate_left
  · have hr := eqF_len F G hne
    have hb : ((F.els.length : Int) != G.els.length) = true := by simp; omega
    rw [hr]
    clear IH hF hG
    go_enter Try.func23, Try.ntmps23
    go_wp2
    go_ret
    exact ⟨rfl, Below.refl _ _⟩
  have hb : ((F.els.length : Int) != G.els.length) = false := by simp; omega
  have HF := Lib.hid hF; have HG := Lib.hid hG; have HIH := Lib.hid IH; have HNE := Lib.hid hne
  clear hF hG IH hne
  go_enter Try.func23, Try.ntmps23
  go_wp2
  go_loopw [17] (fun i wx => ∃ j : Nat, j ≤ F.els.length ∧ i = .int .i64 j ∧ (∀ i (h1 : i < F.els.length) (h2 : i < G.els.length), i < j → eqE F.els[i] G.els[i] = true) ∧ Below w.heap.size w wx) (fun i _ => F.els.length - (intOf i).toNat)
  case atStart => exact ⟨0, Nat.zero_le _, rfl, fun i _ _ h => absurd h (by omega), Below.refl _ _⟩
  case round =>
    obtain ⟨j, hj, rfl, hall, hB⟩ := hrel
    by_cases hlt : j < F.els.length
    · have hlt2 : j < G.els.length := by have := HNE.out; omega
      obtain ⟨a, ha, c0, c1, ao1, cap1, c2, hk1⟩ := (HF.out.below hB).nth j hlt
      have HGj := fun (W : World) (h : Below wr.heap.size wr W) => ((HG.out.below hB).below h).nth j hlt2
      have IHj := HIH.out _ (List.getElem_mem hlt)
      have hat := eqF_at F G j hlt hlt2
      have hall2 : eqE F.els[j] G.els[j] = true → ∀ i (h1 : i < F.els.length) (h2 : i < G.els.length), i < j + 1 → eqE F.els[i] G.els[i] = true := fun he i h1 h2 h3 => by
        rcases Nat.lt_or_ge i j with h | h
        · exact hall i h1 h2 h
        · have : i = j := by omega
          subst this; exact he
      have HALL := Lib.hid hall2
      have HAT := Lib.hid hat
      clear hall2 hall hat
      generalize F.els[j] = e at *
      generalize G.els[j] = f at *
      obtain ⟨ek, et, eks⟩ := e
      obtain ⟨fk, ft, fks⟩ := f
      subst ha
      obtain ⟨a', ha', d0, d1, ao2, cap2, d2, hk2⟩ := HGj (wr.alloc (.cells #[.int .i64 ek, .int .i64 et, .slice ao1 eks.els.length cap1] 26)) ((Below.refl _ _).alloc (Nat.le_refl _) _)
      subst ha'
      have HB := Lib.hid hB; have HK1 := Lib.hid hk1; have HK2 := Lib.hid hk2; have HIJ := Lib.hid IHj
      clear hB hk1 hk2 IHj HGj
      go_wp2_with (with_reducible refine halt_call ?_)
      have b2 : Below wr.heap.size wr ((wr.alloc (.cells #[.int .i64 ek, .int .i64 et, .slice ao1 eks.els.length cap1] 26)).alloc (.cells #[.int .i64 fk, .int .i64 ft, .slice ao2 fks.els.length cap2] 26)) := ((Below.refl _ _).alloc (Nat.le_refl _) _).alloc (by simp) _
      have hcall := HIJ.out fks _ ek et fk ft ao1 ao2 cap1 cap2 (HK1.out.below b2) (HK2.out.below ((Below.refl _ _).alloc (Nat.le_refl _) (.cells #[.int .i64 fk, .int .i64 ft, .slice ao2 fks.els.length cap2] 26)))
      have HB2 := Lib.hid (below_step HB.out b2)
      clear b2
      refine Halted.run (hcall.mono ?_); rintro e w3 ⟨rfl, hb3⟩
      have HB3 := Lib.hid (below_step HB2.out hb3)
      clear hcall hb3 HB2 HB HK1 HK2 HIJ
      cases hq : (ek == fk && et == ft && eqF eks fks) with
      | true =>
        go_wp2
        refine ⟨⟨j + 1, by omega, by go_num, HALL.out hq, HB3.out⟩, by simp [intOf]; omega⟩
      | false =>
        go_wp2
        go_ret
        exact ⟨by rw [HAT.out hq]; rfl, HB3.out⟩
    · have hje : j = F.els.length := by omega
      subst hje
      have hr := eqF_true F G HNE.out (fun i h1 h2 => hall i h1 h2 h1)
      have HB := Lib.hid hB
      clear hB hall
      go_wp2
      go_ret
      exact ⟨by rw [hr]; rfl, HB.out⟩
theorem tri_cells {w : World} {b : Nat} {k t : Int} {v : Value} {ty : TypeId} (h : w.heap[b]? = some (.cells #[.int .i64 k, .int .i64 t, v] ty (0, 0))) :
    w.cell? ⟨b, 0, none⟩ = some (.int .i64 k) ∧ w.cell? ⟨b, 1, none⟩ = some (.int .i64 t) ∧ w.cell? ⟨b, 2, none⟩ = some v := ⟨blk_cell h 0, blk_cell h 1, blk_cell h 2⟩
set_option maxHeartbeats 2000000 in
theorem eq_any (F : Fo) : QEq 8 F := by
  refine Fo.ind (Q := QEq 8) (fun F IH G w k t k' t' ao ao' cap cap' hF hG => ?_) F
  have b2 : Below w.heap.size w ((w.alloc (.cells #[.int .i64 k, .int .i64 t, .slice ao F.els.length cap] 26)).alloc (.cells #[.int .i64 k', .int .i64 t', .slice ao' G.els.length cap'] 26)) := ((Below.refl _ _).alloc (Nat.le_refl _) _).alloc (by simp) _
  have Hf := Lib.hid (equalFunc_any F G IH _ ao ao' cap cap' (hF.below b2) (hG.below b2))
  have B2 := Lib.hid b2
  clear IH hF hG b2
  unfold nodeV
  by_cases hk : k = k'
  · subst hk
    by_cases ht : t = t'
    · subst ht
      have e : (k == k && t == t && eqF F G) = eqF F G := by simp
      rw [e]
      clear e
      go_enter Try.func8, Try.ntmps8
      go_wp2_with (with_reducible refine halt_call ?_)
      refine Halted.run (Hf.out.mono ?_); rintro e w3 ⟨rfl, hb3⟩
      have HB3 := Lib.hid (below_step B2.out hb3)
      clear Hf hb3 B2
      go_wp2
      go_ret
      exact ⟨rfl, HB3.out⟩
    · have e : (k == k && t == t' && eqF F G) = false := by simp [ht]
      rw [e]
      clear e Hf
      go_enter Try.func8, Try.ntmps8
      go_wp2
      go_ret
      exact ⟨rfl, B2.out⟩
  · have e : (k == k' && t == t' && eqF F G) = false := by simp [hk]
    rw [e]
    clear e Hf
    go_enter Try.func8, Try.ntmps8
    go_wp2
    go_ret
    exact ⟨rfl, B2.out⟩
end Go.Proofs.Ytknhignklepgeaa
