/- ScopeAll, in plain words: the list of all names that stand, one scope behind the other. -/
import Derived.Test.YtjobdofnehajpaaBackMath
namespace Go.Proofs.Ytjobdofnehajpaa
open Go.RowKit

structure En where
  name : ByteArray
  deep : Int
  tok : Int
def En.z : En := ⟨ByteArray.empty, 0, 0⟩
def ents : List Mp → List En := fun ms => (List.range ms.length).flatMap (fun j => (ms.getD j []).map (fun p => ⟨p.1, (j : Int) + 1, p.2.f⟩))
theorem ents_snoc (ms : List Mp) (m : Mp) : ents (ms ++ [m]) = ents ms ++ m.map (fun p => ⟨p.1, (ms.length : Int) + 1, p.2.f⟩) := by
  unfold ents
  rw [List.length_append, List.length_singleton, List.range_succ, List.flatMap_append]
  congr 1
  · rw [List.flatMap_def, List.flatMap_def]
    congr 1
    apply List.map_congr_left
    intro j hj
    have : j < ms.length := by simpa using hj
    rw [List.getD_eq_getElem?_getD, List.getD_eq_getElem?_getD, List.getElem?_append_left this]
  · simp
/-- The last place at which p holds. -/
def li (p : En → Bool) (E : List En) : Nat → Int
  | 0 => -1
  | q + 1 => if p (E.getD q En.z) then q else li p E q
theorem li_lt (p : En → Bool) (E : List En) : ∀ q, li p E q < q ∧ -1 ≤ li p E q
  | 0 => ⟨by show (-1 : Int) < 0; omega, Int.le_refl _⟩
  | q + 1 => by
    have := li_lt p E q
    unfold li
    split <;> omega
theorem li_at (p : En → Bool) (E : List En) : ∀ q, 0 ≤ li p E q → p (E.getD (li p E q).toNat En.z) = true
  | 0, h => absurd h (by show ¬ (0 : Int) ≤ -1; omega)
  | q + 1, h => by
    unfold li at h ⊢
    by_cases hp : p (E.getD q En.z) = true
    · rw [if_pos hp]; simpa using hp
    · rw [if_neg hp] at h ⊢
      exact li_at p E q h
theorem li_none (p : En → Bool) (E : List En) : ∀ q, li p E q < 0 → ∀ j, j < q → p (E.getD j En.z) = false
  | q + 1, h, j, hj => by
    unfold li at h
    by_cases hp : p (E.getD q En.z) = true
    · rw [if_pos hp] at h; omega
    · rw [if_neg hp] at h
      by_cases e : j = q
      · subst e; simpa using hp
      · exact li_none p E q h j (by omega)
theorem li_left (p : En → Bool) (A B : List En) : ∀ q, q ≤ A.length → li p (A ++ B) q = li p A q
  | 0, _ => rfl
  | q + 1, h => by
    unfold li
    rw [li_left p A B q (by omega), List.getD_eq_getElem?_getD, List.getD_eq_getElem?_getD, List.getElem?_append_left (by omega)]
theorem li_right (p : En → Bool) (A B : List En) : ∀ q, q ≤ B.length → li p (A ++ B) (A.length + q) = if 0 ≤ li p B q then A.length + li p B q else li p A A.length
  | 0, _ => by rw [Nat.add_zero, li_left p A B _ (Nat.le_refl _)]; rfl
  | q + 1, h => by
    have e : li p (A ++ B) (A.length + (q + 1)) = if p ((A ++ B).getD (A.length + q) En.z) then ((A.length + q : Nat) : Int) else li p (A ++ B) (A.length + q) := rfl
    have e2 : li p B (q + 1) = if p (B.getD q En.z) then (q : Int) else li p B q := rfl
    have e3 : (A ++ B).getD (A.length + q) En.z = B.getD q En.z := by
      rw [List.getD_eq_getElem?_getD, List.getD_eq_getElem?_getD, List.getElem?_append_right (by omega)]; congr 2; omega
    rw [e, e2, e3, li_right p A B q (by omega)]
    by_cases hp : p (B.getD q En.z) = true
    · rw [if_pos hp, if_pos hp, if_pos (by omega)]; omega
    · rw [if_neg hp, if_neg hp]
/-- What the scopes hold: each name once a scope, each declaration of its own make. -/
structure Tidy (ms : List Mp) : Prop where
  nd : ∀ m, m ∈ ms → (m.map Prod.fst).Nodup
  ok : ∀ m, m ∈ ms → ∀ p, p ∈ m → p.2 = ⟨p.2.f, p.2.f + 1, 3⟩ ∧ 0 ≤ p.2.f ∧ p.2.f < 1000
theorem look_mem (m : Mp) (x : ByteArray) (d : Dc) (h : look m x = some d) : (x, d) ∈ m := by
  unfold look at h
  cases hf : m.find? (fun p => x == p.1) with
  | none => rw [hf] at h; cases h
  | some p =>
    rw [hf] at h
    cases h
    have h1 := List.mem_of_find?_eq_some hf
    have h2 : (x == p.1) = true := by simpa using List.find?_some hf
    rw [MapKept.bytes_beq] at h2
    subst h2
    exact h1
theorem mem_look (m : Mp) (x : ByteArray) (d : Dc) (h : (x, d) ∈ m) (hn : (m.map Prod.fst).Nodup) : look m x = some d := by
  induction m with
  | nil => cases h
  | cons p m ih =>
    rw [List.map_cons, List.nodup_cons] at hn
    rcases List.mem_cons.1 h with e | h
    · subst e; exact look_self _ _ _
    · have hne : ¬ (x == p.1) = true := fun e => by
        rw [MapKept.bytes_beq] at e
        subst e
        exact hn.1 (List.mem_map.2 ⟨_, h, rfl⟩)
      have hne' : (x == p.1) = false := by simpa using hne
      have := ih h hn.2
      unfold look at this ⊢
      rw [List.find?_cons, hne']
      exact this
/-- A name, a name in a scope. -/
def isN (x : ByteArray) (e : En) : Bool := e.name == x
def isH (x : ByteArray) (d : Int) (e : En) : Bool := e.name == x && e.deep == d
def mapE (m : Mp) (d : Int) : List En := m.map (fun p => ⟨p.1, d, p.2.f⟩)
theorem mapE_getD (m : Mp) (d : Int) (j : Nat) (h : j < m.length) : (mapE m d).getD j En.z = ⟨m[j].1, d, m[j].2.f⟩ := by
  unfold mapE
  simp [List.getD_eq_getElem?_getD, List.getElem?_eq_getElem h]
theorem beq_comm' (a b : ByteArray) : (a == b) = (b == a) := by
  by_cases h : a = b
  · subst h; rfl
  · have h1 : ¬ (a == b) = true := fun e => h ((MapKept.bytes_beq _ _).1 e)
    have h2 : ¬ (b == a) = true := fun e => h ((MapKept.bytes_beq _ _).1 e).symm
    rw [Bool.not_eq_true] at h1 h2
    rw [h1, h2]
/-- In one scope: the name is there just if it is on the list; and its declaration. -/
theorem li_look (m : Mp) (x : ByteArray) (d : Int) (hn : (m.map Prod.fst).Nodup) (p : En → Bool) (hp : ∀ e, e.deep = d → p e = (e.name == x)) :
    (0 ≤ li p (mapE m d) m.length ↔ (look m x).isSome = true) ∧ (0 ≤ li p (mapE m d) m.length → ∃ e, look m x = some e ∧ ((mapE m d).getD (li p (mapE m d) m.length).toNat En.z).tok = e.f) := by
  have key : 0 ≤ li p (mapE m d) m.length → ∃ e, look m x = some e ∧ ((mapE m d).getD (li p (mapE m d) m.length).toNat En.z).tok = e.f := by
    intro h
    have hl := li_lt p (mapE m d) m.length
    have ha := li_at p (mapE m d) m.length h
    generalize hq : (li p (mapE m d) m.length).toNat = q at *
    have hq2 : q < m.length := by omega
    rw [mapE_getD m d q hq2] at ha ⊢
    rw [hp _ rfl, MapKept.bytes_beq] at ha
    exact ⟨m[q].2, mem_look m x _ (by rw [← ha]; exact List.getElem_mem _) hn, rfl⟩
  refine ⟨⟨fun h => ?_, fun h => ?_⟩, key⟩
  · obtain ⟨e, he, _⟩ := key h; rw [he]; rfl
  · apply Classical.byContradiction
    intro hc
    obtain ⟨e, he⟩ := Option.isSome_iff_exists.1 h
    obtain ⟨j, hj, hje⟩ := List.getElem_of_mem (look_mem m x e he)
    have := li_none p (mapE m d) m.length (by omega) j hj
    rw [mapE_getD m d j hj, hp _ rfl, hje, self_beq] at this
    cases this
theorem ents_deep (ms : List Mp) : ∀ e, e ∈ ents ms → 1 ≤ e.deep ∧ e.deep ≤ ms.length := by
  intro e he
  unfold ents at he
  obtain ⟨j, hj, hm⟩ := List.mem_flatMap.1 he
  obtain ⟨p, _, rfl⟩ := List.mem_map.1 hm
  have : j < ms.length := by simpa using hj
  constructor
  · show 1 ≤ (j : Int) + 1; omega
  · show (j : Int) + 1 ≤ ms.length; omega
theorem li_all_false (p : En → Bool) (E : List En) (h : ∀ e, e ∈ E → p e = false) : ∀ q, q ≤ E.length → li p E q = -1
  | 0, _ => rfl
  | q + 1, hq => by
    unfold li
    rw [getD_at E q En.z (by omega), h _ (List.getElem_mem _)]
    exact li_all_false p E h q (by omega)
/-- HERE: the innermost scope's. -/
theorem here_all (ms : List Mp) (m : Mp) (x : ByteArray) (ht : Tidy (ms ++ [m])) :
    (0 ≤ li (isH x ((ms.length : Int) + 1)) (ents (ms ++ [m])) (ents (ms ++ [m])).length ↔ (look m x).isSome = true) ∧
    (0 ≤ li (isH x ((ms.length : Int) + 1)) (ents (ms ++ [m])) (ents (ms ++ [m])).length → ∃ e, look m x = some e ∧ ((ents (ms ++ [m])).getD (li (isH x ((ms.length : Int) + 1)) (ents (ms ++ [m])) (ents (ms ++ [m])).length).toNat En.z).tok = e.f) := by
  have hl := li_look m x ((ms.length : Int) + 1) (ht.nd m (by simp)) (isH x ((ms.length : Int) + 1)) (fun e he => by simp [isH, he])
  rw [ents_snoc]
  have eb : m.map (fun p => (⟨p.1, (ms.length : Int) + 1, p.2.f⟩ : En)) = mapE m ((ms.length : Int) + 1) := rfl
  have el : (mapE m ((ms.length : Int) + 1)).length = m.length := by simp [mapE]
  rw [eb, List.length_append, el, li_right _ _ _ _ (by omega), li_all_false _ (ents ms) (fun e he => by
    have := ents_deep ms e he
    have hne : ¬ e.deep = (ms.length : Int) + 1 := by omega
    simp [isH, hne]) _ (Nat.le_refl _)]
  have hlt := li_lt (isH x ((ms.length : Int) + 1)) (mapE m ((ms.length : Int) + 1)) m.length
  by_cases h0 : 0 ≤ li (isH x ((ms.length : Int) + 1)) (mapE m ((ms.length : Int) + 1)) m.length
  · rw [if_pos h0]
    refine ⟨⟨fun _ => hl.1.1 h0, fun _ => by omega⟩, fun _ => ?_⟩
    obtain ⟨e, he, htok⟩ := hl.2 h0
    refine ⟨e, he, ?_⟩
    rw [← htok, List.getD_eq_getElem?_getD, List.getElem?_append_right (by omega), List.getD_eq_getElem?_getD]
    congr 3
    omega
  · rw [if_neg h0]
    exact ⟨⟨fun h => absurd h (by omega), fun h => absurd (hl.1.2 h) h0⟩, fun h => absurd h (by omega)⟩
/-- SOME: the innermost scope's that has it. -/
theorem some_all (x : ByteArray) : ∀ (n : Nat) (ms : List Mp), ms.length = n → Tidy ms →
    (0 ≤ li (isN x) (ents ms) (ents ms).length ↔ (findD ms x).isSome = true) ∧
    (0 ≤ li (isN x) (ents ms) (ents ms).length → ∃ e, findD ms x = some e ∧ (e = ⟨e.f, e.f + 1, 3⟩ ∧ 0 ≤ e.f ∧ e.f < 1000) ∧ ((ents ms).getD (li (isN x) (ents ms) (ents ms).length).toNat En.z).tok = e.f)
  | 0, ms, hn, _ => by
    have : ms = [] := List.length_eq_zero_iff.1 hn
    subst this
    exact ⟨⟨fun h => absurd h (show ¬ (0 : Int) ≤ -1 by omega), fun h => by cases h⟩, fun h => absurd h (show ¬ (0 : Int) ≤ -1 by omega)⟩
  | n + 1, ms, hn, ht => by
    obtain ⟨ms0, m, rfl⟩ : ∃ ms0 m, ms = ms0 ++ [m] := by
      have hne : ms ≠ [] := fun e => by rw [e] at hn; cases hn
      exact ⟨ms.dropLast, ms.getLast hne, (List.dropLast_concat_getLast hne).symm⟩
    have ih := some_all x n ms0 (by simpa using hn) ⟨fun m' hm => ht.nd m' (by simp [hm]), fun m' hm => ht.ok m' (by simp [hm])⟩
    have hl := li_look m x ((ms0.length : Int) + 1) (ht.nd m (by simp)) (isN x) (fun e _ => rfl)
    rw [ents_snoc, findD_snoc]
    have eb : m.map (fun p => (⟨p.1, (ms0.length : Int) + 1, p.2.f⟩ : En)) = mapE m ((ms0.length : Int) + 1) := rfl
    have el : (mapE m ((ms0.length : Int) + 1)).length = m.length := by simp [mapE]
    rw [eb, List.length_append, el, li_right _ _ _ _ (by omega)]
    have hlt := li_lt (isN x) (mapE m ((ms0.length : Int) + 1)) m.length
    have hlt2 := li_lt (isN x) (ents ms0) (ents ms0).length
    by_cases h0 : 0 ≤ li (isN x) (mapE m ((ms0.length : Int) + 1)) m.length
    · rw [if_pos h0]
      obtain ⟨e, he, htok⟩ := hl.2 h0
      rw [he, Option.some_or]
      refine ⟨⟨fun _ => rfl, fun _ => by omega⟩, fun _ => ⟨e, rfl, ht.ok m (by simp) _ (look_mem m x e he), ?_⟩⟩
      rw [← htok, List.getD_eq_getElem?_getD, List.getElem?_append_right (by omega), List.getD_eq_getElem?_getD]
      congr 3
      omega
    · rw [if_neg h0]
      have hno : look m x = none := by
        cases h : look m x with
        | none => rfl
        | some e => exact absurd (hl.1.2 (by rw [h]; rfl)) h0
      rw [hno, Option.none_or]
      refine ⟨ih.1, fun h => ?_⟩
      obtain ⟨e, h1, h2, h3⟩ := ih.2 h
      refine ⟨e, h1, h2, ?_⟩
      rw [← h3, List.getD_eq_getElem?_getD, List.getD_eq_getElem?_getD, List.getElem?_append_left (by omega)]
end Go.Proofs.Ytjobdofnehajpaa
