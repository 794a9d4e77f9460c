/- ScopeBack, in plain words. -/
import Derived.Test.YtjobdofnehajpaaOpen
namespace Go.Proofs.Ytjobdofnehajpaa
open Go.RowKit

/-- A name is declared, if it is not yet. -/
def addM (m : Mp) (name : ByteArray) (d : Dc) : Mp := if (look m name).isSome then m else m ++ [(name, d)]
theorem look_snoc (m : Mp) (name x : ByteArray) (d : Dc) : look (m ++ [(name, d)]) x = (look m x).or (if x == name then some d else none) := by
  unfold look
  rw [List.find?_append]
  cases m.find? (fun p => x == p.1) with
  | some p => rfl
  | none =>
    by_cases h : (x == name) = true
    · simp [h]
    · have h' : (x == name) = false := by simpa using h
      simp [h']
theorem self_beq (x : ByteArray) : (x == x) = true := by simp [MapKept.bytes_beq]
theorem look_addM (m : Mp) (name : ByteArray) (d : Dc) : look (addM m name d) name = some ((look m name).getD d) := by
  unfold addM
  cases h : look m name with
  | some e => rw [if_pos (show (some e : Option Dc).isSome = true from rfl), h]; rfl
  | none => rw [if_neg (show ¬ (none : Option Dc).isSome = true by decide), look_snoc, h, self_beq]; rfl
theorem look_keeps (m : Mp) (name x : ByteArray) (d e : Dc) (h : look m x = some e) : look (addM m name d) x = some e := by
  unfold addM
  split
  · exact h
  · rw [look_snoc, h]; rfl
theorem addM_file (m : Mp) (name : ByteArray) (d : Dc) (c : Int) (hd : d.f = c) (h : ∀ x e, look m x = some e → e.f = c) : ∀ x e, look (addM m name d) x = some e → e.f = c := by
  intro x e he
  unfold addM at he
  split at he
  · exact h x e he
  · rw [look_snoc] at he
    cases hx : look m x with
    | some e' => rw [hx] at he; cases he; exact h x e hx
    | none =>
      rw [hx] at he
      by_cases hq : (x == name) = true
      · rw [hq] at he; cases he; exact hd
      · have hq' : (x == name) = false := by simpa using hq
        rw [hq'] at he; cases he
/-- The names of a list, one behind the other; each bears c. -/
def decl (c : Int) (xs : List ByteArray) : Nat → Mp
  | 0 => []
  | k + 1 => addM (decl c xs k) (cutS (xs.getD k ByteArray.empty) 10) ⟨c, k, 0⟩
theorem decl_file (c : Int) (xs : List ByteArray) : ∀ k x e, look (decl c xs k) x = some e → e.f = c
  | 0, x, e, h => by cases h
  | k + 1, x, e, h => addM_file _ _ _ c rfl (decl_file c xs k) x e h
theorem decl_has (c : Int) (xs : List ByteArray) (j : Nat) : ∀ k, j < k → ∃ e, look (decl c xs k) (cutS (xs.getD j ByteArray.empty) 10) = some e
  | k + 1, h => by
    by_cases hj : j = k
    · subst hj; exact ⟨_, look_addM _ _ _⟩
    · obtain ⟨e, he⟩ := decl_has c xs j k (by omega)
      exact ⟨e, look_keeps _ _ _ _ _ he⟩
theorem add_to (w : World) (s : Nat) (F : Nat → Prop) (ms : List Mp) (m : Mp) (name : ByteArray) (d1 d2 d3 : Int) (h : ScAt w s F (ms ++ [m])) (hlen : ms.length < 100000) :
    Calls Try.prog 12 #[.pointer (some ⟨s, 0, none⟩), .string name, .agg #[.int .i64 d1, .int .i64 d2, .int .i64 d3]] w fun e w' => ∃ b : Bool, e = .returned (.bool b) ∧ ScAt w' s F (ms ++ [addM m name ⟨d1, d2, d3⟩]) ∧ Fo F w w' :=
  (add_any w s F ms m name ⟨d1, d2, d3⟩ h hlen).mono fun _ _ ⟨h1, h2, h3⟩ => ⟨_, h1, h2, h3⟩
theorem findD_one (m : Mp) (x : ByteArray) : findD [m] x = look m x := by
  show (look m x).or none = look m x
  cases look m x <;> rfl
theorem cut10 (w : World) (s : ByteArray) : Calls Try.prog 9 #[.string s, .int .i64 10] w fun e w' => e = .returned (.string (cutS s 10)) ∧ w = w' := cut_any w s 10 (by omega)
theorem getD_at {α : Type} (xs : List α) (k : Nat) (d : α) (h : k < xs.length) : xs.getD k d = xs[k] := by simp [List.getD_eq_getElem?_getD, List.getElem?_eq_getElem h]
end Go.Proofs.Ytjobdofnehajpaa
