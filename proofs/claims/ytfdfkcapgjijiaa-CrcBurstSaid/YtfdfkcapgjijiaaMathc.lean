/- A text of which up to four bytes behind one another were changed has another sum. No program here. -/
import Derived.Test.YtfdfkcapgjijiaaMathb
namespace Go.Proofs.Ytfdfkcapgjijiaa
namespace CrcM

theorem xor_eq_zero {x y : BitVec 32} (h : x ^^^ y = 0#32) : x = y := by
  have := congrArg (· ^^^ y) h
  simpa [BitVec.xor_assoc] using this
theorem bitsN_inj (n : Nat) {x y : BitVec 32} (h : bitsN n x = bitsN n y) : x = y := by
  by_cases he : x = y
  · exact he
  · exfalso
    have h1 : x ^^^ y ≠ 0#32 := fun e => he (xor_eq_zero e)
    exact bitsN_ne n _ h1 (by rw [bitsN_xor, h, BitVec.xor_self])
theorem xor_right_inj {x y c : BitVec 32} (h : x ^^^ c = y ^^^ c) : x = y := by
  have := congrArg (· ^^^ c) h
  simpa [BitVec.xor_assoc] using this
theorem byte_inj {x y : BitVec 32} {c : Int} (h : byte x c = byte y c) : x = y := xor_right_inj (bitsN_inj 8 h)
theorem many_inj : ∀ (t : List Int) {x y : BitVec 32}, many x t = many y t → x = y
  | [], _, _, h => h
  | _ :: t, _, _, h => byte_inj (many_inj t h)

theorem bit_double (z : Nat) (h : z * 2 < 4294967296) : bit (BitVec.ofNat 32 (z * 2)) = BitVec.ofNat 32 z := by
  have e : BitVec.ofNat 32 (z * 2) &&& 1#32 = 0#32 := by
    apply BitVec.eq_of_toNat_eq
    rw [BitVec.toNat_and, BitVec.toNat_ofNat, show (1#32).toNat = 1 from rfl, Nat.and_one_is_mod]
    simp
  rw [bit_even _ e]
  apply BitVec.eq_of_toNat_eq
  rw [BitVec.toNat_ushiftRight, BitVec.toNat_ofNat, BitVec.toNat_ofNat, Nat.shiftRight_eq_div_pow]
  omega
theorem bitsN_shl : ∀ (k z : Nat), z * 2 ^ k < 4294967296 → bitsN k (BitVec.ofNat 32 (z * 2 ^ k)) = BitVec.ofNat 32 z
  | 0, z, _ => by simp [bitsN]
  | k + 1, z, h => by
    have e : z * 2 ^ (k + 1) = z * 2 * 2 ^ k := by rw [Nat.pow_succ, Nat.mul_assoc, Nat.mul_comm 2]
    have hp : 1 ≤ 2 ^ k := Nat.one_le_two_pow
    have h2 : z * 2 < 4294967296 := by
      rw [e] at h
      exact Nat.lt_of_le_of_lt (Nat.le_mul_of_pos_right _ hp) h
    rw [e]
    show bit (bitsN k _) = _
    rw [bitsN_shl k (z * 2) (by rw [← e]; exact h), bit_double z h2]

/-- The first bytes as one number. -/
def word : List Int → Nat
  | [] => 0
  | c :: x => c.toNat ^^^ (word x * 256)
theorem word_lt : ∀ (x : List Int) (n : Nat), x.length ≤ n → Bytes x → word x < 2 ^ (8 * n)
  | [], n, _, _ => Nat.two_pow_pos _
  | c :: x, n, hn, hb => by
    obtain ⟨m, rfl⟩ : ∃ m, n = m + 1 := ⟨n - 1, by simp at hn; omega⟩
    have hc := hb c (by simp)
    have ih := word_lt x m (by simpa using hn) (fun z hz => hb z (by simp [hz]))
    have e : 2 ^ (8 * (m + 1)) = 2 ^ (8 * m) * 256 := by rw [show 8 * (m + 1) = 8 * m + 8 by omega, Nat.pow_add]
    have hp : 1 ≤ 2 ^ (8 * m) := Nat.one_le_two_pow
    refine Nat.xor_lt_two_pow ?_ ?_ <;> rw [e]
    · omega
    · exact (Nat.mul_lt_mul_right (by omega)).2 ih
theorem many_zero : ∀ (x : List Int) (y : BitVec 32), x.length ≤ 4 → Bytes x → many y x = 0#32 → y = BitVec.ofNat 32 (word x)
  | [], y, _, _, h => h
  | c :: x, y, hl, hb, h => by
    have hc := hb c (by simp)
    have hb' : Bytes x := fun z hz => hb z (by simp [hz])
    have ih := many_zero x (byte y c) (by simp at hl; omega) hb' h
    have hw := word_lt x 3 (by simpa using hl) hb'
    have hs := bitsN_shl 8 (word x) (by omega)
    have e : y ^^^ octet c = BitVec.ofNat 32 (word x * 2 ^ 8) := bitsN_inj 8 (ih.trans hs.symm)
    have e2 : y = octet c ^^^ BitVec.ofNat 32 (word x * 2 ^ 8) := by
      rw [← e, BitVec.xor_comm y, ← BitVec.xor_assoc, BitVec.xor_self, BitVec.zero_xor]
    rw [e2]
    apply BitVec.eq_of_toNat_eq
    have hw2 := word_lt (c :: x) 4 hl hb
    rw [BitVec.toNat_xor, octet_toNat hc.1 hc.2, BitVec.toNat_ofNat, BitVec.toNat_ofNat, Nat.mod_eq_of_lt (by omega), Nat.mod_eq_of_lt (by simpa using hw2)]
    rfl
theorem word_zero : ∀ (x : List Int), Bytes x → word x = 0 → ∀ c ∈ x, c = 0
  | [], _, _, c, hc => by cases hc
  | a :: x, hb, h, c, hc => by
    have ha := hb a (by simp)
    have e : a.toNat = word x * 256 := by
      have h' : a.toNat ^^^ (word x * 256) = 0 := h
      have := congrArg (· ^^^ (word x * 256)) h'
      simpa [Nat.xor_assoc] using this
    have e0 : word x = 0 := by omega
    rcases List.mem_cons.1 hc with rfl | hc
    · omega
    · exact word_zero x (fun z hz => hb z (by simp [hz])) e0 c hc

theorem burst (p m x t : List Int) (hl : m.length = x.length) (h4 : x.length ≤ 4) (hm : Bytes m) (hx : Bytes x) (hsome : ∃ c ∈ x, c ≠ 0) :
    sum (p ++ m ++ t) ≠ sum (p ++ List.zipWith bx m x ++ t) := by
  intro h
  have h1 : many (~~~ 0#32) (p ++ m ++ t) = many (~~~ 0#32) (p ++ List.zipWith bx m x ++ t) := by
    have := congrArg (~~~ ·) h
    simpa [sum, more] using this
  rw [many_append, many_append, many_append, many_append] at h1
  have h2 := many_inj t h1
  have e := many_zip m x (many (~~~ 0#32) p) 0#32 hl hm hx
  rw [BitVec.xor_zero] at e
  rw [e] at h2
  have h3 : many 0#32 x = 0#32 := by
    have h4 := congrArg (fun z => many (many (~~~ 0#32) p) m ^^^ z) h2
    simp only [BitVec.xor_self, ← BitVec.xor_assoc, BitVec.zero_xor] at h4
    exact h4.symm
  have h5 := many_zero x 0#32 h4 hx h3
  have hw := word_lt x 4 h4 hx
  have h6 : word x = 0 := by
    have h7 : (BitVec.ofNat 32 (word x)).toNat = 0 := by rw [← h5]; rfl
    rw [BitVec.toNat_ofNat, Nat.mod_eq_of_lt (by omega)] at h7
    exact h7
  obtain ⟨c, hc, hne⟩ := hsome
  exact hne (word_zero x hx h6 c hc)

/-- The text xs of which k bytes from p on are mixed with ys. -/
def mix (xs ys : List Int) (p : Nat) : Nat → List Int
  | 0 => xs
  | k + 1 => (mix xs ys p k).set (p + k) (bx (xs.getD (p + k) 0) (ys.getD k 0))
theorem mix_length (xs ys : List Int) (p : Nat) : ∀ k, (mix xs ys p k).length = xs.length
  | 0 => rfl
  | k + 1 => by rw [mix, List.length_set, mix_length xs ys p k]
theorem mix_at (xs ys : List Int) (p : Nat) : ∀ (k i : Nat), i < xs.length → (mix xs ys p k)[i]? = if p ≤ i ∧ i < p + k then some (bx (xs.getD i 0) (ys.getD (i - p) 0)) else xs[i]?
  | 0, i, _ => by rw [if_neg (by omega)]; rfl
  | k + 1, i, hi => by
    rw [mix, List.getElem?_set, mix_length]
    by_cases e : p + k = i
    · subst e
      rw [if_pos rfl, if_pos hi, if_pos (by omega), Nat.add_sub_cancel_left]
    · rw [if_neg e, mix_at xs ys p k i hi]
      by_cases h : p ≤ i ∧ i < p + k
      · rw [if_pos h, if_pos (by omega)]
      · rw [if_neg h, if_neg (by omega)]
theorem mix_all (xs ys : List Int) (p : Nat) (h : p + ys.length ≤ xs.length) :
    mix xs ys p ys.length = xs.take p ++ List.zipWith bx ((xs.drop p).take ys.length) ys ++ xs.drop (p + ys.length) := by
  apply List.ext_getElem?
  intro i
  have e1 : (xs.take p).length = p := by rw [List.length_take]; omega
  have e2 : (List.zipWith bx ((xs.drop p).take ys.length) ys).length = ys.length := by simp; omega
  rcases Nat.lt_or_ge i xs.length with hi | hi
  · rw [mix_at xs ys p _ i hi]
    by_cases h1 : i < p
    · rw [if_neg (by omega), List.append_assoc, List.getElem?_append_left (by omega), List.getElem?_take_of_lt h1]
    · by_cases h2 : i < p + ys.length
      · rw [if_pos (by omega), List.getElem?_append_left (by rw [List.length_append]; omega), List.getElem?_append_right (by omega), e1]
        have h3 : i - p < ys.length := by omega
        have h4 : i - p < ((xs.drop p).take ys.length).length := by simp; omega
        rw [List.getElem?_zipWith, List.getElem?_eq_getElem h4, List.getElem?_eq_getElem h3]
        simp only [List.getElem_take, List.getElem_drop]
        have h5 : p + (i - p) = i := by omega
        simp [h5, h3, List.getElem?_eq_getElem hi]
      · rw [if_neg (by omega), List.getElem?_append_right (by rw [List.length_append]; omega), List.length_append, e1, e2, List.getElem?_drop]
        congr 1
        omega
  · rw [List.getElem?_eq_none (by rw [mix_length]; exact hi), List.getElem?_eq_none]
    rw [List.length_append, List.length_append, e1, e2, List.length_drop]
    omega
theorem mix_ne (xs ys : List Int) (p : Nat) (h : p + ys.length ≤ xs.length) (h4 : ys.length ≤ 4) (hx : Bytes xs) (hy : Bytes ys) (hsome : ∃ c ∈ ys, c ≠ 0) :
    sum xs ≠ sum (mix xs ys p ys.length) := by
  rw [mix_all xs ys p h]
  have e : xs = xs.take p ++ (xs.drop p).take ys.length ++ xs.drop (p + ys.length) := by
    rw [List.append_assoc, ← List.drop_drop, List.take_append_drop, List.take_append_drop]
  have hb := burst (xs.take p) ((xs.drop p).take ys.length) ys (xs.drop (p + ys.length)) (by simp; omega) h4 (fun z hz => hx z (List.mem_of_mem_drop (List.mem_of_mem_take hz))) hy hsome
  rw [← e] at hb
  exact hb
theorem mix_bytes (xs ys : List Int) (p : Nat) (hx : Bytes xs) (hy : Bytes ys) : ∀ k, p + k ≤ xs.length → k ≤ ys.length → Bytes (mix xs ys p k)
  | 0, _, _ => hx
  | k + 1, h1, h2 => by
    intro z hz
    have ih := mix_bytes xs ys p hx hy k (by omega) (by omega)
    rcases List.mem_or_eq_of_mem_set hz with hz | rfl
    · exact ih z hz
    · have e1 : xs.getD (p + k) 0 = xs[p + k]'(by omega) := by simp [List.getD_eq_getElem?_getD, List.getElem?_eq_getElem (show p + k < xs.length by omega)]
      have e2 : ys.getD k 0 = ys[k]'(by omega) := by simp [List.getD_eq_getElem?_getD, List.getElem?_eq_getElem (show k < ys.length by omega)]
      rw [e1, e2]
      have b1 := hx _ (List.getElem_mem (show p + k < xs.length by omega))
      have b2 := hy _ (List.getElem_mem (show k < ys.length by omega))
      exact bx_bounds b1.1 b1.2 b2.1 b2.2

end CrcM
end Go.Proofs.Ytfdfkcapgjijiaa
