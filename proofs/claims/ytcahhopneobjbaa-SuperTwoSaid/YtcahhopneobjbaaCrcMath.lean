/- The sum as a function on 32 bits: one bit, one byte, many bytes. No program here. -/
namespace Go.Proofs.Ytcahhopneobjbaa
namespace CrcM

def poly : BitVec 32 := 3988292384#32
/-- One bit, as the Go text has it. -/
def bit (x : BitVec 32) : BitVec 32 := (x >>> 1) ^^^ (poly &&& -(x &&& 1#32))
def bitsN : Nat → BitVec 32 → BitVec 32
  | 0, x => x
  | n + 1, x => bit (bitsN n x)
def octet (c : Int) : BitVec 32 := BitVec.ofInt 32 c
def byte (x : BitVec 32) (c : Int) : BitVec 32 := bitsN 8 (x ^^^ octet c)
def many (x : BitVec 32) (bs : List Int) : BitVec 32 := bs.foldl byte x
def more (x : BitVec 32) (bs : List Int) : BitVec 32 := ~~~ (many (~~~ x) bs)
def sum (bs : List Int) : BitVec 32 := more 0#32 bs

theorem many_snoc (x : BitVec 32) (bs : List Int) (k : Nat) (h : k < bs.length) : many x (bs.take (k + 1)) = byte (many x (bs.take k)) bs[k] := by
  rw [List.take_succ_eq_append_getElem h]
  simp only [many, List.foldl_append, List.foldl_cons, List.foldl_nil]
theorem many_append (x : BitVec 32) (as bs : List Int) : many x (as ++ bs) = many (many x as) bs := by simp [many]
theorem more_append (x : BitVec 32) (as bs : List Int) : more x (as ++ bs) = more (more x as) bs := by
  simp [more, many_append]

theorem lsb_cases (x : BitVec 32) : x &&& 1#32 = 0#32 ∨ x &&& 1#32 = 1#32 := by
  have h : (x &&& 1#32).toNat = x.toNat % 2 := by
    rw [BitVec.toNat_and]; exact Nat.and_one_is_mod _
  rcases (show x.toNat % 2 = 0 ∨ x.toNat % 2 = 1 by omega) with e | e
  · left; apply BitVec.eq_of_toNat_eq; rw [h, e]; rfl
  · right; apply BitVec.eq_of_toNat_eq; rw [h, e]; rfl

theorem bit_even (x : BitVec 32) (h : x &&& 1#32 = 0#32) : bit x = x >>> 1 := by unfold bit; rw [h]; simp
theorem bit_odd (x : BitVec 32) (h : x &&& 1#32 = 1#32) : bit x = (x >>> 1) ^^^ poly := by
  unfold bit
  rw [h]
  have : poly &&& -1#32 = poly := by decide
  rw [this]

theorem and_xor_distrib (x y z : BitVec 32) : (x ^^^ y) &&& z = (x &&& z) ^^^ (y &&& z) := by
  ext i; simp; cases x[i] <;> cases y[i] <;> cases z[i] <;> rfl
theorem shr_xor (x y : BitVec 32) : (x ^^^ y) >>> 1 = (x >>> 1) ^^^ (y >>> 1) := by
  ext i; simp

theorem bit_xor (x y : BitVec 32) : bit (x ^^^ y) = bit x ^^^ bit y := by
  have hd := and_xor_distrib x y 1#32
  rcases lsb_cases x with hx | hx <;> rcases lsb_cases y with hy | hy <;> rw [hx, hy] at hd
  · rw [bit_even _ hx, bit_even _ hy, bit_even _ (by rw [hd]; decide), shr_xor]
  · rw [bit_even _ hx, bit_odd _ hy, bit_odd _ (by rw [hd]; decide), shr_xor, BitVec.xor_assoc]
  · rw [bit_odd _ hx, bit_even _ hy, bit_odd _ (by rw [hd]; decide), shr_xor]
    rw [BitVec.xor_assoc, BitVec.xor_assoc, BitVec.xor_comm (y >>> 1) poly]
  · rw [bit_odd _ hx, bit_odd _ hy, bit_even _ (by rw [hd]; decide), shr_xor]
    rw [BitVec.xor_assoc, BitVec.xor_comm (y >>> 1) poly, ← BitVec.xor_assoc poly poly]
    simp

theorem bitsN_xor (n : Nat) (x y : BitVec 32) : bitsN n (x ^^^ y) = bitsN n x ^^^ bitsN n y := by
  induction n with
  | zero => rfl
  | succ n ih => simp only [bitsN, ih, bit_xor]

theorem bit_zero : bit 0#32 = 0#32 := by decide
theorem bitsN_zero (n : Nat) : bitsN n 0#32 = 0#32 := by
  induction n with
  | zero => rfl
  | succ n ih => simp only [bitsN, ih, bit_zero]

theorem shr_zero_cases (x : BitVec 32) (h : x >>> 1 = 0#32) : x = 0#32 ∨ x = 1#32 := by
  have h' : (x >>> 1).toNat = 0 := by rw [h]; rfl
  rw [BitVec.toNat_ushiftRight, Nat.shiftRight_eq_div_pow] at h'
  have : x.toNat = 0 ∨ x.toNat = 1 := by omega
  rcases this with e | e
  · left; exact BitVec.eq_of_toNat_eq (by rw [e]; rfl)
  · right; exact BitVec.eq_of_toNat_eq (by rw [e]; rfl)

theorem bit_ne (x : BitVec 32) (h : x ≠ 0#32) : bit x ≠ 0#32 := by
  intro hb
  rcases lsb_cases x with hx | hx
  · rw [bit_even _ hx] at hb
    rcases shr_zero_cases x hb with rfl | rfl
    · exact h rfl
    · exact absurd hx (by decide)
  · rw [bit_odd _ hx] at hb
    have hb2 : x >>> 1 = poly := by
      have := congrArg (· ^^^ poly) hb
      simpa [BitVec.xor_assoc] using this
    have h' : (x >>> 1).toNat = poly.toNat := by rw [hb2]
    rw [BitVec.toNat_ushiftRight, Nat.shiftRight_eq_div_pow] at h'
    have h2 := x.isLt
    have h3 : poly.toNat = 3988292384 := rfl
    omega

theorem bitsN_ne (n : Nat) (x : BitVec 32) (h : x ≠ 0#32) : bitsN n x ≠ 0#32 := by
  induction n with
  | zero => exact h
  | succ n ih => exact bit_ne _ ih

/-- The number of 32 bits, as a value of the program holds it. -/
def V (x : BitVec 32) : Int := (x.toNat : Int)
theorem V_bounds (x : BitVec 32) : 0 ≤ V x ∧ V x < 4294967296 := by unfold V; have := x.isLt; omega
theorem V_inj {x y : BitVec 32} (h : V x = V y) : x = y := BitVec.eq_of_toNat_eq (by unfold V at h; omega)

end CrcM
end Go.Proofs.Ytcahhopneobjbaa
