/- The sum of an exclusive or, and of a text of which up to four bytes behind one another were changed. No program here. -/
import Derived.Test.YtfdfkcapgjijiaaMath
namespace Go.Proofs.Ytfdfkcapgjijiaa
namespace CrcM

def bx (a b : Int) : Int := ((a.toNat ^^^ b.toNat : Nat) : Int)
theorem bx_bounds {a b : Int} (_h0 : 0 ≤ a) (h1 : a < 256) (_h2 : 0 ≤ b) (h3 : b < 256) : 0 ≤ bx a b ∧ bx a b < 256 := by
  have : a.toNat ^^^ b.toNat < 2 ^ 8 := Nat.xor_lt_two_pow (by omega) (by omega)
  unfold bx
  omega
theorem octet_toNat {c : Int} (h0 : 0 ≤ c) (h1 : c < 256) : (octet c).toNat = c.toNat := by
  unfold octet; rw [BitVec.toNat_ofInt]; omega
theorem octet_bx {a b : Int} (h0 : 0 ≤ a) (h1 : a < 256) (h2 : 0 ≤ b) (h3 : b < 256) : octet (bx a b) = octet a ^^^ octet b := by
  have hb := bx_bounds h0 h1 h2 h3
  apply BitVec.eq_of_toNat_eq
  rw [BitVec.toNat_xor, octet_toNat hb.1 hb.2, octet_toNat h0 h1, octet_toNat h2 h3]
  rfl
def Bytes (bs : List Int) : Prop := ∀ x ∈ bs, 0 ≤ x ∧ x < 256
theorem bytes_zip {xs ys : List Int} (hx : Bytes xs) (hy : Bytes ys) : Bytes (List.zipWith bx xs ys) := by
  intro z hz
  obtain ⟨i, h, rfl⟩ := List.mem_iff_getElem.1 hz
  rw [List.getElem_zipWith]
  have h1 := hx _ (List.getElem_mem (show i < xs.length by simp at h; omega))
  have h2 := hy _ (List.getElem_mem (show i < ys.length by simp at h; omega))
  exact bx_bounds h1.1 h1.2 h2.1 h2.2

theorem xor4 (a b c d : BitVec 32) : (a ^^^ b) ^^^ (c ^^^ d) = (a ^^^ c) ^^^ (b ^^^ d) := by
  rw [BitVec.xor_assoc, BitVec.xor_assoc, ← BitVec.xor_assoc b c d, BitVec.xor_comm b c, BitVec.xor_assoc c b d]

theorem many_zip : ∀ (xs ys : List Int) (x y : BitVec 32), xs.length = ys.length → Bytes xs → Bytes ys →
    many (x ^^^ y) (List.zipWith bx xs ys) = many x xs ^^^ many y ys
  | [], [], x, y, _, _, _ => rfl
  | a :: xs, b :: ys, x, y, hl, hx, hy => by
    have ha := hx a (by simp)
    have hb := hy b (by simp)
    have ih := many_zip xs ys (byte x a) (byte y b) (by simpa using hl) (fun z hz => hx z (by simp [hz])) (fun z hz => hy z (by simp [hz]))
    show many (byte (x ^^^ y) (bx a b)) (List.zipWith bx xs ys) = many (byte x a) xs ^^^ many (byte y b) ys
    rw [← ih]
    congr 1
    unfold byte
    rw [octet_bx ha.1 ha.2 hb.1 hb.2, ← bitsN_xor, xor4]
  | [], _ :: _, _, _, hl, _, _ => by simp at hl
  | _ :: _, [], _, _, hl, _, _ => by simp at hl

theorem sum_xor3 (xs ys zs : List Int) (h1 : xs.length = ys.length) (h2 : xs.length = zs.length) (hx : Bytes xs) (hy : Bytes ys) (hz : Bytes zs) :
    sum (List.zipWith bx (List.zipWith bx xs ys) zs) = sum xs ^^^ sum ys ^^^ sum zs := by
  have e1 := many_zip (List.zipWith bx xs ys) zs (0#32) (~~~ 0#32) (by simp; omega) (bytes_zip hx hy) hz
  have e2 := many_zip xs ys (~~~ 0#32) (~~~ 0#32) h1 hx hy
  have e3 : (0#32 : BitVec 32) ^^^ ~~~ 0#32 = ~~~ 0#32 := by decide
  have e4 : (~~~ 0#32 : BitVec 32) ^^^ ~~~ 0#32 = 0#32 := by decide
  rw [e3] at e1
  rw [e4] at e2
  unfold sum more
  rw [e1, e2]
  generalize many (~~~ 0#32) xs = a
  generalize many (~~~ 0#32) ys = b
  generalize many (~~~ 0#32) zs = c
  rw [← BitVec.xor_allOnes, ← BitVec.xor_allOnes, ← BitVec.xor_allOnes, ← BitVec.xor_allOnes, xor4 a (BitVec.allOnes 32) b (BitVec.allOnes 32)]
  rw [BitVec.xor_self, BitVec.xor_zero, BitVec.xor_assoc]

end CrcM
end Go.Proofs.Ytfdfkcapgjijiaa
