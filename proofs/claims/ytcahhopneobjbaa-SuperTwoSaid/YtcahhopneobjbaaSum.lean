/- The sum's two functions (as in the seat of the sums). -/
import Derived.Test.YtcahhopneobjbaaProg
import Derived.Test.YtcahhopneobjbaaCrcMath
import Derived.Test.YtcahhopneobjbaaCore
namespace Go.Proofs.Ytcahhopneobjbaa
open Go.RowKit CrcM

theorem u32_xor_v (x y : BitVec 32) : bits .xor .u32 (V x) (V y) = V (x ^^^ y) := by
  unfold V; rw [u32_xor_nat _ _ x.isLt y.isLt, BitVec.toNat_xor]
theorem u32_and_v (x y : BitVec 32) : bits .and .u32 (V x) (V y) = V (x &&& y) := by
  unfold V; rw [u32_and_nat _ _ x.isLt y.isLt, BitVec.toNat_and]
theorem u32_not_v (x : BitVec 32) : bits .xor .u32 IntKind.u32.max (V x) = V (~~~x) := by
  have h : IntKind.u32.max = V (BitVec.allOnes 32) := by decide
  rw [h, u32_xor_v, BitVec.allOnes_xor]
theorem u32_and1_v (x : BitVec 32) : bits .and .u32 (V x) 1 = V (x &&& 1#32) := u32_and_v x 1#32
theorem u32_poly_v (x : BitVec 32) : bits .and .u32 3988292384 (V x) = V (poly &&& x) := u32_and_v poly x
theorem u32_neg_v (x : BitVec 32) : IntKind.u32.wrap (0 - V x) = V (-x) := by
  unfold V
  rw [IntKind.wrap_u32, BitVec.toNat_neg]
  have := x.isLt
  omega
theorem u32_neg_v' (x : BitVec 32) : IntKind.u32.wrap (- V x) = V (-x) := by
  rw [← u32_neg_v, Int.zero_sub]
theorem u32_octet (c : Int) (h0 : 0 ≤ c) (h1 : c < 256) : c = V (octet c) := by
  unfold V octet
  rw [BitVec.toNat_ofInt]
  omega
theorem u32_byte_v (x : BitVec 32) (c : Int) (h0 : 0 ≤ c) (h1 : c < 256) : bits .xor .u32 (V x) c = V (x ^^^ octet c) := by
  have h := u32_octet c h0 h1
  calc bits .xor .u32 (V x) c = bits .xor .u32 (V x) (V (octet c)) := by rw [← h]
    _ = _ := u32_xor_v _ _
theorem u32_shr_v (x : BitVec 32) : (V x : Int) / (2 : Int) = V (x >>> 1) := by
  unfold V
  rw [BitVec.toNat_ushiftRight, Nat.shiftRight_eq_div_pow]; omega
theorem u32_wrap_v (x : BitVec 32) : IntKind.u32.wrap (V x) = V x := by
  have := V_bounds x
  rw [IntKind.wrap_u32]; omega

attribute [local go_sem] u32_not_v u32_and1_v u32_poly_v u32_neg_v u32_neg_v' u32_shr_v u32_xor_v

set_option maxHeartbeats 400000 in
theorem more_any (s : BitVec 32) (si : Int) (ao : Option Addr) (bs : List Int) (n cap : Nat) (w : World) (hs : si = V s) (hn : n = bs.length) (hl : n ≤ 9223372036854775807)
   (hb : Byt bs) (hc : Rd .u8 w ao bs) :
    Calls Try.prog 38 #[.int .u32 si, .slice ao n cap] w fun e w' => e = .returned (.int .u32 (V (more s bs))) ∧ w = w' := by
  subst hs
  have Hn := Lib.hid hn; clear hn
  have Hb := Lib.hid hb; clear hb
  have Hc := Lib.hid hc; clear hc
  go_enter Try.func38, Try.ntmps38
  go_wp2
  go_loop [5, 12] (fun v i => ∃ k : Nat, k ≤ n ∧ i = .int .i64 k ∧ v = .int .u32 (V (many (~~~ s) (bs.take k)))) (fun _ i => n - (intOf i).toNat)
  case atStart => exact ⟨0, Nat.zero_le _, rfl, by simp [many]⟩
  case round =>
    obtain ⟨k, hk, rfl, rfl⟩ := hrel
    by_cases hlt : k < n
    · have hkb : k < bs.length := by have := Hn.out; omega
      obtain ⟨a, ha, hcell⟩ := Hc.out k hkb
      have hb := Hb.out _ (List.getElem_mem hkb)
      have hm := many_snoc (~~~ s) bs k hkb
      generalize bs[k] = c at hcell hb hm
      generalize many (~~~ s) (bs.take k) = y0 at hm ⊢
      have Hm := Lib.hid hm; clear hm
      subst ha
      obtain ⟨hb0, hb1⟩ := hb
      have hx := u32_byte_v y0 c hb0 hb1
      go_wp2
      go_loop [5, 20] (fun v i => ∃ j : Nat, j ≤ 8 ∧ i = .int .i64 j ∧ v = .int .u32 (V (bitsN j (y0 ^^^ octet c)))) (fun _ i => 8 - (intOf i).toNat)
      case atStart => exact ⟨0, Nat.zero_le _, rfl, rfl⟩
      case round =>
        obtain ⟨j, hj, rfl, rfl⟩ := hrel
        by_cases hj8 : j < 8
        · go_wp2
          go_round
          case rel => exact ⟨j + 1, by omega, by go_num, rfl⟩
          case measure => simp [intOf]; omega
        · go_wp2
          have hj' : j = 8 := by omega
          go_round
          case rel => exact ⟨k + 1, by omega, by go_num, by rw [hj', Hm.out]; rfl⟩
          case measure => simp [intOf]; omega
    · have hk' : k = n := by omega
      have Hk := Lib.hid hk'; clear hk'
      go_wp2
      go_ret
      exact ⟨by rw [Hk.out, Hn.out, List.take_length]; rfl, rfl⟩

theorem sum_any (ao : Option Addr) (bs : List Int) (n cap : Nat) (w : World) (hn : n = bs.length) (hl : n ≤ 9223372036854775807)
   (hb : Byt bs) (hc : Rd .u8 w ao bs) :
    Calls Try.prog 33 #[.slice ao n cap] w fun e w' => e = .returned (.int .u32 (V (sum bs))) ∧ w = w' := by
  have Hn := Lib.hid hn; clear hn
  have Hb := Lib.hid hb; clear hb
  have Hc := Lib.hid hc; clear hc
  go_enter Try.func33, Try.ntmps33
  go_wp2_with fail
  refine (more_any 0#32 0 _ bs _ _ _ rfl Hn.out hl Hb.out Hc.out).mono ?_
  rintro e w' ⟨rfl, rfl⟩
  go_wp2
  go_ret
  exact ⟨rfl, rfl⟩

end Go.Proofs.Ytcahhopneobjbaa
