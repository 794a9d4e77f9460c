import Derived.Test.YtfdfkcapgjijiaaProg
import Derived.Test.YtfdfkcapgjijiaaMath
import Derived.Test.YtfdfkcapgjijiaaCore
namespace Go.Proofs.Ytfdfkcapgjijiaa
open Go.RowKit CrcM

theorem u32_xor_v (x y : BitVec 32) : bits .xor .u32 (V x) (V y) = V (x ^^^ y) := by
  unfold V; rw [u32_xor_nat _ _ x.isLt y.isLt, BitVec.toNat_xor]
theorem u32_and_v (x y : BitVec 32) : bits .and .u32 (V x) (V y) = V (x &&& y) := by
  unfold V; rw [u32_and_nat _ _ x.isLt y.isLt, BitVec.toNat_and]
theorem u32_not_v (x : BitVec 32) : bits .xor .u32 IntKind.u32.max (V x) = V (~~~x) := by
  have h : IntKind.u32.max = V (BitVec.allOnes 32) := by decide
  rw [h, u32_xor_v, BitVec.allOnes_xor]
theorem u32_and1_v (x : BitVec 32) : bits .and .u32 (V x) 1 = V (x &&& 1#32) := u32_and_v x 1#32
theorem u32_poly_v (x : BitVec 32) : bits .and .u32 3988292384 (V x) = V (poly &&& x) := u32_and_v poly x
theorem u32_neg_v (x : BitVec 32) : IntKind.u32.wrap (0 - V x) = V (-x) := by
  unfold V
  rw [IntKind.wrap_u32, BitVec.toNat_neg]
  have := x.isLt
  omega
theorem u32_neg_v' (x : BitVec 32) : IntKind.u32.wrap (- V x) = V (-x) := by
  rw [← u32_neg_v, Int.zero_sub]
theorem u32_octet (c : Int) (h0 : 0 ≤ c) (h1 : c < 256) : c = V (octet c) := by
  unfold V octet
  rw [BitVec.toNat_ofInt]
  omega
theorem u32_byte_v (x : BitVec 32) (c : Int) (h0 : 0 ≤ c) (h1 : c < 256) : bits .xor .u32 (V x) c = V (x ^^^ octet c) := by
  have h := u32_octet c h0 h1
  calc bits .xor .u32 (V x) c = bits .xor .u32 (V x) (V (octet c)) := by rw [← h]
    _ = _ := u32_xor_v _ _
theorem u32_shr_v (x : BitVec 32) : (V x : Int) / (2 : Int) = V (x >>> 1) := by
  unfold V
  rw [BitVec.toNat_ushiftRight, Nat.shiftRight_eq_div_pow]; omega
theorem u32_wrap_v (x : BitVec 32) : IntKind.u32.wrap (V x) = V x := by
  have := V_bounds x
  rw [IntKind.wrap_u32]; omega

attribute [local go_sem] u32_not_v u32_and1_v u32_poly_v u32_neg_v u32_neg_v' u32_shr_v u32_xor_v

set_option maxHeartbeats 400000 in
theorem more_any (s : BitVec 32) (si : Int) (ao : Option Addr) (bs : List Int) (n cap : Nat) (w : World) (hs : si = V s) (hn : n = bs.length) (hl : n ≤ 9223372036854775807)
   (hb : Byt bs) (hc : Rd .u8 w ao bs) :
    Calls Try.prog 12 #[.int .u32 si, .slice ao n cap] w fun e w' => e = .returned (.int .u32 (V (more s bs))) ∧ w = w' := by
  subst hs
  have Hn := Lib.hid hn; clear hn
  have Hb := Lib.hid hb; clear hb
  have Hc := Lib.hid hc; clear hc
  go_enter Try.func12, Try.ntmps12
  go_wp2
  go_loop [5, 12] (fun v i => ∃ k : Nat, k ≤ n ∧ i = .int .i64 k ∧ v = .int .u32 (V (many (~~~ s) (bs.take k)))) (fun _ i => n - (intOf i).toNat)
  case atStart => exact ⟨0, Nat.zero_le _, rfl, by simp [many]⟩
  case round =>
    obtain ⟨k, hk, rfl, rfl⟩ := hrel
    by_cases hlt : k < n
    · have hkb : k < bs.length := by have := Hn.out; omega
      obtain ⟨a, ha, hcell⟩ := Hc.out k hkb
      have hb := Hb.out _ (List.getElem_mem hkb)
      have hm := many_snoc (~~~ s) bs k hkb
      generalize bs[k] = c at hcell hb hm
      generalize many (~~~ s) (bs.take k) = y0 at hm ⊢
      have Hm := Lib.hid hm; clear hm
      subst ha
      obtain ⟨hb0, hb1⟩ := hb
      have hx := u32_byte_v y0 c hb0 hb1
      go_wp2
      go_loop [5, 20] (fun v i => ∃ j : Nat, j ≤ 8 ∧ i = .int .i64 j ∧ v = .int .u32 (V (bitsN j (y0 ^^^ octet c)))) (fun _ i => 8 - (intOf i).toNat)
      case atStart => exact ⟨0, Nat.zero_le _, rfl, rfl⟩
      case round =>
        obtain ⟨j, hj, rfl, rfl⟩ := hrel
        by_cases hj8 : j < 8
        · go_wp2
          go_round
          case rel => exact ⟨j + 1, by omega, by go_num, rfl⟩
          case measure => simp [intOf]; omega
        · go_wp2
          have hj' : j = 8 := by omega
          go_round
          case rel => exact ⟨k + 1, by omega, by go_num, by rw [hj', Hm.out]; rfl⟩
          case measure => simp [intOf]; omega
    · have hk' : k = n := by omega
      have Hk := Lib.hid hk'; clear hk'
      go_wp2
      go_ret
      exact ⟨by rw [Hk.out, Hn.out, List.take_length]; rfl, rfl⟩

theorem sum_any (ao : Option Addr) (bs : List Int) (n cap : Nat) (w : World) (hn : n = bs.length) (hl : n ≤ 9223372036854775807)
   (hb : Byt bs) (hc : Rd .u8 w ao bs) :
    Calls Try.prog 10 #[.slice ao n cap] w fun e w' => e = .returned (.int .u32 (V (sum bs))) ∧ w = w' := by
  have Hn := Lib.hid hn; clear hn
  have Hb := Lib.hid hb; clear hb
  have Hc := Lib.hid hc; clear hc
  go_enter Try.func10, Try.ntmps10
  go_wp2_with fail
  refine (more_any 0#32 0 _ bs _ _ _ rfl Hn.out hl Hb.out Hc.out).mono ?_
  rintro e w' ⟨rfl, rfl⟩
  go_wp2
  go_ret
  exact ⟨rfl, rfl⟩

theorem refsum_bit (x : BitVec 32) : (V x % 2 == 1) = true → V (bit x) = bits .xor .u32 (V x / 2) 3988292384 := by
  intro h
  have : x &&& 1#32 = 1#32 := by
    rcases lsb_cases x with e | e
    · exfalso
      have h2 : (x &&& 1#32).toNat = x.toNat % 2 := by rw [BitVec.toNat_and]; exact Nat.and_one_is_mod _
      rw [e] at h2
      simp [V] at h h2
      omega
    · exact e
  rw [bit_odd x this, u32_shr_v, ← u32_xor_v]; rfl
theorem refsum_bit0 (x : BitVec 32) : (V x % 2 == 1) = false → V (bit x) = V x / 2 := by
  intro h
  have : x &&& 1#32 = 0#32 := by
    rcases lsb_cases x with e | e
    · exact e
    · exfalso
      have h2 : (x &&& 1#32).toNat = x.toNat % 2 := by rw [BitVec.toNat_and]; exact Nat.and_one_is_mod _
      rw [e] at h2
      simp [V] at h h2
      omega
  rw [bit_even x this, u32_shr_v]

set_option maxHeartbeats 400000 in
theorem refsum_any (ao : Option Addr) (bs : List Int) (n cap : Nat) (w : World) (hn : n = bs.length) (hl : n ≤ 9223372036854775807)
   (hb : Byt bs) (hc : Rd .u8 w ao bs) :
    Calls Try.prog 11 #[.slice ao n cap] w fun e w' => e = .returned (.int .u32 (V (sum bs))) ∧ w = w' := by
  have Hn := Lib.hid hn; clear hn
  have Hb := Lib.hid hb; clear hb
  have Hc := Lib.hid hc; clear hc
  go_enter Try.func11, Try.ntmps11
  go_wp2
  go_loop [3, 4] (fun v i => ∃ k : Nat, k ≤ n ∧ i = .int .i64 k ∧ v = .int .u32 (V (many (~~~ 0#32) (bs.take k)))) (fun _ i => n - (intOf i).toNat)
  case atStart => exact ⟨0, Nat.zero_le _, rfl, rfl⟩
  case round =>
    obtain ⟨k, hk, rfl, rfl⟩ := hrel
    by_cases hlt : k < n
    · have hkb : k < bs.length := by have := Hn.out; omega
      obtain ⟨a, ha, hcell⟩ := Hc.out k hkb
      have hb := Hb.out _ (List.getElem_mem hkb)
      have hm := many_snoc (~~~ 0#32) bs k hkb
      generalize bs[k] = c at hcell hb hm
      generalize many (~~~ 0#32) (bs.take k) = y0 at hm ⊢
      have Hm := Lib.hid hm; clear hm
      subst ha
      obtain ⟨hb0, hb1⟩ := hb
      have hx := u32_byte_v y0 c hb0 hb1
      go_wp2
      go_loop [3, 5] (fun v i => ∃ j : Nat, j ≤ 8 ∧ i = .int .i64 j ∧ v = .int .u32 (V (bitsN j (y0 ^^^ octet c)))) (fun _ i => 8 - (intOf i).toNat)
      case atStart => exact ⟨0, Nat.zero_le _, rfl, rfl⟩
      case round =>
        obtain ⟨j, hj, rfl, rfl⟩ := hrel
        by_cases hj8 : j < 8
        · have hv0 := (V_bounds (bitsN j (y0 ^^^ octet c))).1
          have hbit := show V (bitsN (j + 1) (y0 ^^^ octet c)) = V (bit (bitsN j (y0 ^^^ octet c))) from rfl
          generalize bitsN j (y0 ^^^ octet c) = z at hv0 hbit ⊢
          cases ht : (V z % 2 == 1)
          · have Hbit := Lib.hid (hbit.trans (refsum_bit0 z ht)); clear hbit
            go_wp2
            go_round
            case rel => exact ⟨j + 1, by omega, by go_num, by rw [Hbit.out, u32_shr_v]⟩
            case measure => simp [intOf]; omega
          · have Hbit := Lib.hid (hbit.trans (refsum_bit z ht)); clear hbit
            go_wp2
            go_round
            case rel => exact ⟨j + 1, by omega, by go_num, by rw [Hbit.out, u32_shr_v]⟩
            case measure => simp [intOf]; omega
        · go_wp2
          have hj' : j = 8 := by omega
          go_round
          case rel => exact ⟨k + 1, by omega, by go_num, by rw [hj', Hm.out]; rfl⟩
          case measure => simp [intOf]; omega
    · have hk' : k = n := by omega
      have Hk := Lib.hid hk'; clear hk'
      go_wp2
      go_ret
      exact ⟨by rw [Hk.out, Hn.out, List.take_length]; rfl, rfl⟩

theorem short_any (ao : Option Addr) (m : Int) (n cap : Nat) (w : World) (_hl : n ≤ cap) (_hm : cap ≤ 9223372036854775807) (hm0 : 0 ≤ m) (hm1 : m ≤ 1000000) :
    Calls Try.prog 9 #[.slice ao n cap, .int .i64 m] w fun e w' => e = .returned (.slice ao (min n m.toNat) cap) ∧ w = w' := by
  obtain ⟨m, rfl⟩ := Int.eq_ofNat_of_zero_le hm0
  rw [Int.toNat_natCast]
  by_cases h : m < n
  · go_enter Try.func9, Try.ntmps9
    go_wp2
    go_ret
    rw [Nat.min_eq_right (by omega)]
    exact ⟨rfl, rfl⟩
  · go_enter Try.func9, Try.ntmps9
    go_wp2
    go_ret
    rw [Nat.min_eq_left (by omega)]
    exact ⟨rfl, rfl⟩
theorem nine : sum [49, 50, 51, 52, 53, 54, 55, 56, 57] = 3421780262#32 := by decide +kernel
theorem nought : sum [] = 0#32 := by decide +kernel
def nineCells : Array Value := #[.int .u8 49, .int .u8 50, .int .u8 51, .int .u8 52, .int .u8 53, .int .u8 54, .int .u8 55, .int .u8 56, .int .u8 57]

theorem nine_rd (w : World) : Rd .u8 (w.alloc (.cells nineCells 5 (9, 10))) (some ⟨w.heap.size, 0, none⟩) [49, 50, 51, 52, 53, 54, 55, 56, 57] := by
  intro i h
  refine ⟨_, rfl, ?_⟩
  rw [cell_mark]
  simp only [List.length_cons, List.length_nil] at h
  have : i = 0 ∨ i = 1 ∨ i = 2 ∨ i = 3 ∨ i = 4 ∨ i = 5 ∨ i = 6 ∨ i = 7 ∨ i = 8 := by omega
  rcases this with rfl | rfl | rfl | rfl | rfl | rfl | rfl | rfl | rfl <;> rfl
theorem nine_byt : Byt [49, 50, 51, 52, 53, 54, 55, 56, 57] := by
  intro x hx
  simp only [List.mem_cons, List.not_mem_nil, or_false] at hx
  omega

theorem begun_any (w : World) :
    Calls Try.prog 8 #[] w fun e w' => e = .returned (.bool true) ∧ Below w.heap.size w w' := by
  have kc := fun (w : World) (C : Array Value) (n c : Nat) => Lib.run_convert_bytes_const (P := Try.prog) w 24 5 C n c Try.underlying24 Try.underlying5
  go_enter Try.func8, Try.ntmps8
  go_wp2_with fail
  refine (sum_any _ _ _ _ _ (by exact rfl) (by omega) nine_byt (nine_rd w)).mono ?_
  rintro e w' ⟨rfl, rfl⟩
  rw [nine]
  have e1 : (V 3421780262#32 == 3421780262) = true := by decide
  clear kc
  go_wp2_with fail
  refine (sum_any _ [] _ _ _ (by exact rfl) (by omega) (fun _ h => by cases h) (fun _ h => absurd h (by simp))).mono ?_
  rintro e w' ⟨rfl, rfl⟩
  rw [nought]
  have e2 : (V 0#32 == 0) = true := by decide
  go_wp2_with fail
  go_ret
  exact ⟨rfl, (Below.refl _ _).alloc (Nat.le_refl _) _⟩
end Go.Proofs.Ytfdfkcapgjijiaa
