/- The walk of KindList. -/
import Derived.Test.YtnpoleeflannjaaBegun
import Derived.Lib.QuietBelow
import Derived.BigQuiet
namespace Go.Proofs.Ytnpoleeflannjaa
open Go.RowKit Go.Sort

theorem Try.info24 : (Try.prog.info? 24).map (fun i => (i.zero, i.size, i.bytes)) = some (some (.agg #[.int .i64 0, .int .i64 0]), 2, 16) := by kernel_rfl

/-- The kind that number z gives at place i. -/
def kd (z : Int) (i : Nat) : Int × Int := if z.tmod 3 % 3 = 0 then (-2, 0) else if z.tmod 3 % 3 = 1 then (-1, (i : Int) % 3) else ((i : Int), (i : Int) + 1)
def KL (zs : List Int) (k : Nat) : List (Int × Int) := (List.range k).map fun i => kd (zs.getD i 0) i
def kcells (p : Int × Int) : List Value := [.int .i64 p.1, .int .i64 p.2]
def cellsOf (l : List (Int × Int)) : List Value := l.flatMap kcells
def cnt (l : List (Int × Int)) : Nat := (l.filter fun p => decide (0 ≤ p.1)).length
theorem KL_len (zs : List Int) (k : Nat) : (KL zs k).length = k := by simp [KL]
theorem KL_snoc (zs : List Int) (k : Nat) : KL zs (k + 1) = KL zs k ++ [kd (zs.getD k 0) k] := by simp [KL, List.range_succ]
theorem KL_at (zs : List Int) (k i : Nat) (h : i < k) : (KL zs k)[i]? = some (kd (zs.getD i 0) i) := by simp [KL, h]
theorem KL_take (zs : List Int) (k i : Nat) (h : i ≤ k) : (KL zs k).take i = KL zs i := by
  unfold KL
  rw [← List.map_take, List.take_range, Nat.min_eq_left h]
theorem cells_snoc (l : List (Int × Int)) (p : Int × Int) : cellsOf (l ++ [p]) = cellsOf l ++ kcells p := by simp [cellsOf]
theorem cells_len (l : List (Int × Int)) : (cellsOf l).length = l.length * 2 := by
  unfold cellsOf
  induction l with
  | nil => rfl
  | cons a l ih => rw [List.flatMap_cons, List.length_append, ih, List.length_cons]; simp [kcells]; omega
theorem cells_at : ∀ (l : List (Int × Int)) (i : Nat) (p : Int × Int), l[i]? = some p → (cellsOf l)[i * 2]? = some (.int .i64 p.1) ∧ (cellsOf l)[i * 2 + 1]? = some (.int .i64 p.2)
  | [], i, p, h => by simp at h
  | a :: l, 0, p, h => by
    simp at h; subst h
    exact ⟨rfl, rfl⟩
  | a :: l, i + 1, p, h => by
    have ih := cells_at l i p (by simpa using h)
    have e : cellsOf (a :: l) = kcells a ++ cellsOf l := rfl
    rw [e, List.getElem?_append_right (by simp [kcells]; omega), List.getElem?_append_right (by simp [kcells]; omega)]
    have e1 : (i + 1) * 2 - (kcells a).length = i * 2 := by simp [kcells]; omega
    have e2 : (i + 1) * 2 + 1 - (kcells a).length = i * 2 + 1 := by simp [kcells]; omega
    rw [e1, e2]
    exact ih
theorem cnt_snoc (l : List (Int × Int)) (p : Int × Int) : cnt (l ++ [p]) = cnt l + if 0 ≤ p.1 then 1 else 0 := by
  unfold cnt
  rw [List.filter_append, List.length_append]
  by_cases h : 0 ≤ p.1 <;> simp [h]
theorem cnt_le (l : List (Int × Int)) : cnt l ≤ l.length := List.length_filter_le _ _

/-- A row of kinds that is read. -/
def KRd (ao : Option Addr) (l : List (Int × Int)) (W : World) : Prop :=
  ∀ i (p : Int × Int), l[i]? = some p → ∃ g, ao = some ⟨g, 0, none⟩ ∧ g < W.heap.size ∧ W.cell? ⟨g, i * 2, none⟩ = some (.int .i64 p.1) ∧ W.cell? ⟨g, i * 2 + 1, none⟩ = some (.int .i64 p.2)
theorem KRd.below {ao : Option Addr} {l : List (Int × Int)} {W W' : World} {m : Nat} (h : KRd ao l W) (hb : Below m W W') (hm : W.heap.size ≤ m) : KRd ao l W' := by
  intro i p hp
  obtain ⟨g, h1, h2, h3, h4⟩ := h i p hp
  exact ⟨g, h1, Nat.lt_of_lt_of_le h2 hb.size, (hb.cell (by simp; omega)).trans h3, (hb.cell (by simp; omega)).trans h4⟩
theorem own_kinds {w : World} {base n : Nat} {v : Value} {l : List (Int × Int)} (h : w.ownsRow base 24 2 v n (cellsOf l)) : ∃ ao cap, v = .slice ao n cap ∧ KRd ao l w := by
  rcases h.2 with ⟨rfl, rfl⟩ | ⟨g, cap, cur, rfl, hb, hh, h1, h2, h3, h4⟩
  · refine ⟨none, 0, rfl, fun i p hp => ?_⟩
    have hl := h.1
    rw [cells_len] at hl
    have : l = [] := List.eq_nil_of_length_eq_zero (by omega)
    subst this
    simp at hp
  · refine ⟨_, cap, rfl, fun i p hp => ⟨g, rfl, (Array.getElem?_eq_some_iff.1 hh).1, ?_, ?_⟩⟩
    · have := h.cells (g := g) rfl _ _ (cells_at l i p hp).1
      rwa [add_at] at this
    · have := h.cells (g := g) rfl _ _ (cells_at l i p hp).2
      rwa [add_at] at this

theorem news_at (w : World) (p : Int × Int) : ∀ j u, (kcells p)[j]? = some u → (w.alloc (.cells #[.int .i64 p.1, .int .i64 p.2] 24)).cell? ((⟨w.heap.size, 0, none⟩ : Addr).add j) = some u := by
  intro j u h
  rw [add_at, World.cell?_alloc_new]
  simpa [kcells] using h
theorem news_one (p : Int × Int) : ∀ u ∈ kcells p, u.oneCell' = true := by
  intro u hu
  simp [kcells] at hu
  rcases hu with rfl | rfl <;> rfl

theorem fields_y (c d : Int) (x : Bool) (hx : decide (0 ≤ c) = x) (w : World) : Calls Try.prog 10 #[K c d] w fun e w' => e = .returned (.bool x) ∧ Below w.heap.size w w' := hx ▸ fields_b c d w
theorem eq_y (a b c d : Int) (x : Bool) (hx : (a == c && b == d) = x) (w : World) : Calls Try.prog 11 #[K a b, K c d] w fun e w' => e = .returned (.bool x) ∧ Below w.heap.size w w' := hx ▸ eq_b a b c d w

/-- What stays through the last loops. -/
structure LS (ao : Option Addr) (l : List (Int × Int)) (w W : World) : Prop where
  k : KRd ao l W
  b : Below w.heap.size w W
theorem LS.below' {ao : Option Addr} {l : List (Int × Int)} {w W W' : World} {m : Nat} (h : LS ao l w W) (hb : Below m W W') (hm : W.heap.size ≤ m) : LS ao l w W' :=
  ⟨h.k.below hb hm, below_step h.b (hb.mono hm)⟩
theorem LS.drew {ao : Option Addr} {l : List (Int × Int)} {w W : World} (h : LS ao l w W) : LS ao l w W.drew := h.below' (Below.refl _ _).drew (Nat.le_refl _)
theorem ls_S {g : Nat} {l : List (Int × Int)} {w W : World} {q r : Nat} {p p' : Int × Int} (hq : l[q]? = some p) (hr : l[r]? = some p') (h : LS (some ⟨g, 0, none⟩) l w W) :
    LS (some ⟨g, 0, none⟩) l w W ∧ W.cell? ⟨g, q * 2, none⟩ = some (.int .i64 p.1) ∧ W.cell? ⟨g, q * 2 + 1, none⟩ = some (.int .i64 p.2) ∧ W.cell? ⟨g, r * 2, none⟩ = some (.int .i64 p'.1) ∧ W.cell? ⟨g, r * 2 + 1, none⟩ = some (.int .i64 p'.2) := by
  obtain ⟨g1, e1, _, a1, a2⟩ := h.k q p hq
  obtain ⟨g2, e2, _, b1, b2⟩ := h.k r p' hr
  cases e1
  cases e2
  exact ⟨h, a1, a2, b1, b2⟩
theorem kd_ne (z z' : Int) (i j : Nat) (h : j < i) (h0 : 0 ≤ (kd z i).1) : ((kd z i).1 == (kd z' j).1 && (kd z i).2 == (kd z' j).2) = false := by
  have e : kd z i = ((i : Int), (i : Int) + 1) := by
    unfold kd at h0 ⊢
    split
    · rename_i c; rw [if_pos c] at h0; simp at h0
    · split
      · rename_i c c2; rw [if_neg c, if_pos c2] at h0; simp at h0
      · rfl
  have : ((i : Int) == (kd z' j).1) = false := by
    rw [beq_eq_false_iff_ne]
    unfold kd
    split
    · show (i : Int) ≠ -2; omega
    · split
      · show (i : Int) ≠ -1; omega
      · show (i : Int) ≠ (j : Int); omega
  rw [e, this]
  rfl

set_option maxRecDepth 100000 in
set_option maxHeartbeats 6400000 in
theorem kindList_walk (ao : Option Addr) (m ca : Nat) (zs : List Int) (w : World) (hm : m = zs.length) (hmc : m ≤ ca) (hca : ca ≤ 9223372036854775807) (rz : Rd .i64 w ao zs) :
    Calls Try.prog 5 #[.slice ao m ca] w fun e w' => e = .returned (.bool true) ∧ Below w.heap.size w w' := by
  have Hm := Lib.hid hm; have Rz := Lib.hid rz; clear hm rz
  have Hmf := Lib.hid (show ∀ (fn : Fn) (first cap : Array Value) (w : World), (Instr.makeFunc fn first cap).run Try.prog w = .ok (.func fn first cap) w from fun _ _ _ _ => rfl)
  obtain ⟨i0, hi, hz0, hz1, hz2⟩ := info_parts Try.info24
  have Hi := Lib.hid hi; have Hz0 := Lib.hid hz0; have Hz1 := Lib.hid hz1; have Hz2 := Lib.hid hz2; clear hi hz0 hz1 hz2
  go_enter Try.func5, Try.ntmps5
  go_wp2_with (with_reducible refine halt_call ?_)
  refine Halted.run ((begun_any _).mono ?_)
  rintro e w1 ⟨rfl, hB1⟩
  go_wp2_with fail
  go_loopw [4, 5, 6] (fun v wa i wr => ∃ k : Nat, k ≤ 40 ∧ k ≤ m ∧ i = .int .i64 k ∧ wa = .int .i64 (cnt (KL zs k)) ∧ wr.ownsRow w.heap.size 24 2 v k (cellsOf (KL zs k)) ∧ Below w.heap.size w wr) (fun _ _ i _ => 40 - (intOf i).toNat)
  case atStart => exact ⟨0, by omega, by omega, rfl, rfl, World.ownsRow_nil _ _ _ _, hB1⟩
  case round =>
    clear hB1
    obtain ⟨k, hk, hkm, rfl, rfl, hown, hB⟩ := hrel
    have hcl := cnt_le (KL zs k)
    rw [KL_len] at hcl
    by_cases hin : k < 40 ∧ k < m
    · obtain ⟨h40, hlt⟩ := hin
      · obtain ⟨a, ha, hcell⟩ := Rz.out k (by have := Hm.out; omega)
        have hg : zs.getD k 0 = zs[k]'(by have := Hm.out; omega) := by simp [List.getD_eq_getElem?_getD, List.getElem?_eq_getElem (show k < zs.length by have := Hm.out; omega)]
        have hcs := cnt_snoc (KL zs k) (kd (zs.getD k 0) k)
        have hls := cells_snoc (KL zs k) (kd (zs.getD k 0) k)
        rw [← KL_snoc] at hcs hls
        rw [hg] at hcs hls
        generalize zs[k]'(by have := Hm.out; omega) = z at hcell hcs hls
        replace hcell := (hB.cell (World.block_lt_of_cell? _ _ hcell)).trans hcell
        have hz0 : -3 < z.tmod 3 := by have := Int.lt_tmod_of_pos z (show (0 : Int) < 3 by omega); omega
        have hz1 : z.tmod 3 < 3 := by have := Int.tmod_lt_of_pos z (show (0 : Int) < 3 by omega); omega
        have Hcs := Lib.hid hcs; have Hls := Lib.hid hls; have Hown := Lib.hid hown; have HB := Lib.hid hB
        clear hg hcs hls hown hB
        subst ha
        rcases (show z.tmod 3 % 3 = 0 ∨ z.tmod 3 % 3 = 1 ∨ z.tmod 3 % 3 = 2 by omega) with hr | hr | hr
        · have ekd : kd z k = (-2, 0) := by unfold kd; rw [if_pos hr]
          rw [ekd] at Hcs Hls
          have t1 : (z.tmod 3 % 3 == 0) = true := by simp [hr]
          have Hr := Lib.hid hr
          clear hr ekd
          go_wp2_with (with_reducible refine halt_call ?_)
          refine Halted.run ((none_b _).mono ?_)
          rintro e w2 ⟨rfl, hb⟩
          have hown2 := Hown.out.kept (below_to hb) (Classical.em _)
          have hs2 := hb.size
          have hB2 := below_step HB.out hb
          have hbs := hB2.size
          go_wp2_with (with_reducible refine halt_op 48 ?_)
          refine Halted.run ?_
          refine wpList_append_own _ rfl (.tmp 45) (.tmp 47) 30 rfl w.heap.size 24 i0 (.agg #[.int .i64 0, .int .i64 0]) 2 16 Try.underlying30 Hi.out Hz0.out Hz1.out Hz2.out rfl (by decide) _ _ _ rfl (hown2.alloc _) ⟨w2.heap.size, 0, none⟩ 1 1 (kcells ((-2, 0) : Int × Int)) rfl rfl (news_at w2 ((-2, 0) : Int × Int)) (news_one _) (by unfold maxLen; omega) (by omega) (by simp; omega) ?_
          intro v' w3 hown3 hgrow _
          rw [← Hls.out] at hown3
          have hB3 := below_grown_own (below_next hB2 _) hgrow (fun j hj => (hown2.lt j hj).1)
          have Hown3 := Lib.hid hown3
          clear hown2 hown3 hgrow hB2 hb
          go_wp2
          go_roundw
          case rel => exact ⟨k + 1, by omega, by omega, by go_num, by rw [Hcs.out]; rfl, Hown3.out, hB3⟩
          case measure => simp [intOf]; omega
        · have ekd : kd z k = (-1, (k : Int) % 3) := by unfold kd; rw [if_neg (by omega), if_pos hr]
          rw [ekd] at Hcs Hls
          have t1 : (z.tmod 3 % 3 == 0) = false := by simp [hr]
          have t2 : (z.tmod 3 % 3 == 1) = true := by simp [hr]
          have Hr := Lib.hid hr
          clear hr ekd
          go_wp2_with (with_reducible refine halt_call ?_)
          refine Halted.run ((world_any _ _).mono ?_)
          rintro e w2 ⟨rfl, hb⟩
          rw [show wF ((k : Int) % 3) = -1 by unfold wF; rw [if_pos (by omega)], show wT ((k : Int) % 3) = (k : Int) % 3 by unfold wT; rw [if_pos (by omega)]]
          have hown2 := Hown.out.kept (below_to hb) (Classical.em _)
          have hs2 := hb.size
          have hB2 := below_step HB.out hb
          have hbs := hB2.size
          go_wp2_with (with_reducible refine halt_op 56 ?_)
          refine Halted.run ?_
          refine wpList_append_own _ rfl (.tmp 51) (.tmp 55) 30 rfl w.heap.size 24 i0 (.agg #[.int .i64 0, .int .i64 0]) 2 16 Try.underlying30 Hi.out Hz0.out Hz1.out Hz2.out rfl (by decide) _ _ _ rfl (hown2.alloc _) ⟨w2.heap.size, 0, none⟩ 1 1 (kcells ((-1, (k : Int) % 3) : Int × Int)) rfl rfl (news_at w2 ((-1, (k : Int) % 3) : Int × Int)) (news_one _) (by unfold maxLen; omega) (by omega) (by simp; omega) ?_
          intro v' w3 hown3 hgrow _
          rw [← Hls.out] at hown3
          have hB3 := below_grown_own (below_next hB2 _) hgrow (fun j hj => (hown2.lt j hj).1)
          have Hown3 := Lib.hid hown3
          clear hown2 hown3 hgrow hB2 hb
          go_wp2
          go_roundw
          case rel => exact ⟨k + 1, by omega, by omega, by go_num, by rw [Hcs.out]; rfl, Hown3.out, hB3⟩
          case measure => simp [intOf]; omega
        · have ekd : kd z k = ((k : Int), (k : Int) + 1) := by unfold kd; rw [if_neg (by omega), if_neg (by omega)]
          rw [ekd] at Hcs Hls
          have t1 : (z.tmod 3 % 3 == 0) = false := by simp [hr]
          have t2 : (z.tmod 3 % 3 == 1) = false := by simp [hr]
          have Hr := Lib.hid hr
          clear hr ekd
          go_wp2_with (with_reducible refine halt_call ?_)
          refine Halted.run ((struct_any _ _ _).mono ?_)
          rintro e w2 ⟨rfl, hb⟩
          rw [show sF (k : Int) ((k : Int) + 1) = (k : Int) by unfold sF; rw [if_pos (by omega)], show sT (k : Int) ((k : Int) + 1) = (k : Int) + 1 by unfold sT; rw [if_pos (by omega)]]
          have hown2 := Hown.out.kept (below_to hb) (Classical.em _)
          have hs2 := hb.size
          have hB2 := below_step HB.out hb
          have hbs := hB2.size
          go_wp2_with (with_reducible refine halt_op 40 ?_)
          refine Halted.run ?_
          refine wpList_append_own _ rfl (.tmp 34) (.tmp 39) 30 rfl w.heap.size 24 i0 (.agg #[.int .i64 0, .int .i64 0]) 2 16 Try.underlying30 Hi.out Hz0.out Hz1.out Hz2.out rfl (by decide) _ _ _ rfl (hown2.alloc _) ⟨w2.heap.size, 0, none⟩ 1 1 (kcells (((k : Int), (k : Int) + 1) : Int × Int)) rfl rfl (news_at w2 (((k : Int), (k : Int) + 1) : Int × Int)) (news_one _) (by unfold maxLen; omega) (by omega) (by simp; omega) ?_
          intro v' w3 hown3 hgrow _
          rw [← Hls.out] at hown3
          have hB3 := below_grown_own (below_next hB2 _) hgrow (fun j hj => (hown2.lt j hj).1)
          have Hown3 := Lib.hid hown3
          clear hown2 hown3 hgrow hB2 hb
          go_wp2
          go_roundw
          case rel => exact ⟨k + 1, by omega, by omega, by go_num, by rw [Hcs.out, if_pos (by simp)]; go_num, Hown3.out, hB3⟩
          case measure => simp [intOf]; omega
    · obtain ⟨ao2, cap, rfl, hKR⟩ := own_kinds hown
      have h40 : ¬ (k < m ∧ k < 40) := fun h => hin ⟨h.2, h.1⟩
      have HKR := Lib.hid hKR
      have HB := Lib.hid hB
      clear hown hKR hB hin
      rcases (show (k < m ∧ ¬ k < 40) ∨ ¬ k < m by omega) with ⟨h1, h2⟩ | h1
      · have d1 : decide ((k : Int) < 40) = false := by simp; omega
        go_wp2
        clear d1 h1 h2 h40
        go_loopw [8, 9] (fun g i wx => ∃ j : Nat, j ≤ k ∧ i = .int .i64 j ∧ g = .int .i64 (cnt (KL zs j)) ∧ KRd ao2 (KL zs k) wx ∧ Below w.heap.size w wx) (fun _ i _ => k - (intOf i).toNat)
        case atStart => exact ⟨0, by omega, rfl, rfl, HKR.out, HB.out⟩
        case round =>
          obtain ⟨j, hj, rfl, rfl, hKR, hB⟩ := hrel
          have hcl := cnt_le (KL zs j)
          rw [KL_len] at hcl
          by_cases hlt : j < k
          · obtain ⟨g, rfl, hgl, c1, c2⟩ := hKR j _ (KL_at zs k j hlt)
            have hcs := cnt_snoc (KL zs j) (kd (zs.getD j 0) j)
            rw [← KL_snoc] at hcs
            generalize kd (zs.getD j 0) j = p at c1 c2 hcs
            have Hcs := Lib.hid hcs
            have HKR2 := Lib.hid hKR
            have HB2 := Lib.hid hB
            clear hcs hKR hB hgl
            by_cases hp : 0 ≤ p.1
            · have dp : decide (0 ≤ p.1) = true := by simp [hp]
              rw [if_pos hp] at Hcs
              clear hp
              go_wp2_with (with_reducible refine halt_call ?_)
              refine Halted.run ((fields_y _ _ _ dp _).mono ?_)
              rintro e w2 ⟨rfl, hb⟩
              have hKR3 := HKR2.out.below hb (Nat.le_refl _)
              have hB3 := below_step HB2.out hb
              clear hb dp
              go_wp2
              go_roundw
              case rel => exact ⟨j + 1, by omega, by go_num, by rw [Hcs.out]; go_num, hKR3, hB3⟩
              case measure => simp [intOf]; omega
            · have dp : decide (0 ≤ p.1) = false := by simp; omega
              rw [if_neg hp] at Hcs
              clear hp
              go_wp2_with (with_reducible refine halt_call ?_)
              refine Halted.run ((fields_y _ _ _ dp _).mono ?_)
              rintro e w2 ⟨rfl, hb⟩
              have hKR3 := HKR2.out.below hb (Nat.le_refl _)
              have hB3 := below_step HB2.out hb
              clear hb dp
              go_wp2
              go_roundw
              case rel => exact ⟨j + 1, by omega, by go_num, by rw [Hcs.out]; go_num, hKR3, hB3⟩
              case measure => simp [intOf]; omega
          · have hjk : j = k := by omega
            subst hjk
            have HKR2 := Lib.hid hKR
            have HB2 := Lib.hid hB
            clear hKR hB HKR HB hlt hj
            go_wp2
            go_loopw [10, 11] (fun fc i wx => ∃ q : Nat, q ≤ j ∧ i = .int .i64 q ∧ fc = .int .i64 (cnt (KL zs q)) ∧ LS ao2 (KL zs j) w wx) (fun _ i _ => j - (intOf i).toNat)
            case atStart => exact ⟨0, by omega, rfl, rfl, HKR2.out, HB2.out⟩
            case round =>
              clear HKR2 HB2
              obtain ⟨q, hq, rfl, rfl, hL⟩ := hrel
              have hcl := cnt_le (KL zs q)
              rw [KL_len] at hcl
              by_cases hlt : q < j
              · obtain ⟨g, rfl, hgl, c1, c2⟩ := hL.k q _ (KL_at zs j q hlt)
                have hcs := cnt_snoc (KL zs q) (kd (zs.getD q 0) q)
                rw [← KL_snoc] at hcs
                have hat := KL_at zs j q hlt
                have hne := fun z' r hr => kd_ne (zs.getD q 0) z' q r hr
                generalize kd (zs.getD q 0) q = p at c1 c2 hcs hat hne
                have Hcs := Lib.hid hcs
                have Hat := Lib.hid hat
                have Hne := Lib.hid hne
                have HL := Lib.hid hL
                clear hcs hat hne hL hgl
                by_cases hp : 0 ≤ p.1
                · have dp : decide (0 ≤ p.1) = true := by simp [hp]
                  rw [if_pos hp] at Hcs
                  have Hp := Lib.hid hp
                  have hmf := Hmf.out
                  clear hp
                  go_wp2_with (with_reducible refine halt_call ?_)
                  clear hmf
                  refine Halted.run ((fields_y _ _ _ dp _).mono ?_)
                  rintro e w2 ⟨rfl, hb⟩
                  have hL3 := HL.out.below' hb (by simp)
                  clear hb c1 c2 dp
                  have Hdp : Hid (decide (0 ≤ p.1) = true) := Lib.hid (by simp [Hp.out])
                  go_wp2
                  go_loopw [13] (fun c wy => ∃ r : Nat, r ≤ q ∧ c = .int .i64 r ∧ LS (some ⟨g, 0, none⟩) (KL zs j) w wy) (fun c _ => q - (intOf c).toNat)
                  case atStart => exact ⟨0, by omega, rfl, hL3⟩
                  case round =>
                    clear hL3 HL
                    obtain ⟨r, hr, rfl, hL⟩ := hrel
                    by_cases hrq : r < q
                    · have hat2 := KL_at zs j r (by omega)
                      have hne2 := Hne.out (zs.getD r 0) r hrq Hp.out
                      generalize kd (zs.getD r 0) r = p' at hat2 hne2
                      have Hat2 := Lib.hid hat2
                      have Hne2 := Lib.hid hne2
                      clear hat2 hne2
                      have b1 : (0 : Int) ≤ (r : Int) := by omega
                      have b2 : (r : Int) < (j : Int) := by omega
                      have b3 : (0 : Int) ≤ (q : Int) := by omega
                      have b4 : (q : Int) < (j : Int) := by omega
                      go_wp2
                      obtain ⟨_, q1, q2, q3, q4⟩ := ls_S Hat.out Hat2.out hL
                      have k1 := cell_regrown q1
                      have k2 := cell_regrown q2
                      have k3 := cell_regrown q3
                      have k4 := cell_regrown q4
                      have cF : ∀ d os, Calls Try.prog 10 #[K p.1 p.2] (grow (redrawn wr d) os) fun e w'' => e = .returned (.bool true) ∧ ∃ x : Regrown, w'' = grow (redrawn wr x.d) x.os := fun d os => Calls.regrown_of (fields_y _ _ _ Hdp.out _)
                      have cE : ∀ d os, Calls Try.prog 11 #[K p.1 p.2, K p'.1 p'.2] (grow (redrawn wr d) os) fun e w'' => e = .returned (.bool false) ∧ ∃ x : Regrown, w'' = grow (redrawn wr x.d) x.os := fun d os => Calls.regrown_of (eq_y _ _ _ _ _ Hne2.out _)
                      refine wp_region_quiet_below (by kernel_rfl) (by kernel_rfl) ?_
                      repeat (first | go_big_quiet_step ((first | exact cF _ _ | exact cE _ _)) | quiet_step ((first | exact cF _ _ | exact cE _ _)))
                      refine wpQuiet_nil ?_
                      intro _ hw'
                      obtain ⟨⟨dq, osq⟩, hw''⟩ := hw'
                      subst hw''
                      have hLq := hL.below' (below_regrown wr dq osq) (Nat.le_refl _)
                      go_wp2
                      go_roundw
                      case rel => exact ⟨r + 1, by omega, by go_num, hLq⟩
                      case measure => simp [intOf]; omega
                    · go_wp2
                      go_roundw
                      case rel => exact ⟨q + 1, by omega, by go_num, by rw [Hcs.out]; go_num, hL⟩
                      case measure => simp [intOf]; omega
                · have dp : decide (0 ≤ p.1) = false := by simp; omega
                  rw [if_neg hp] at Hcs
                  have Hp := Lib.hid hp
                  have hmf := Hmf.out
                  clear hp
                  go_wp2_with (with_reducible refine halt_call ?_)
                  clear hmf
                  refine Halted.run ((fields_y _ _ _ dp _).mono ?_)
                  rintro e w2 ⟨rfl, hb⟩
                  have hL3 := HL.out.below' hb (by simp)
                  clear hb c1 c2 dp
                  have Hdp : Hid (decide (0 ≤ p.1) = false) := Lib.hid (by simp; have := Hp.out; omega)
                  go_wp2
                  go_loopw [13] (fun c wy => ∃ r : Nat, r ≤ q ∧ c = .int .i64 r ∧ LS (some ⟨g, 0, none⟩) (KL zs j) w wy) (fun c _ => q - (intOf c).toNat)
                  case atStart => exact ⟨0, by omega, rfl, hL3⟩
                  case round =>
                    clear hL3 HL
                    obtain ⟨r, hr, rfl, hL⟩ := hrel
                    by_cases hrq : r < q
                    · have hat2 := KL_at zs j r (by omega)
                      generalize kd (zs.getD r 0) r = p' at hat2
                      have Hat2 := Lib.hid hat2
                      clear hat2
                      have b1 : (0 : Int) ≤ (r : Int) := by omega
                      have b2 : (r : Int) < (j : Int) := by omega
                      have b3 : (0 : Int) ≤ (q : Int) := by omega
                      have b4 : (q : Int) < (j : Int) := by omega
                      go_wp2
                      obtain ⟨_, q1, q2, q3, q4⟩ := ls_S Hat.out Hat2.out hL
                      have k1 := cell_regrown q1
                      have k2 := cell_regrown q2
                      have cF : ∀ d os, Calls Try.prog 10 #[K p.1 p.2] (grow (redrawn wr d) os) fun e w'' => e = .returned (.bool false) ∧ ∃ x : Regrown, w'' = grow (redrawn wr x.d) x.os := fun d os => Calls.regrown_of (fields_y _ _ _ Hdp.out _)
                      refine wp_region_quiet_below (by kernel_rfl) (by kernel_rfl) ?_
                      repeat (first | go_big_quiet_step ((first | exact cF _ _)) | quiet_step ((first | exact cF _ _)))
                      refine wpQuiet_nil ?_
                      intro _ hw'
                      obtain ⟨⟨dq, osq⟩, hw''⟩ := hw'
                      subst hw''
                      have hLq := hL.below' (below_regrown wr dq osq) (Nat.le_refl _)
                      go_wp2
                      go_roundw
                      case rel => exact ⟨r + 1, by omega, by go_num, hLq⟩
                      case measure => simp [intOf]; omega
                    · go_wp2
                      go_roundw
                      case rel => exact ⟨q + 1, by omega, by go_num, by rw [Hcs.out]; go_num, hL⟩
                      case measure => simp [intOf]; omega
              · have hqj : q = j := by omega
                subst hqj
                have ee : (((cnt (KL zs q) : Nat) : Int) == ((cnt (KL zs q) : Nat) : Int)) = true := by simp
                go_wp2
                go_ret
                exact ⟨rfl, hL.b⟩
      · go_wp2
        clear h1 h40
        go_loopw [8, 9] (fun g i wx => ∃ j : Nat, j ≤ k ∧ i = .int .i64 j ∧ g = .int .i64 (cnt (KL zs j)) ∧ KRd ao2 (KL zs k) wx ∧ Below w.heap.size w wx) (fun _ i _ => k - (intOf i).toNat)
        case atStart => exact ⟨0, by omega, rfl, rfl, HKR.out, HB.out⟩
        case round =>
          obtain ⟨j, hj, rfl, rfl, hKR, hB⟩ := hrel
          have hcl := cnt_le (KL zs j)
          rw [KL_len] at hcl
          by_cases hlt : j < k
          · obtain ⟨g, rfl, hgl, c1, c2⟩ := hKR j _ (KL_at zs k j hlt)
            have hcs := cnt_snoc (KL zs j) (kd (zs.getD j 0) j)
            rw [← KL_snoc] at hcs
            generalize kd (zs.getD j 0) j = p at c1 c2 hcs
            have Hcs := Lib.hid hcs
            have HKR2 := Lib.hid hKR
            have HB2 := Lib.hid hB
            clear hcs hKR hB hgl
            by_cases hp : 0 ≤ p.1
            · have dp : decide (0 ≤ p.1) = true := by simp [hp]
              rw [if_pos hp] at Hcs
              clear hp
              go_wp2_with (with_reducible refine halt_call ?_)
              refine Halted.run ((fields_y _ _ _ dp _).mono ?_)
              rintro e w2 ⟨rfl, hb⟩
              have hKR3 := HKR2.out.below hb (Nat.le_refl _)
              have hB3 := below_step HB2.out hb
              clear hb dp
              go_wp2
              go_roundw
              case rel => exact ⟨j + 1, by omega, by go_num, by rw [Hcs.out]; go_num, hKR3, hB3⟩
              case measure => simp [intOf]; omega
            · have dp : decide (0 ≤ p.1) = false := by simp; omega
              rw [if_neg hp] at Hcs
              clear hp
              go_wp2_with (with_reducible refine halt_call ?_)
              refine Halted.run ((fields_y _ _ _ dp _).mono ?_)
              rintro e w2 ⟨rfl, hb⟩
              have hKR3 := HKR2.out.below hb (Nat.le_refl _)
              have hB3 := below_step HB2.out hb
              clear hb dp
              go_wp2
              go_roundw
              case rel => exact ⟨j + 1, by omega, by go_num, by rw [Hcs.out]; go_num, hKR3, hB3⟩
              case measure => simp [intOf]; omega
          · have hjk : j = k := by omega
            subst hjk
            have HKR2 := Lib.hid hKR
            have HB2 := Lib.hid hB
            clear hKR hB HKR HB hlt hj
            go_wp2
            go_loopw [10, 11] (fun fc i wx => ∃ q : Nat, q ≤ j ∧ i = .int .i64 q ∧ fc = .int .i64 (cnt (KL zs q)) ∧ LS ao2 (KL zs j) w wx) (fun _ i _ => j - (intOf i).toNat)
            case atStart => exact ⟨0, by omega, rfl, rfl, HKR2.out, HB2.out⟩
            case round =>
              clear HKR2 HB2
              obtain ⟨q, hq, rfl, rfl, hL⟩ := hrel
              have hcl := cnt_le (KL zs q)
              rw [KL_len] at hcl
              by_cases hlt : q < j
              · obtain ⟨g, rfl, hgl, c1, c2⟩ := hL.k q _ (KL_at zs j q hlt)
                have hcs := cnt_snoc (KL zs q) (kd (zs.getD q 0) q)
                rw [← KL_snoc] at hcs
                have hat := KL_at zs j q hlt
                have hne := fun z' r hr => kd_ne (zs.getD q 0) z' q r hr
                generalize kd (zs.getD q 0) q = p at c1 c2 hcs hat hne
                have Hcs := Lib.hid hcs
                have Hat := Lib.hid hat
                have Hne := Lib.hid hne
                have HL := Lib.hid hL
                clear hcs hat hne hL hgl
                by_cases hp : 0 ≤ p.1
                · have dp : decide (0 ≤ p.1) = true := by simp [hp]
                  rw [if_pos hp] at Hcs
                  have Hp := Lib.hid hp
                  have hmf := Hmf.out
                  clear hp
                  go_wp2_with (with_reducible refine halt_call ?_)
                  clear hmf
                  refine Halted.run ((fields_y _ _ _ dp _).mono ?_)
                  rintro e w2 ⟨rfl, hb⟩
                  have hL3 := HL.out.below' hb (by simp)
                  clear hb c1 c2 dp
                  have Hdp : Hid (decide (0 ≤ p.1) = true) := Lib.hid (by simp [Hp.out])
                  go_wp2
                  go_loopw [13] (fun c wy => ∃ r : Nat, r ≤ q ∧ c = .int .i64 r ∧ LS (some ⟨g, 0, none⟩) (KL zs j) w wy) (fun c _ => q - (intOf c).toNat)
                  case atStart => exact ⟨0, by omega, rfl, hL3⟩
                  case round =>
                    clear hL3 HL
                    obtain ⟨r, hr, rfl, hL⟩ := hrel
                    by_cases hrq : r < q
                    · have hat2 := KL_at zs j r (by omega)
                      have hne2 := Hne.out (zs.getD r 0) r hrq Hp.out
                      generalize kd (zs.getD r 0) r = p' at hat2 hne2
                      have Hat2 := Lib.hid hat2
                      have Hne2 := Lib.hid hne2
                      clear hat2 hne2
                      have b1 : (0 : Int) ≤ (r : Int) := by omega
                      have b2 : (r : Int) < (j : Int) := by omega
                      have b3 : (0 : Int) ≤ (q : Int) := by omega
                      have b4 : (q : Int) < (j : Int) := by omega
                      go_wp2
                      obtain ⟨_, q1, q2, q3, q4⟩ := ls_S Hat.out Hat2.out hL
                      have k1 := cell_regrown q1
                      have k2 := cell_regrown q2
                      have k3 := cell_regrown q3
                      have k4 := cell_regrown q4
                      have cF : ∀ d os, Calls Try.prog 10 #[K p.1 p.2] (grow (redrawn wr d) os) fun e w'' => e = .returned (.bool true) ∧ ∃ x : Regrown, w'' = grow (redrawn wr x.d) x.os := fun d os => Calls.regrown_of (fields_y _ _ _ Hdp.out _)
                      have cE : ∀ d os, Calls Try.prog 11 #[K p.1 p.2, K p'.1 p'.2] (grow (redrawn wr d) os) fun e w'' => e = .returned (.bool false) ∧ ∃ x : Regrown, w'' = grow (redrawn wr x.d) x.os := fun d os => Calls.regrown_of (eq_y _ _ _ _ _ Hne2.out _)
                      refine wp_region_quiet_below (by kernel_rfl) (by kernel_rfl) ?_
                      repeat (first | go_big_quiet_step ((first | exact cF _ _ | exact cE _ _)) | quiet_step ((first | exact cF _ _ | exact cE _ _)))
                      refine wpQuiet_nil ?_
                      intro _ hw'
                      obtain ⟨⟨dq, osq⟩, hw''⟩ := hw'
                      subst hw''
                      have hLq := hL.below' (below_regrown wr dq osq) (Nat.le_refl _)
                      go_wp2
                      go_roundw
                      case rel => exact ⟨r + 1, by omega, by go_num, hLq⟩
                      case measure => simp [intOf]; omega
                    · go_wp2
                      go_roundw
                      case rel => exact ⟨q + 1, by omega, by go_num, by rw [Hcs.out]; go_num, hL⟩
                      case measure => simp [intOf]; omega
                · have dp : decide (0 ≤ p.1) = false := by simp; omega
                  rw [if_neg hp] at Hcs
                  have Hp := Lib.hid hp
                  have hmf := Hmf.out
                  clear hp
                  go_wp2_with (with_reducible refine halt_call ?_)
                  clear hmf
                  refine Halted.run ((fields_y _ _ _ dp _).mono ?_)
                  rintro e w2 ⟨rfl, hb⟩
                  have hL3 := HL.out.below' hb (by simp)
                  clear hb c1 c2 dp
                  have Hdp : Hid (decide (0 ≤ p.1) = false) := Lib.hid (by simp; have := Hp.out; omega)
                  go_wp2
                  go_loopw [13] (fun c wy => ∃ r : Nat, r ≤ q ∧ c = .int .i64 r ∧ LS (some ⟨g, 0, none⟩) (KL zs j) w wy) (fun c _ => q - (intOf c).toNat)
                  case atStart => exact ⟨0, by omega, rfl, hL3⟩
                  case round =>
                    clear hL3 HL
                    obtain ⟨r, hr, rfl, hL⟩ := hrel
                    by_cases hrq : r < q
                    · have hat2 := KL_at zs j r (by omega)
                      generalize kd (zs.getD r 0) r = p' at hat2
                      have Hat2 := Lib.hid hat2
                      clear hat2
                      have b1 : (0 : Int) ≤ (r : Int) := by omega
                      have b2 : (r : Int) < (j : Int) := by omega
                      have b3 : (0 : Int) ≤ (q : Int) := by omega
                      have b4 : (q : Int) < (j : Int) := by omega
                      go_wp2
                      obtain ⟨_, q1, q2, q3, q4⟩ := ls_S Hat.out Hat2.out hL
                      have k1 := cell_regrown q1
                      have k2 := cell_regrown q2
                      have cF : ∀ d os, Calls Try.prog 10 #[K p.1 p.2] (grow (redrawn wr d) os) fun e w'' => e = .returned (.bool false) ∧ ∃ x : Regrown, w'' = grow (redrawn wr x.d) x.os := fun d os => Calls.regrown_of (fields_y _ _ _ Hdp.out _)
                      refine wp_region_quiet_below (by kernel_rfl) (by kernel_rfl) ?_
                      repeat (first | go_big_quiet_step ((first | exact cF _ _)) | quiet_step ((first | exact cF _ _)))
                      refine wpQuiet_nil ?_
                      intro _ hw'
                      obtain ⟨⟨dq, osq⟩, hw''⟩ := hw'
                      subst hw''
                      have hLq := hL.below' (below_regrown wr dq osq) (Nat.le_refl _)
                      go_wp2
                      go_roundw
                      case rel => exact ⟨r + 1, by omega, by go_num, hLq⟩
                      case measure => simp [intOf]; omega
                    · go_wp2
                      go_roundw
                      case rel => exact ⟨q + 1, by omega, by go_num, by rw [Hcs.out]; go_num, hL⟩
                      case measure => simp [intOf]; omega
              · have hqj : q = j := by omega
                subst hqj
                have ee : (((cnt (KL zs q) : Nat) : Int) == ((cnt (KL zs q) : Nat) : Int)) = true := by simp
                go_wp2
                go_ret
                exact ⟨rfl, hL.b⟩
end Go.Proofs.Ytnpoleeflannjaa
