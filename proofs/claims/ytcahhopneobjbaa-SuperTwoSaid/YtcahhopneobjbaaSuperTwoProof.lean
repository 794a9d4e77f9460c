/- SuperTwo: two texts side by side on one device do not touch one another, nor what stands beside them; for every two texts and every list of Booleans. (The frame of this text is one that the kit's proof-skeleton.mjs writes, turned to these parameters.) -/
import Derived.Test.YtcahhopneobjbaaRows
import Derived.Test.YtcahhopneobjbaaTwoWalk
import Derived.Test.YtcahhopneobjbaaOpen
import Derived.WalkKit
import Derived.ProofKit
import Derived.OpenShut
import Derived.ChangeOld
import Derived.Below
namespace Go.Proofs.Ytcahhopneobjbaa.superTwo
open Go.ChangeShapes Go.WideShapes Go.ChangeAt Go.RowKit
set_option linter.unusedVariables false

theorem own : ownKnob Try.prog.godebug = none := by kernel_rfl
theorem laidOut : laidOutB Try.prog = true := by kernel_rfl

/-! ### The walk -/
theorem walk (a0 : Option Addr) (len0 cap0 : Nat) (z0 : List Int) (n0 : len0 = z0.length) (l0 : len0 ≤ cap0) (c0 : cap0 ≤ 9223372036854775807) (e0 : a0 = none → cap0 = 0) (a1 : Option Addr) (len1 cap1 : Nat) (z1 : List Int) (n1 : len1 = z1.length) (l1 : len1 ≤ cap1) (c1 : cap1 ≤ 9223372036854775807) (e1 : a1 = none → cap1 = 0) (a2 : Option Addr) (len2 cap2 : Nat) (z2 : List Bool) (n2 : len2 = z2.length) (l2 : len2 ≤ cap2) (c2 : cap2 ≤ 9223372036854775807) (e2 : a2 = none → cap2 = 0) (w : World) (r0 : Rd .u8 w a0 z0 ∧ ∀ n ∈ z0, (Lit.int .u8 n).wf = true) (r1 : Rd .u8 w a1 z1 ∧ ∀ n ∈ z1, (Lit.int .u8 n).wf = true) (r2 : RdB w a2 z2) :
    Calls Try.prog 11 #[.slice a0 len0 cap0, .slice a1 len1 cap1, .slice a2 len2 cap2] w fun e w' => e = .returned (.bool true) ∧ Below w.heap.size w w' := by
  exact superTwo_any a0 len0 cap0 z0 a1 len1 cap1 z1 a2 len2 cap2 z2 w n0 l0 c0 e0 r0.1 (byt_wf r0.2) n1 l1 c1 e1 r1.1 (byt_wf r1.2) n2 (by omega) r2

/-! ### The row -/
set_option maxRecDepth 100000 in
theorem lifted (os : Os) (started : os.Started) (H : Type) (enc : TypeId × Value → H) :
    ReturnsInHanded {} Try.checked os 11 .any (Rows.superTwoSpec.pre6 enc Try.prog Try.f11 Rows.superTwoRow.domain false) (Rows.superTwoSpec.post enc Try.prog Try.f11 false true false false) := by
  refine returnsInHanded_of_change (C := Try.checked) own started (by kernel_rfl) Try.func11
    (ChangeSpec.witness6 (enc := enc) (C := Try.checked) false ⟨#[], #[.slice none 0 0, .slice none 0 0, .slice none 0 0], []⟩ 8 (by kernel_rfl) (by kernel_rfl) (by kernel_rfl) (by kernel_rfl)) ?_
  intro W base args ds gs before hval0 hW hcnd _
  have hval : ∀ (j : Nat) t v, Try.f11.params[j]? = some t → args[j]? = some v → Value.okWide Try.prog W .any base t v := hval0
  have hW' := hW
  obtain ⟨p, q, hA0, hV, rfl, hfz, hnd⟩ := hW
  have hA : DataW.TrodAll enc Try.prog W 0 (fun _ => true) true Try.f11.params.toList args.toList ds p := hA0
  rw [Try.params11] at hA hval
  obtain ⟨v0, vs0, d0, ds0, p0, q0, hargs, rfl, rfl, h0, r0'⟩ := trodAll_cons hA
  obtain ⟨v1, vs1, d1, ds1, p1, q1, rfl, rfl, rfl, h1, r1'⟩ := trodAll_cons r0'
  obtain ⟨v2, vs2, d2, ds2, p2, q2, rfl, rfl, rfl, h2, r2'⟩ := trodAll_cons r1'
  obtain ⟨rfl, rfl, rfl⟩ := trodAll_nil r2'
  obtain rfl : args = #[v0, v1, v2] := by cases args; simp_all
  obtain ⟨rfl, rfl⟩ := trodVars_none hV
  have k0 := h0
  have lt0 : ∀ x ∈ p0, x.block < W.heap.size := by obtain ⟨m, hm⟩ := k0; exact DataW.trod_lt m _ _ _ hm
  have k1 := h1
  have lt1 : ∀ x ∈ p1, x.block < W.heap.size := by obtain ⟨m, hm⟩ := k1; exact DataW.trod_lt m _ _ _ hm
  have k2 := h2
  have lt2 : ∀ x ∈ p2, x.block < W.heap.size := by obtain ⟨m, hm⟩ := k2; exact DataW.trod_lt m _ _ _ hm
  obtain ⟨a0, len0, cap0, z0, rfl, n0, l0, c0, e0, r0⟩ := opened_ints Try.underlying22 Try.underlying5 (by kernel_rfl) (hval 0 22 v0 rfl rfl) k0
  obtain ⟨a1, len1, cap1, z1, rfl, n1, l1, c1, e1, r1⟩ := opened_ints Try.underlying22 Try.underlying5 (by kernel_rfl) (hval 1 22 v1 rfl rfl) k1
  obtain ⟨a2, len2, cap2, z2, rfl, n2, l2, c2, e2, r2⟩ := opened_bools Try.underlying23 Try.underlying4 (by kernel_rfl) (hval 2 23 v2 rfl rfl) k2
  clear hA0 hval0
  refine (walk a0 len0 cap0 z0 n0 l0 c0 e0 a1 len1 cap1 z1 n1 l1 c1 e1 a2 len2 cap2 z2 n2 l2 c2 e2 W r0 r1 r2).mono fun e W' ⟨he, bel⟩ => ?_
  subst he
  exact ⟨_, rfl, _, _, _, [], _, [], hW', trodAll_mk1 (shut_bool Try.underlying4 _), (trodAll_cons_mk (Below.trod laidOut (by kernel_rfl) (of_decide_eq_true (by kernel_rfl)) k0 bel lt0) (trodAll_cons_mk (Below.trod laidOut (by kernel_rfl) (of_decide_eq_true (by kernel_rfl)) k1 bel lt1) (trodAll_cons_mk (Below.trod laidOut (by kernel_rfl) (of_decide_eq_true (by kernel_rfl)) k2 bel lt2) trodAll_mk0))), rfl, bel.frame _, fun h => by cases h⟩

theorem over : Rows.superTwoRow.holds Try.pinned (OpenSpec.ofChange Rows.superTwoSpec) :=
  OpenClaim.holds_of_wide 11 Try.f11 rfl rfl rfl rfl rfl rfl rfl ⟨rfl, rfl, rfl, rfl, rfl⟩ rfl rfl rfl rfl rfl (by kernel_rfl) Try.func11 (by kernel_rfl)
    (of_decide_eq_true (by kernel_rfl)) (by unfold Func.isWrapper; first | (rw [if_pos (by decide +kernel)]; kernel_rfl) | (rw [if_neg (by decide +kernel)]; exact ⟨rfl, rfl⟩))
    (fun os started H enc _ => lifted os started H enc)

theorem superTwo_holds : Rows.SuperTwoSaid := over
end Go.Proofs.Ytcahhopneobjbaa.superTwo
