/- turn. -/
import Derived.Test.YtknhignklepgeaaTrnD
import Derived.Deep.DeepCutAuto
namespace Go.Proofs.Ytknhignklepgeaa
open Go.RowKit

def QTurn (kind : Bool) (F : Fo) : Prop := ∀ (w : World) (b o kb lo hi : Nat) (j k t : Int) (ao : Option Addr) (cap : Nat), (cF F : Int) - 100000 ≤ j → j ≤ 100000 → SmallE ⟨k, t, F⟩ →
  w.cell? ⟨b, o, none⟩ = some (.int .i64 k) → w.cell? ⟨b, o + 1, none⟩ = some (.int .i64 t) → w.cell? ⟨b, o + 2, none⟩ = some (.slice ao F.els.length cap) → (∀ q, w.frozen? ⟨b, q, none⟩ = false) → w.heap[kb]? = some (.cells #[.int .i64 j] 3 (0, 0)) →
  KI w lo hi ao cap F → (b < lo ∨ hi ≤ b) → (kb < lo ∨ hi ≤ kb) → b ≠ kb → hi ≤ w.heap.size →
  Calls Try.prog 20 #[.pointer (some ⟨b, o, none⟩), .pointer (some ⟨kb, 0, none⟩), .bool kind] w fun r w' => r = .returned (.tuple #[]) ∧ TDone w w' b o kb lo hi j k t ao cap F kind
theorem small_mem : ∀ (F : Fo), Small F → ∀ e, e ∈ F.els → SmallE e
  | .cons k t kids rest, h, e, he => by
    rcases List.mem_cons.1 he with rfl | he
    · exact ⟨h.1, h.2.1, h.2.2.1⟩
    · exact small_mem rest h.2.2.2 e he
theorem cF_join : ∀ A B : List El, cF (Fo.of (A ++ B)) = cF (Fo.of A) + cF (Fo.of B)
  | [], B => by show cF (Fo.of B) = 0 + cF (Fo.of B); omega
  | a :: A, B => by show 1 + cF a.kids + cF (Fo.of (A ++ B)) = 1 + cF a.kids + cF (Fo.of A) + cF (Fo.of B); rw [cF_join A B]; omega
theorem cell_lt {w : World} {b o : Nat} {v : Value} (h : w.cell? ⟨b, o, none⟩ = some v) : b < w.heap.size := World.block_lt_of_cell? _ _ h
/-- Behind the ifs. -/
structure TPre (w wx : World) (b o kb : Nat) (j k t : Int) (kind : Bool) : Prop where
  c0 : wx.cell? ⟨b, o, none⟩ = some (.int .i64 (tk kind j k))
  c1 : wx.cell? ⟨b, o + 1, none⟩ = some (.int .i64 (tt kind j t))
  cells : ∀ q, q ≠ o → q ≠ o + 1 → wx.cell? ⟨b, q, none⟩ = w.cell? ⟨b, q, none⟩
  fr : ∀ q, wx.frozen? ⟨b, q, none⟩ = false
  p : wx.heap[kb]? = some (.cells #[.int .i64 j] 3 (0, 0))
  oth : ∀ q, q ≠ b → wx.heap[q]? = w.heap[q]?
  os : wx.os = w.os
  tape : wx.tape = w.tape
  output : wx.output = w.output
  size : wx.heap.size = w.heap.size
theorem cell_set {w : World} {b i : Nat} {u v : Value} (h : w.cell? ⟨b, i, none⟩ = some u) : (w.setCell ⟨b, i, none⟩ v).cell? ⟨b, i, none⟩ = some v := by
  exact World.cell?_setCell_same w ⟨b, i, none⟩ v h
theorem cell_far {w : World} {b i q : Nat} {v : Value} (h : q ≠ i) : (w.setCell ⟨b, i, none⟩ v).cell? ⟨b, q, none⟩ = w.cell? ⟨b, q, none⟩ :=
  World.cell?_setCell_other _ _ _ _ (fun e => h (by injection e with _ e _; exact e.symm))
theorem fr_set {w : World} {b i b' q : Nat} {v : Value} : (w.setCell ⟨b, i, none⟩ v).frozen? ⟨b', q, none⟩ = w.frozen? ⟨b', q, none⟩ := World.frozen?_setCell _ _ _ _
set_option maxHeartbeats 4000000 in
theorem turn_any (kind : Bool) (F : Fo) : QTurn kind F := by
  refine Fo.ind (Q := QTurn kind) (fun F IH w b o kb lo hi j k t ao cap hj1 hj2 hsm c0 c1 c2 hfr hp hk hbi hki hbk hhi => ?_) F
  have lb := cell_lt c0
  have p0 := blk_cell hp 0
  have pf := blk_free hp 0
  have f0 := hfr o
  have f1 := hfr (o + 1)
  have hlen1 := hk.1
  have hlen2 := hk.2.1
  obtain ⟨⟨k1, k2⟩, ⟨t1, t2⟩, hsf⟩ := hsm
  dsimp only at k1 k2 t1 t2 hsf
  have hpre0 : (j ≠ 0 → TPre w w b o kb j k t kind) := fun hj => ⟨by unfold tk; rw [if_neg (fun h => hj h.1)]; exact c0, by unfold tt; rw [if_neg (fun h => hj h.1)]; exact c1, fun _ _ _ => rfl, hfr, hp, fun _ _ => rfl, rfl, rfl, rfl, rfl⟩
  have hpre1 : (kind = true → j = 0 → TPre w (w.setCell ⟨b, o, none⟩ (.int .i64 (k + 1))) b o kb j k t kind) := fun hk hj => by
    refine ⟨?_, ?_, fun q r1 r2 => cell_far r1, fun q => by rw [fr_set]; exact hfr q, ?_, fun q hq => Below.heap_setCell _ _ _ _ (by exact hq), rfl, rfl, rfl, World.size_setCell _ _ _⟩
    · unfold tk; rw [if_pos ⟨hj, hk⟩]; exact cell_set c0
    · unfold tt; rw [if_neg (fun h => by rw [hk] at h; exact absurd h.2 (by decide)), cell_far (by omega)]; exact c1
    · rw [Below.heap_setCell _ _ _ _ (by show kb ≠ b; omega)]; exact hp
  have hpre2 : (kind = false → j = 0 → TPre w (w.setCell ⟨b, o + 1, none⟩ (.int .i64 (t + 1))) b o kb j k t kind) := fun hk hj => by
    refine ⟨?_, ?_, fun q r1 r2 => cell_far r2, fun q => by rw [fr_set]; exact hfr q, ?_, fun q hq => Below.heap_setCell _ _ _ _ (by exact hq), rfl, rfl, rfl, World.size_setCell _ _ _⟩
    · unfold tk; rw [if_neg (fun h => by rw [hk] at h; exact absurd h.2 (by decide)), cell_far (by omega)]; exact c0
    · unfold tt; rw [if_pos ⟨hj, hk⟩]; exact cell_set c1
    · rw [Below.heap_setCell _ _ _ _ (by show kb ≠ b; omega)]; exact hp
  have HST := Lib.hid (fun (wx : World) => TL.start (wx := wx) (o := o) (j := j) (k := k) (t := t) (kind := kind) hk hbi hki)
  have HP0 := Lib.hid hpre0; have HP1 := Lib.hid hpre1; have HP2 := Lib.hid hpre2
  have HK := Lib.hid hk; have HIH := Lib.hid IH; have HSF := Lib.hid hsf; have HC2 := Lib.hid c2
  clear hk IH hfr hp hsf hpre0 hpre1 hpre2 c2
  go_enter Try.func20, Try.ntmps20
  go_upto_if 10 with fail
  go_cut [] (fun wx => TPre w wx b o kb j k t kind)
  case first =>
    by_cases hj0 : j = 0
    · cases kind
      · go_wp2
        go_meet
        exact HP2.out (by first | rfl | trivial) hj0
      · go_wp2
        go_meet
        exact HP1.out (by first | rfl | trivial) hj0
    · go_wp2
      go_meet
      exact HP0.out hj0
  case rest =>
    clear HP0 HP1 HP2 c0 c1 p0 pf f0 f1
    have p0 := blk_cell hcut.p 0
    have pf := blk_free hcut.p 0
    have HCUT := Lib.hid hcut
    clear hcut
    have hst : ∃ g B, TL w (wc.setCell ⟨kb, 0, none⟩ (.int .i64 (j - 1))) b o kb lo hi g j (j - 1) k t ao cap F kind [] B := by
      have H := HCUT.out
      refine HST.out _ ?_ ?_ (fun q r1 r2 => ?_) (fun q => ?_) (blk_set H.p 0 _) (fun q r1 r2 => ?_) H.os H.tape H.output ?_
      · rw [World.cell?_of_block (Below.heap_setCell _ _ _ _ (by exact hbk))]; exact H.c0
      · rw [World.cell?_of_block (Below.heap_setCell _ _ _ _ (by exact hbk))]; exact H.c1
      · rw [World.cell?_of_block (Below.heap_setCell _ _ _ _ (by exact hbk))]; exact H.cells q r1 r2
      · rw [fr_set]; exact H.fr q
      · rw [Below.heap_setCell _ _ _ _ (by exact r2)]; exact H.oth q r1
      · rw [World.size_setCell, H.size]; exact Nat.le_refl _
    have HS := Lib.hid hst
    clear hst HST
    go_wp2_with fail
    go_loopw [6] (fun i wx => ∃ (g : Nat) (A B : List Nc) (jc : Int), i = .int .i64 A.length ∧ TL w wx b o kb lo hi g j jc k t ao cap F kind A B) (fun i _ => F.els.length - (intOf i).toNat)
    case atStart =>
      obtain ⟨g, B, h⟩ := HS.out
      exact ⟨g, [], B, j - 1, rfl, h⟩
    case round =>
      clear HS p0 pf HCUT
      obtain ⟨g, A, B, jc, rfl, hT⟩ := hrel
      have c2 := (hT.cells (o + 2) (by omega) (by omega)).trans HC2.out
      have hlen := hT.len
      cases B with
      | nil =>
        have hdone := hT.done HK.out
        have HD := Lib.hid hdone
        have hnl : ¬ A.length < F.els.length := by rw [List.length_nil] at hlen; omega
        clear hdone hT hlen
        go_wp2_with fail
        go_end0
        exact ⟨rfl, HD.out⟩
      | cons c B =>
        rw [List.length_cons] at hlen
        have hlt : A.length < F.els.length := by omega
        obtain ⟨lo1, hi1, s1, s2, s3, s4⟩ := ChI.split A lo hi hT.ch
        have hF : F ≠ .nil := fun e => by
          rw [e] at hlt
          have e0 : (Fo.els .nil).length = 0 := rfl
          omega
        obtain ⟨g1, g2, g3⟩ := hT.gin.resolve_left hF
        obtain ⟨m0, m1, m2⟩ := hT.mem.mid
        have hmem := hT.sub c (by simp)
        have hjj := hT.jj
        rw [List.map_cons] at hjj
        have e1 : cF (Fo.of (c.e :: B.map (·.e))) = 1 + cF c.e.kids + cF (Fo.of (B.map (·.e))) := rfl
        have hcm := cF_mem F _ hmem
        have hsc := small_mem F HSF.out _ hmem
        have q1 := ChI.le _ _ _ s1
        have q2 := s3.2.2.1
        have q3 := ChI.le _ _ _ s4
        have q4 := hT.size
        have hjc : jc = j - (1 + (cF F : Int)) + (1 + (cF c.e.kids : Int) + (cF (Fo.of (B.map (·.e))) : Int)) := by rw [e1] at hjj; omega
        have hle : cF c.e.kids + cF (Fo.of (B.map (·.e))) + 1 ≤ cF F := by
          have h1 := congrArg cF hT.tr
          rw [tF_cF, cF_join, Fo.of_els, tF_cF, List.map_cons, e1] at h1
          omega
        have hcall := HIH.out c.e hmem wr g (A.length * 3) kb lo1 hi1 jc c.e.k c.e.t c.ao c.cap (by omega) (by omega) hsc m0 m1 m2 (hT.fz hF) hT.p s3 (s2 g rfl) (by omega) (by omega) (by omega)
        have hstep := fun (w' : World) (hd : TDone wr w' g (A.length * 3) kb lo1 hi1 jc c.e.k c.e.t c.ao c.cap c.e.kids kind) => hT.step lb hbi hki hbk hhi s1 s2 s3 s4 hd
        have HC := Lib.hid hcall; have HSTEP := Lib.hid hstep
        clear hcall hstep s1 s2 s3 s4 hT m0 m1 m2 hmem hjj e1 hcm hsc hle hjc HIH hF HK
        clear q1 q2 q3 q4
        subst g1
        go_wp2_with (with_reducible refine halt_call ?_)
        refine Halted.run (HC.out.mono ?_); rintro r w' ⟨rfl, hd⟩
        have HD := Lib.hid (HSTEP.out w' hd)
        clear hd HC HSTEP
        go_wp2_with fail
        refine ⟨⟨g, _, B, _, ?_, HD.out⟩, by simp [intOf]; omega⟩
        rw [List.length_append, List.length_singleton]
        go_num
end Go.Proofs.Ytknhignklepgeaa
