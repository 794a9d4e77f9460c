/- What turn computes, as plain data; a tree in memory as it is turned. -/
import Derived.Test.YtknhignklepgeaaTre
namespace Go.Proofs.Ytknhignklepgeaa
open Go.RowKit

def tk (kind : Bool) (j k : Int) : Int := if j = 0 ∧ kind = true then k + 1 else k
def tt (kind : Bool) (j t : Int) : Int := if j = 0 ∧ kind = false then t + 1 else t
/-- The j-th node of the trees side by side is another one. -/
def tF (kind : Bool) : Int → Fo → Fo
  | _, .nil => .nil
  | j, .cons k t kids rest => .cons (tk kind j k) (tt kind j t) (tF kind (j - 1) kids) (tF kind (j - (1 + (cF kids : Int))) rest)
def tE (kind : Bool) (j : Int) (e : El) : El := ⟨tk kind j e.k, tt kind j e.t, tF kind (j - 1) e.kids⟩
theorem tF_len (kind : Bool) : ∀ (F : Fo) (j : Int), (tF kind j F).els.length = F.els.length
  | .nil, _ => rfl
  | .cons k t kids rest, j => by rw [tF, Fo.els, Fo.els, List.length_cons, List.length_cons, tF_len kind rest]
theorem tF_cF (kind : Bool) : ∀ (F : Fo) (j : Int), cF (tF kind j F) = cF F
  | .nil, _ => rfl
  | .cons k t kids rest, j => by rw [tF, cF, cF, tF_cF kind kids, tF_cF kind rest]
theorem tF_nil {kind : Bool} {j : Int} {F : Fo} (h : F = .nil) : tF kind j F = .nil := by rw [h]; rfl
theorem head_ne (kind : Bool) (k t : Int) : (k == tk kind 0 k && t == tt kind 0 t) = false := by
  cases kind
  · have : (t == tt false 0 t) = false := by
      rw [beq_eq_false_iff_ne]; unfold tt; rw [if_pos ⟨rfl, rfl⟩]; omega
    rw [this, Bool.and_false]
  · have : (k == tk true 0 k) = false := by
      rw [beq_eq_false_iff_ne]; unfold tk; rw [if_pos ⟨rfl, rfl⟩]; omega
    rw [this, Bool.false_and]
theorem head_ne' (kind : Bool) (k t : Int) : (tk kind 0 k == k && tt kind 0 t == t) = false := by
  cases kind
  · have : (tt false 0 t == t) = false := by
      rw [beq_eq_false_iff_ne]; unfold tt; rw [if_pos ⟨rfl, rfl⟩]; omega
    rw [this, Bool.and_false]
  · have : (tk true 0 k == k) = false := by
      rw [beq_eq_false_iff_ne]; unfold tk; rw [if_pos ⟨rfl, rfl⟩]; omega
    rw [this, Bool.false_and]
/-- Then they are not the same. -/
theorem eqF_turn (kind : Bool) : ∀ (F : Fo) (j : Int), 0 ≤ j → j < cF F → eqF F (tF kind j F) = false ∧ eqF (tF kind j F) F = false
  | .nil, j, h0, h1 => by have : cF Fo.nil = 0 := rfl; omega
  | .cons k t kids rest, j, h0, h1 => by
    have hc : cF (.cons k t kids rest) = 1 + cF kids + cF rest := rfl
    rw [tF, eqF, eqF]
    by_cases hj : j = 0
    · subst hj
      rw [head_ne, head_ne']
      exact ⟨rfl, rfl⟩
    · by_cases hk : j - 1 < cF kids
      · obtain ⟨a, b⟩ := eqF_turn kind kids (j - 1) (by omega) hk
        rw [a, b, Bool.and_false, Bool.and_false]
        exact ⟨rfl, rfl⟩
      · obtain ⟨a, b⟩ := eqF_turn kind rest (j - (1 + (cF kids : Int))) (by omega) (by omega)
        rw [a, b, Bool.and_false, Bool.and_false]
        exact ⟨rfl, rfl⟩
theorem eqE_turn (kind : Bool) (e : El) (j : Int) (h0 : 0 ≤ j) (h1 : j < 1 + cF e.kids) : eqE e (tE kind j e) = false ∧ eqE (tE kind j e) e = false := by
  unfold eqE tE
  by_cases hj : j = 0
  · subst hj
    rw [head_ne, head_ne']
    exact ⟨rfl, rfl⟩
  · obtain ⟨a, b⟩ := eqF_turn kind e.kids (j - 1) (by omega) (by omega)
    rw [a, b, Bool.and_false, Bool.and_false]
    exact ⟨rfl, rfl⟩

/-- The nodes of a list, in block g, one behind the other. -/
def CellsAt (w : World) (g : Nat) (cs : List Nc) : Prop := ∀ j (h : j < cs.length), w.cell? ⟨g, j * 3, none⟩ = some (.int .i64 cs[j].e.k) ∧ w.cell? ⟨g, j * 3 + 1, none⟩ = some (.int .i64 cs[j].e.t) ∧ w.cell? ⟨g, j * 3 + 2, none⟩ = some (.slice cs[j].ao cs[j].e.kids.els.length cs[j].cap)
theorem FoI.chs {w : World} : ∀ (F : Fo) (lo hi g i : Nat), lo ≤ hi → FoI w lo hi g i F → ∃ cs : List Nc, cs.map (·.e) = F.els ∧
    (∀ j (h : j < cs.length), w.cell? ⟨g, (i + j) * 3, none⟩ = some (.int .i64 cs[j].e.k) ∧ w.cell? ⟨g, (i + j) * 3 + 1, none⟩ = some (.int .i64 cs[j].e.t) ∧ w.cell? ⟨g, (i + j) * 3 + 2, none⟩ = some (.slice cs[j].ao cs[j].e.kids.els.length cs[j].cap)) ∧ ChI w (some g) lo hi cs
  | .nil, lo, hi, g, i, hl, _ => ⟨[], rfl, fun j h => absurd h (by simp), hl⟩
  | .cons k t kids rest, lo, hi, g, i, hl, h => by
    obtain ⟨h1, h2, ao, cap, lo1, hi1, h3, h4, h5, h6, h7, h8, h9, h10, h11⟩ := h
    obtain ⟨cs, e1, e2, e3⟩ := FoI.chs rest hi1 hi g (i + 1) h8 h11
    refine ⟨⟨⟨k, t, kids⟩, ao, cap⟩ :: cs, by rw [List.map_cons, e1]; rfl, fun j hj => ?_, lo1, hi1, h6, fun g' q => ?_, ⟨h4, h5, h7, ?_⟩, e3⟩
    · cases j with
      | zero => exact ⟨h1, h2, h3⟩
      | succ j =>
        have := e2 j (by simpa using hj)
        rw [show i + 1 + j = i + (j + 1) by omega] at this
        exact this
    · injection q with q; subst q; exact h9
    · rcases h10 with q | ⟨g', q1, q2, q3, q4, q5⟩
      · exact .inl q
      · exact .inr ⟨g', q1, q2, q3, q4, q5⟩
theorem ChI.split {w : World} {gb : Option Nat} {c : Nc} {B : List Nc} : ∀ (A : List Nc) (lo hi : Nat), ChI w gb lo hi (A ++ c :: B) →
    ∃ lo1 hi1, ChI w gb lo lo1 A ∧ (∀ g, gb = some g → g < lo1 ∨ hi1 ≤ g) ∧ KI w lo1 hi1 c.ao c.cap c.e.kids ∧ ChI w gb hi1 hi B
  | [], lo, hi, h => by
    obtain ⟨lo1, hi1, h1, h2, h3, h4⟩ := h
    exact ⟨lo1, hi1, h1, h2, h3, h4⟩
  | a :: A, lo, hi, h => by
    obtain ⟨lo1, hi1, h1, h2, h3, h4⟩ := h
    obtain ⟨lo2, hi2, q1, q2, q3, q4⟩ := ChI.split A hi1 hi h4
    exact ⟨lo2, hi2, ⟨lo1, hi1, h1, h2, h3, q1⟩, q2, q3, q4⟩
theorem ChI.join {w : World} {gb : Option Nat} {c : Nc} {B : List Nc} : ∀ (A : List Nc) (lo hi lo1 hi1 : Nat), ChI w gb lo lo1 A → (∀ g, gb = some g → g < lo1 ∨ hi1 ≤ g) → KI w lo1 hi1 c.ao c.cap c.e.kids → ChI w gb hi1 hi B → ChI w gb lo hi (A ++ c :: B)
  | [], _, _, lo1, hi1, h1, h2, h3, h4 => ⟨lo1, hi1, h1, h2, h3, h4⟩
  | _ :: A, _, hi, lo1, hi1, ⟨lo2, hi2, q1, q2, q3, q4⟩, h2, h3, h4 => ⟨lo2, hi2, q1, q2, q3, ChI.join A hi2 hi lo1 hi1 q4 h2 h3 h4⟩

/-- Behind turn. -/
structure TDone (w w' : World) (b o kb lo hi : Nat) (j k t : Int) (ao : Option Addr) (cap : Nat) (F : Fo) (kind : Bool) : Prop where
  c0 : w'.cell? ⟨b, o, none⟩ = some (.int .i64 (tk kind j k))
  c1 : w'.cell? ⟨b, o + 1, none⟩ = some (.int .i64 (tt kind j t))
  cells : ∀ q, q ≠ o → q ≠ o + 1 → w'.cell? ⟨b, q, none⟩ = w.cell? ⟨b, q, none⟩
  fr : ∀ q, w'.frozen? ⟨b, q, none⟩ = false
  p : w'.heap[kb]? = some (.cells #[.int .i64 (j - (1 + (cF F : Int)))] 3 (0, 0))
  ki : KI w' lo hi ao cap (tF kind (j - 1) F)
  oth : ∀ q, q < w.heap.size → q ≠ b → q ≠ kb → (q < lo ∨ hi ≤ q) → w'.heap[q]? = w.heap[q]?
  os : w'.os = w.os
  tape : w'.tape = w.tape
  output : w'.output = w.output
  size : w.heap.size ≤ w'.heap.size
/-- In the midst of its loop: A is turned, B is not yet. -/
structure TL (w wx : World) (b o kb lo hi g : Nat) (j jc k t : Int) (ao : Option Addr) (cap : Nat) (F : Fo) (kind : Bool) (A B : List Nc) : Prop where
  c0 : wx.cell? ⟨b, o, none⟩ = some (.int .i64 (tk kind j k))
  c1 : wx.cell? ⟨b, o + 1, none⟩ = some (.int .i64 (tt kind j t))
  cells : ∀ q, q ≠ o → q ≠ o + 1 → wx.cell? ⟨b, q, none⟩ = w.cell? ⟨b, q, none⟩
  fr : ∀ q, wx.frozen? ⟨b, q, none⟩ = false
  p : wx.heap[kb]? = some (.cells #[.int .i64 jc] 3 (0, 0))
  oth : ∀ q, q < w.heap.size → q ≠ b → q ≠ kb → (q < lo ∨ hi ≤ q) → wx.heap[q]? = w.heap[q]?
  os : wx.os = w.os
  tape : wx.tape = w.tape
  output : wx.output = w.output
  size : w.heap.size ≤ wx.heap.size
  mem : CellsAt wx g (A ++ B)
  ch : ChI wx (some g) lo hi (A ++ B)
  fz : F ≠ .nil → ∀ q, wx.frozen? ⟨g, q, none⟩ = false
  gin : F = .nil ∨ (ao = some ⟨g, 0, none⟩ ∧ lo ≤ g ∧ g < hi)
  len : A.length + B.length = F.els.length
  sub : ∀ c, c ∈ B → c.e ∈ F.els
  jj : jc - (cF (Fo.of (B.map (·.e))) : Int) = j - (1 + (cF F : Int))
  tr : Fo.of (A.map (·.e) ++ (tF kind jc (Fo.of (B.map (·.e)))).els) = tF kind (j - 1) F
theorem CellsAt.mid {w : World} {g : Nat} {A B : List Nc} {c : Nc} (h : CellsAt w g (A ++ c :: B)) : w.cell? ⟨g, A.length * 3, none⟩ = some (.int .i64 c.e.k) ∧ w.cell? ⟨g, A.length * 3 + 1, none⟩ = some (.int .i64 c.e.t) ∧ w.cell? ⟨g, A.length * 3 + 2, none⟩ = some (.slice c.ao c.e.kids.els.length c.cap) := by
  have := h A.length (by simp)
  simpa using this
/-- One more kid is turned. -/
theorem TL.step {w wx w' : World} {b o kb lo hi g : Nat} {j jc k t : Int} {ao : Option Addr} {cap : Nat} {F : Fo} {kind : Bool} {A B : List Nc} {c : Nc} (h : TL w wx b o kb lo hi g j jc k t ao cap F kind A (c :: B))
    (hb : b < w.heap.size) (hbi : b < lo ∨ hi ≤ b) (hkb : kb < lo ∨ hi ≤ kb) (hbk : b ≠ kb) (hhi : hi ≤ w.heap.size) {lo1 hi1 : Nat} (s1 : ChI wx (some g) lo lo1 A) (s2 : ∀ g', some g = some g' → g' < lo1 ∨ hi1 ≤ g') (s3 : KI wx lo1 hi1 c.ao c.cap c.e.kids) (s4 : ChI wx (some g) hi1 hi B)
    (hd : TDone wx w' g (A.length * 3) kb lo1 hi1 jc c.e.k c.e.t c.ao c.cap c.e.kids kind) :
    TL w w' b o kb lo hi g j (jc - (1 + (cF c.e.kids : Int))) k t ao cap F kind (A ++ [⟨tE kind jc c.e, c.ao, c.cap⟩]) B := by
  have hF : F ≠ .nil := fun e => by
    have := h.len
    rw [e, List.length_cons] at this
    have e0 : (Fo.els .nil).length = 0 := rfl
    omega
  obtain ⟨g1, g2, g3⟩ := h.gin.resolve_left hF
  have q1 := ChI.le _ _ _ s1
  have q2 := s3.2.2.1
  have q3 := ChI.le _ _ _ s4
  have q4 := h.size
  have hbx : w'.heap[b]? = wx.heap[b]? := hd.oth b (by omega) (by omega) hbk (by omega)
  have hgk : g ≠ kb := by omega
  refine ⟨?_, ?_, fun q r1 r2 => ?_, fun q => ?_, hd.p, fun q r1 r2 r3 r4 => ?_, hd.os.trans h.os, hd.tape.trans h.tape, hd.output.trans h.output, Nat.le_trans h.size hd.size, fun i hi' => ?_, ?_, fun _ => hd.fr, h.gin, ?_, fun c' hc' => h.sub c' (List.mem_cons_of_mem _ hc'), ?_, ?_⟩
  · rw [World.cell?_of_block hbx]; exact h.c0
  · rw [World.cell?_of_block hbx]; exact h.c1
  · rw [World.cell?_of_block hbx]; exact h.cells q r1 r2
  · rw [World.frozen?_of_block hbx]; exact h.fr q
  · exact (hd.oth q (by omega) (by omega) r3 (by omega)).trans (h.oth q r1 r2 r3 r4)
  · have hlen : (A ++ ([⟨tE kind jc c.e, c.ao, c.cap⟩] : List Nc) ++ B).length = (A ++ c :: B).length := by simp
    rcases Nat.lt_trichotomy i A.length with r | r | r
    · obtain ⟨m0, m1, m2⟩ := h.mem i (by rw [← hlen]; exact hi')
      have e : (A ++ ([⟨tE kind jc c.e, c.ao, c.cap⟩] : List Nc) ++ B)[i] = (A ++ c :: B)[i]'(by rw [← hlen]; exact hi') := by
        rw [List.getElem_append_left (by simp; omega), List.getElem_append_left r, List.getElem_append_left r]
      rw [e, hd.cells _ (by omega) (by omega), hd.cells _ (by omega) (by omega), hd.cells _ (by omega) (by omega)]
      exact ⟨m0, m1, m2⟩
    · subst r
      obtain ⟨m0, m1, m2⟩ := h.mem.mid
      have e : (A ++ ([⟨tE kind jc c.e, c.ao, c.cap⟩] : List Nc) ++ B)[A.length] = ⟨tE kind jc c.e, c.ao, c.cap⟩ := by
        rw [List.getElem_append_left (by simp), List.getElem_append_right (Nat.le_refl _)]; simp
      rw [e]
      refine ⟨hd.c0, hd.c1, ?_⟩
      rw [hd.cells _ (by omega) (by omega), m2]
      show _ = some (Value.slice c.ao (tF kind (jc - 1) c.e.kids).els.length c.cap)
      rw [tF_len]
    · obtain ⟨m0, m1, m2⟩ := h.mem i (by rw [← hlen]; exact hi')
      have e : (A ++ ([⟨tE kind jc c.e, c.ao, c.cap⟩] : List Nc) ++ B)[i] = (A ++ c :: B)[i]'(by rw [← hlen]; exact hi') := by
        apply Option.some.inj
        rw [← List.getElem?_eq_getElem, ← List.getElem?_eq_getElem, List.append_assoc, List.getElem?_append_right (Nat.le_of_lt r), List.getElem?_append_right (Nat.le_of_lt r)]
        obtain ⟨n, hn⟩ : ∃ n, i - A.length = n + 1 := ⟨i - A.length - 1, by omega⟩
        rw [hn]; rfl
      rw [e, hd.cells _ (by omega) (by omega), hd.cells _ (by omega) (by omega), hd.cells _ (by omega) (by omega)]
      exact ⟨m0, m1, m2⟩
  · rw [List.append_assoc]
    have keep : ∀ q, lo ≤ q → q < hi → some g ≠ some q → (q < lo1 ∨ hi1 ≤ q) → w'.heap[q]? = wx.heap[q]? := fun q r1 r2 r3 r4 => hd.oth q (by omega) (fun e => r3 (by rw [e])) (by omega) r4
    exact ChI.join A lo hi lo1 hi1 (s1.keep A lo lo1 (fun q r1 r2 r3 => keep q r1 (by omega) r3 (.inl r2)) (fun g' e => .inl e)) s2 (by show KI w' lo1 hi1 c.ao c.cap (tF kind (jc - 1) c.e.kids); exact hd.ki) (s4.keep B hi1 hi (fun q r1 r2 r3 => keep q (by omega) r2 r3 (.inr r1)) (fun g' e => .inl e))
  · have := h.len
    rw [List.length_cons] at this
    rw [List.length_append, List.length_singleton]; omega
  · have := h.jj
    rw [List.map_cons, Fo.of, cF] at this
    omega
  · have := h.tr
    rw [List.map_cons, Fo.of, tF, Fo.els] at this
    rw [List.map_append, List.append_assoc]
    exact this
theorem TL.done {w wx : World} {b o kb lo hi g : Nat} {j jc k t : Int} {ao : Option Addr} {cap : Nat} {F : Fo} {kind : Bool} {A : List Nc} (h : TL w wx b o kb lo hi g j jc k t ao cap F kind A []) (hk : KI w lo hi ao cap F) :
    TDone w wx b o kb lo hi j k t ao cap F kind := by
  have htr := h.tr
  have hjj := h.jj
  have e0 : (cF (Fo.of (([] : List Nc).map (·.e))) : Int) = 0 := rfl
  have e1 : (tF kind jc (Fo.of (([] : List Nc).map (·.e)))).els = [] := rfl
  rw [e1, List.append_nil] at htr
  rw [e0] at hjj
  refine ⟨h.c0, h.c1, h.cells, h.fr, ?_, ⟨?_, hk.2.1, hk.2.2.1, ?_⟩, h.oth, h.os, h.tape, h.output, h.size⟩
  · rw [show j - (1 + (cF F : Int)) = jc by omega]; exact h.p
  · rw [tF_len]; exact hk.1
  · by_cases hF : F = .nil
    · exact .inl (tF_nil hF)
    · obtain ⟨g1, g2, g3⟩ := h.gin.resolve_left hF
      refine .inr ⟨g, g1, g2, g3, h.fz hF, ?_⟩
      rw [← htr]
      have hm := h.mem
      have hc := h.ch
      rw [List.append_nil] at hm hc
      exact ChI.forest A lo hi 0 (fun i hi => by rw [Nat.zero_add]; exact hm i hi) hc
/-- At the loop's head. -/
theorem TL.start {w wx : World} {b o kb lo hi : Nat} {j k t : Int} {ao : Option Addr} {cap : Nat} {F : Fo} {kind : Bool} (hk : KI w lo hi ao cap F) (hbi : b < lo ∨ hi ≤ b) (hkb : kb < lo ∨ hi ≤ kb)
    (c0 : wx.cell? ⟨b, o, none⟩ = some (.int .i64 (tk kind j k))) (c1 : wx.cell? ⟨b, o + 1, none⟩ = some (.int .i64 (tt kind j t))) (cells : ∀ q, q ≠ o → q ≠ o + 1 → wx.cell? ⟨b, q, none⟩ = w.cell? ⟨b, q, none⟩) (fr : ∀ q, wx.frozen? ⟨b, q, none⟩ = false)
    (p : wx.heap[kb]? = some (.cells #[.int .i64 (j - 1)] 3 (0, 0))) (oth : ∀ q, q ≠ b → q ≠ kb → wx.heap[q]? = w.heap[q]?) (os : wx.os = w.os) (tape : wx.tape = w.tape) (output : wx.output = w.output) (size : w.heap.size ≤ wx.heap.size) :
    ∃ g B, TL w wx b o kb lo hi g j (j - 1) k t ao cap F kind [] B := by
  obtain ⟨h1, h2, h3, h4⟩ := hk
  have keep : ∀ q, lo ≤ q → q < hi → wx.heap[q]? = w.heap[q]? := fun q r1 r2 => oth q (by omega) (by omega)
  rcases h4 with rfl | ⟨g, g1, g2, g3, g4, g5⟩
  · exact ⟨0, [], c0, c1, cells, fr, p, fun q _ r2 r3 _ => oth q r2 r3, os, tape, output, size, fun i hi => absurd hi (by simp), h3, fun e => absurd rfl e, .inl rfl, rfl, fun c hc => (by cases hc), (by show j - 1 - 0 = j - (1 + 0); omega), rfl⟩
  · have g5 := g5.keep F lo hi g 0 keep (keep g g2 g3)
    obtain ⟨cs, e1, e2, e3⟩ := g5.chs F lo hi g 0 h3
    have e4 : Fo.of (cs.map (·.e)) = F := by rw [e1, Fo.of_els]
    refine ⟨g, cs, c0, c1, cells, fr, p, fun q _ r2 r3 _ => oth q r2 r3, os, tape, output, size, fun i hi => ?_, e3, fun _ q => ?_, .inr ⟨g1, g2, g3⟩, ?_, fun c hc => ?_, ?_, ?_⟩
    · have := e2 i hi
      rw [Nat.zero_add] at this
      exact this
    · rw [World.frozen?_of_block (keep g g2 g3)]; exact g4 q
    · rw [← e1, List.length_map, List.length_nil, Nat.zero_add]
    · rw [← e1]; exact List.mem_map_of_mem hc
    · rw [e4]; omega
    · rw [e4, List.map_nil, List.nil_append, Fo.of_els]
end Go.Proofs.Ytknhignklepgeaa
