/- Find; the closures as they go along with Walk. -/
import Derived.Test.YtknhignklepgeaaWalk
namespace Go.Proofs.Ytknhignklepgeaa
open Go.RowKit

theorem enter_of {f : FuncId} {fn : Func} {c : Code} (hf : Try.prog.funcs[f]? = some fn) (hname : (fn.name == "runtime.NumGoroutine") = false) (hb : fn.body = some c) (args : Array Value) (w : World) :
    (callFunc f args).run Try.prog w = .ok (.enter f args) w := by
  have h1 : fn.name ≠ "runtime.NumGoroutine" := by simpa using hname
  simp [callFunc, hf, h1, hb]
theorem int_ne {W0 w : World} {gb b : Nat} {n : Int} {v : Value} {L : List El} (hs : St W0 w gb v L) (h : w.heap[b]? = some (.cells #[.int .i64 n] 3 (0, 0))) : b ≠ gb ∧ v.ownBlock ≠ some b := by
  constructor
  · rintro rfl
    have := hs.h
    rw [h] at this
    injection this with this
    injection this with _ this
    exact absurd this (by decide)
  · intro e
    obtain ⟨cs, _, h2, _⟩ := hs.r
    rcases h2.2 with ⟨h0, _⟩ | ⟨g', cap, cur, hv, _, q2, _⟩
    · rw [h0] at e; cases e
    · rw [hv] at e
      cases e
      rw [h] at q2
      injection q2 with q2
      injection q2 with _ q2
      exact absurd q2 (by decide)
def stepT (tok : Int) (e : El) : List El := if e.t = tok then [e] else []
def fE (tok : Int) (e : El) : List El := gE (stepT tok) (fun _ => true) e
theorem clo24 (W0 : World) (gb tb : Nat) (tok : Int) (hgb : W0.heap.size ≤ gb) :
    Clo W0 24 [.pointer (some ⟨tb, 0, none⟩), .pointer (some ⟨gb, 0, none⟩)] gb (fun w L v => St W0 w gb v L ∧ w.heap[tb]? = some (.cells #[.int .i64 tok] 3 (0, 0))) (stepT tok) (fun _ => true) where
  call := fun w L v k t F ao cap hB hk hl hT => by
    obtain ⟨h1, h2⟩ := int_ne hT.1 hT.2
    refine (clo24_any W0 w k t ao cap gb tb tok v L F hB hk hl hT.1 hT.2).mono ?_
    rintro r w' ⟨rfl, v', hs, hg⟩
    exact ⟨rfl, v', ⟨hs, (hg.block tb (Array.getElem?_eq_some_iff.1 hT.2).1 h1 h2).trans hT.2⟩, hg⟩
  below := fun w w' L v hT hb => ⟨hT.1.below hb, (hb.block tb (Array.getElem?_eq_some_iff.1 hT.2).1).trans hT.2⟩
  own := fun w L v hT => ⟨fun g hg => ⟨(hT.1.r.lt g hg).2, (hT.1.r.lt g hg).1⟩, (Array.getElem?_eq_some_iff.1 hT.1.h).1⟩
  gb := hgb
  enter := fun args w => enter_of Try.func24 (by kernel_rfl) rfl args w
  one := fun e => by unfold stepT; split <;> simp
def stepA (e : El) : List El := [e]
theorem clo17 (W0 : World) (gb sb : Nat) (stop : Int) (hgb : W0.heap.size ≤ gb) :
    Clo W0 17 [.pointer (some ⟨gb, 0, none⟩), .pointer (some ⟨sb, 0, none⟩)] gb (fun w L v => St W0 w gb v L ∧ w.heap[sb]? = some (.cells #[.int .i64 stop] 3 (0, 0))) stepA (fun e => e.k != stop) where
  call := fun w L v k t F ao cap hB hk hl hT => by
    obtain ⟨h1, h2⟩ := int_ne hT.1 hT.2
    refine (clo17_any W0 w k t ao cap gb sb stop v L F hB hk hl hT.1 hT.2).mono ?_
    rintro r w' ⟨rfl, v', hs, hg⟩
    exact ⟨rfl, v', ⟨hs, (hg.block sb (Array.getElem?_eq_some_iff.1 hT.2).1 h1 h2).trans hT.2⟩, hg⟩
  below := fun w w' L v hT hb => ⟨hT.1.below hb, (hb.block sb (Array.getElem?_eq_some_iff.1 hT.2).1).trans hT.2⟩
  own := fun w L v hT => ⟨fun g hg => ⟨(hT.1.r.lt g hg).2, (hT.1.r.lt g hg).1⟩, (Array.getElem?_eq_some_iff.1 hT.1.h).1⟩
  gb := hgb
  enter := fun args w => enter_of Try.func17 (by kernel_rfl) rfl args w
  one := fun e => Nat.le_refl _
set_option maxHeartbeats 2000000 in
theorem find_any (W0 w : World) (k t : Int) (ao : Option Addr) (cap : Nat) (tok : Int) (F : Fo) (hB0 : Below W0.heap.size W0 w) (hk : KidsV W0 ao cap F) (hc : cF F < 1900) :
    Calls Try.prog 19 #[nodeV k t ao F.els.length cap, .int .i64 tok] w fun e w' => ∃ v', e = .returned v' ∧ RowN W0 w' v' (fE tok ⟨k, t, F⟩) ∧ Below w.heap.size w w' ∧ ∀ g, v'.ownBlock = some g → w.heap.size ≤ g := by
  have a1 : Below w.heap.size w (w.alloc (.cells #[.int .i64 k, .int .i64 t, .slice ao F.els.length cap] 26)) := (Below.refl _ _).alloc (Nat.le_refl _) _
  have a2 := a1.alloc a1.size (.cells #[.int .i64 tok] 3)
  have a3 := a2.alloc a2.size (.cells #[.slice none 0 0] 24)
  have zt : (((w.alloc (.cells #[.int .i64 k, .int .i64 t, .slice ao F.els.length cap] 26)).alloc (.cells #[.int .i64 tok] 3)).alloc (.cells #[.slice none 0 0] 24)).heap[w.heap.size + 1]? = some (.cells #[.int .i64 tok] 3 (0, 0)) := by
    have := blk_new (w.alloc (.cells #[.int .i64 k, .int .i64 t, .slice ao F.els.length cap] 26)) (.cells #[.int .i64 tok] 3)
    rw [World.size_alloc] at this
    exact (((Below.refl _ _).alloc (Nat.le_refl _) (.cells #[.slice none 0 0] 24)).block _ (by simp)).trans this
  have zg : (((w.alloc (.cells #[.int .i64 k, .int .i64 t, .slice ao F.els.length cap] 26)).alloc (.cells #[.int .i64 tok] 3)).alloc (.cells #[.slice none 0 0] 24)).heap[w.heap.size + 2]? = some (.cells #[.slice none 0 0] 24 (0, 0)) := by
    have := blk_new ((w.alloc (.cells #[.int .i64 k, .int .i64 t, .slice ao F.els.length cap] 26)).alloc (.cells #[.int .i64 tok] 3)) (.cells #[.slice none 0 0] 24)
    rw [World.size_alloc, World.size_alloc] at this
    exact this
  have s0 := hB0.size
  have hT : St W0 (((w.alloc (.cells #[.int .i64 k, .int .i64 t, .slice ao F.els.length cap] 26)).alloc (.cells #[.int .i64 tok] 3)).alloc (.cells #[.slice none 0 0] 24)) (w.heap.size + 2) (.slice none 0 0) [] := ⟨zg, RowN.nil _ _, by omega⟩
  have hw := walkClo_any (clo24 W0 (w.heap.size + 2) (w.heap.size + 1) tok (by omega)) F _ k t ao cap [] (.slice none 0 0) (below_step hB0 a3) hk (by simpa using hc) ⟨hT, zt⟩
  have HW := Lib.hid hw; have A3 := Lib.hid a3
  clear hw hT zt zg a1 a2 a3 hk hB0
  unfold nodeV at *
  go_enter Try.func19, Try.ntmps19
  go_wp2_with (with_reducible refine halt_call ?_)
  refine Halted.run (HW.out.mono ?_); rintro r w4 ⟨rfl, v4, ⟨hs4, _⟩, hg4⟩
  have c4 := blk_cell hs4.h 0
  have hb4 := Grow2.below A3.out hg4 (by omega) (fun g hg => by cases hg)
  have hown : ∀ g, v4.ownBlock = some g → w.heap.size ≤ g := fun g hg => by
    rcases hg4.at' with e | ⟨g', e, hge⟩
    · rw [e] at hg; cases hg
    · rw [e] at hg; injection hg with hg
      have := A3.out.size
      omega
  have HS4 := Lib.hid hs4.r; have HB4 := Lib.hid hb4; have HO := Lib.hid hown
  clear hs4 hg4 hb4 hown HW
  go_wp2
  go_ret
  exact ⟨_, rfl, HS4.out, HB4.out, HO.out⟩
end Go.Proofs.Ytknhignklepgeaa
