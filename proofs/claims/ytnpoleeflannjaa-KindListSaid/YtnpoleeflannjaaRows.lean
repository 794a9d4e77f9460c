/-
  No cell of these rows narrows 'for every input' (looked for: loops, veiled, ifaces, maps, wideKeys, modest, calm, conditions, laid).
  DERIVED. THE GIVEN ROWS OF THIS SEAT. 3 by the template 'for every input the law returns true; each argument reads behind the call as it read before'; 0 by the template 'total and deterministic' (their statements: YtnpoleeflannjaaTotals.lean).
  GIVEN WITH THE SEED: the statements are not yours to turn. If you find one false, say at which input.
  Laid BY PROGRAM, IN A SANDBOX (cutbox-rows.mjs): the forced cells as the released guide's own fill.sh prints them over the translation 0389d2e09d88bb3a… (all of the seat's roots in one cut). By AI agents, Wed Nov 11 2026. No macro, syntax, notation, axiom, sorry.
-/
import Derived.Test.YtnpoleeflannjaaChecked
import GoSem.Claim
import GoSem.ClaimJoined
import GoSem.ClaimMapViews
import Derived.JoinedTies
import Derived.KernelRfl
namespace Go.Proofs.Ytnpoleeflannjaa
/- THE CELL 'sum', in the pinned program and in every row, IS THE sha256 OF THE DUMP (.gsa) THAT YtnpoleeflannjaaProg.lean LOADS. Nothing in Lean hashes anything: it is a label: what it is worth is what the hold of that sum in a sandbox is worth. -/
noncomputable def Try.pinned : Pinned := { name := "ytnpoleeflannjaa", sum := "0389d2e09d88bb3a5a92b68a349b4e1fba0d76cedf380e56ff86fde56aef965f", checked := Try.checked }
namespace Rows
def none {H : Type} : Left H := { results := [], args := [] }

/-- 'recensionlaw14.KindAll': WHATEVER THE INPUT: true; the input reads as it did. -/
def kindAllSpec : ChangeSpec := { name := "kindAll", fn := fun _ => fun
  | [d1, d2, d3, d4, d5] => { results := [.lit (.bool true)], args := [d1, d2, d3, d4, d5] }
  | _ => none }
def kindAllRow : OpenClaim := { program := "ytnpoleeflannjaa", sum := "0389d2e09d88bb3a5a92b68a349b4e1fba0d76cedf380e56ff86fde56aef965f", func := "recension/recensionlaw14.KindAll", spec := "kindAll", unfollowed := true, recurses := true, apart := false }
def KindAllSaid : Prop := kindAllRow.holds Try.pinned (OpenSpec.ofChange kindAllSpec)

/-- ITS FALSE NEIGHBOUR: 'it returns false'. Refute it at one input. -/
def kindAllWrong : ChangeSpec := { name := "kindAll", fn := fun _ => fun
  | [d1, d2, d3, d4, d5] => { results := [.lit (.bool false)], args := [d1, d2, d3, d4, d5] }
  | _ => none }
def KindAllWrongFalsely : Prop := kindAllRow.holds Try.pinned (OpenSpec.ofChange kindAllWrong)

/-- 'recensionlaw14.KindWays': WHATEVER THE INPUT: true; the input reads as it did. -/
def kindWaysSpec : ChangeSpec := { name := "kindWays", fn := fun _ => fun
  | [d1, d2, d3] => { results := [.lit (.bool true)], args := [d1, d2, d3] }
  | _ => none }
def kindWaysRow : OpenClaim := { program := "ytnpoleeflannjaa", sum := "0389d2e09d88bb3a5a92b68a349b4e1fba0d76cedf380e56ff86fde56aef965f", func := "recension/recensionlaw14.KindWays", spec := "kindWays", unfollowed := true, recurses := true, apart := false }
def KindWaysSaid : Prop := kindWaysRow.holds Try.pinned (OpenSpec.ofChange kindWaysSpec)

/-- ITS FALSE NEIGHBOUR: 'it returns false'. Refute it at one input. -/
def kindWaysWrong : ChangeSpec := { name := "kindWays", fn := fun _ => fun
  | [d1, d2, d3] => { results := [.lit (.bool false)], args := [d1, d2, d3] }
  | _ => none }
def KindWaysWrongFalsely : Prop := kindWaysRow.holds Try.pinned (OpenSpec.ofChange kindWaysWrong)

/-- 'recensionlaw14.KindList': WHATEVER THE INPUT: true; the input reads as it did. -/
def kindListSpec : ChangeSpec := { name := "kindList", fn := fun _ => fun
  | [d] => { results := [.lit (.bool true)], args := [d] }
  | _ => none }
def kindListRow : OpenClaim := { program := "ytnpoleeflannjaa", sum := "0389d2e09d88bb3a5a92b68a349b4e1fba0d76cedf380e56ff86fde56aef965f", func := "recension/recensionlaw14.KindList", spec := "kindList", unfollowed := true, recurses := true, apart := false }
def KindListSaid : Prop := kindListRow.holds Try.pinned (OpenSpec.ofChange kindListSpec)

/-- ITS FALSE NEIGHBOUR: 'it returns false'. Refute it at one input. -/
def kindListWrong : ChangeSpec := { name := "kindList", fn := fun _ => fun
  | [d] => { results := [.lit (.bool false)], args := [d] }
  | _ => none }
def KindListWrongFalsely : Prop := kindListRow.holds Try.pinned (OpenSpec.ofChange kindListWrong)

/- THE SECOND FORM. 'bulk': how many values and letters a reading holds, each counted each time it is reached (what is shared counts as often as it is met; a slice's spare places count too). A statement '..UptoSaid' is the law's where the arguments, and the package variables that the reading takes, are together of bulk at most 1048576: NARROWER than '..Said'. Prove '..Said' where nothing that the law and all that it calls make is longer than what came in: it says more and counts as full. Else prove '..UptoSaid'. A law counts once. -/
mutual
def uptoBulk {H : Type} : DataW H → Nat
  | .lit (.string bytes) => bytes.length + 1
  | .lit _ => 1
  | .nil => 1
  | .ptr d => uptoBulk d + 1
  | .slice elems spare => uptoBulkAll elems + uptoBulkAll spare + 1
  | .agg parts => uptoBulkAll parts + 1
  | .iface _ d => uptoBulk d + 1
  | .map entries => uptoBulkEntries entries + 1
  | .held _ => 1
def uptoBulkAll {H : Type} : List (DataW H) → Nat
  | [] => 0
  | d :: r => uptoBulk d + uptoBulkAll r
def uptoBulkEntries {H : Type} : List (Lit × DataW H) → Nat
  | [] => 0
  | x :: r => uptoBulkEntry x + uptoBulkEntries r
def uptoBulkEntry {H : Type} : Lit × DataW H → Nat
  | (.string bytes, d) => bytes.length + uptoBulk d + 1
  | (_, d) => uptoBulk d + 1
 end
def uptoSmall : (H : Type) → List (DataW H) → Bool := fun _ ds => decide (uptoBulkAll ds ≤ 1048576)
def OpenSpec.upto (s : _root_.Go.ChangeSpec) : _root_.Go.OpenSpec := { _root_.Go.OpenSpec.ofChange s with cond := some uptoSmall }

/-- 'recensionlaw14.KindAll', WHERE WHAT IT READS IS OF BULK AT MOST 1048576: true; the input reads as it did. -/
def kindAllUptoRow : OpenClaim := { program := "ytnpoleeflannjaa", sum := "0389d2e09d88bb3a5a92b68a349b4e1fba0d76cedf380e56ff86fde56aef965f", func := "recension/recensionlaw14.KindAll", spec := "kindAll", unfollowed := true, recurses := true, apart := false, narrowed := true }
def KindAllUptoSaid : Prop := kindAllUptoRow.holds Try.pinned (OpenSpec.upto kindAllSpec)

/-- 'recensionlaw14.KindWays', WHERE WHAT IT READS IS OF BULK AT MOST 1048576: true; the input reads as it did. -/
def kindWaysUptoRow : OpenClaim := { program := "ytnpoleeflannjaa", sum := "0389d2e09d88bb3a5a92b68a349b4e1fba0d76cedf380e56ff86fde56aef965f", func := "recension/recensionlaw14.KindWays", spec := "kindWays", unfollowed := true, recurses := true, apart := false, narrowed := true }
def KindWaysUptoSaid : Prop := kindWaysUptoRow.holds Try.pinned (OpenSpec.upto kindWaysSpec)

/-- 'recensionlaw14.KindList', WHERE WHAT IT READS IS OF BULK AT MOST 1048576: true; the input reads as it did. -/
def kindListUptoRow : OpenClaim := { program := "ytnpoleeflannjaa", sum := "0389d2e09d88bb3a5a92b68a349b4e1fba0d76cedf380e56ff86fde56aef965f", func := "recension/recensionlaw14.KindList", spec := "kindList", unfollowed := true, recurses := true, apart := false, narrowed := true }
def KindListUptoSaid : Prop := kindListUptoRow.holds Try.pinned (OpenSpec.upto kindListSpec)

end Rows
end Go.Proofs.Ytnpoleeflannjaa
