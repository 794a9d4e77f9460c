/-
  No cell of these rows narrows 'for every input' (looked for: loops, veiled, ifaces, maps, wideKeys, modest, calm, conditions, laid).
  DERIVED. THE GIVEN ROWS OF THIS SEAT. 3 by the template 'for every input the law returns true; each argument reads behind the call as it read before'; 0 by the template 'total and deterministic' (their statements: YtknhignklepgeaaTotals.lean).
  GIVEN WITH THE SEED: the statements are not yours to turn. If you find one false, say at which input.
  Laid BY PROGRAM, IN A SANDBOX (cutbox-rows.mjs): the forced cells as the released guide's own fill.sh prints them over the translation 835c692d7a9fcd1e… (all of the seat's roots in one cut). By AI agents, Wed Nov 11 2026. No macro, syntax, notation, axiom, sorry.
-/
import Derived.Test.YtknhignklepgeaaChecked
import GoSem.Claim
import GoSem.ClaimJoined
import GoSem.ClaimMapViews
import Derived.JoinedTies
import Derived.KernelRfl
namespace Go.Proofs.Ytknhignklepgeaa
/- THE CELL 'sum', in the pinned program and in every row, IS THE sha256 OF THE DUMP (.gsa) THAT YtknhignklepgeaaProg.lean LOADS. Nothing in Lean hashes anything: it is a label: what it is worth is what the hold of that sum in a sandbox is worth. -/
noncomputable def Try.pinned : Pinned := { name := "ytknhignklepgeaa", sum := "835c692d7a9fcd1ed72c404492f6eb55e996d6f100e082ad0c86ecb0f884421f", checked := Try.checked }
namespace Rows
def none {H : Type} : Left H := { results := [], args := [] }

/-- 'recensionlaw10.NodeAll': WHATEVER THE INPUT: true; the input reads as it did. -/
def nodeAllSpec : ChangeSpec := { name := "nodeAll", fn := fun _ => fun
  | [d1, d2, d3, d4, d5] => { results := [.lit (.bool true)], args := [d1, d2, d3, d4, d5] }
  | _ => none }
def nodeAllRow : OpenClaim := { program := "ytknhignklepgeaa", sum := "835c692d7a9fcd1ed72c404492f6eb55e996d6f100e082ad0c86ecb0f884421f", func := "recension/recensionlaw10.NodeAll", spec := "nodeAll", unfollowed := true, recurses := true, apart := false }
def NodeAllSaid : Prop := nodeAllRow.holds Try.pinned (OpenSpec.ofChange nodeAllSpec)

/-- ITS FALSE NEIGHBOUR: 'it returns false'. Refute it at one input. -/
def nodeAllWrong : ChangeSpec := { name := "nodeAll", fn := fun _ => fun
  | [d1, d2, d3, d4, d5] => { results := [.lit (.bool false)], args := [d1, d2, d3, d4, d5] }
  | _ => none }
def NodeAllWrongFalsely : Prop := nodeAllRow.holds Try.pinned (OpenSpec.ofChange nodeAllWrong)

/-- 'recensionlaw10.NodeTurn': WHATEVER THE INPUT: true; the input reads as it did. -/
def nodeTurnSpec : ChangeSpec := { name := "nodeTurn", fn := fun _ => fun
  | [d1, d2, d3] => { results := [.lit (.bool true)], args := [d1, d2, d3] }
  | _ => none }
def nodeTurnRow : OpenClaim := { program := "ytknhignklepgeaa", sum := "835c692d7a9fcd1ed72c404492f6eb55e996d6f100e082ad0c86ecb0f884421f", func := "recension/recensionlaw10.NodeTurn", spec := "nodeTurn", unfollowed := true, recurses := true, apart := false }
def NodeTurnSaid : Prop := nodeTurnRow.holds Try.pinned (OpenSpec.ofChange nodeTurnSpec)

/-- ITS FALSE NEIGHBOUR: 'it returns false'. Refute it at one input. -/
def nodeTurnWrong : ChangeSpec := { name := "nodeTurn", fn := fun _ => fun
  | [d1, d2, d3] => { results := [.lit (.bool false)], args := [d1, d2, d3] }
  | _ => none }
def NodeTurnWrongFalsely : Prop := nodeTurnRow.holds Try.pinned (OpenSpec.ofChange nodeTurnWrong)

/-- 'recensionlaw10.NodeBuild': WHATEVER THE INPUT: true; the input reads as it did. -/
def nodeBuildSpec : ChangeSpec := { name := "nodeBuild", fn := fun _ => fun
  | [d1, d2, d3, d4] => { results := [.lit (.bool true)], args := [d1, d2, d3, d4] }
  | _ => none }
def nodeBuildRow : OpenClaim := { program := "ytknhignklepgeaa", sum := "835c692d7a9fcd1ed72c404492f6eb55e996d6f100e082ad0c86ecb0f884421f", func := "recension/recensionlaw10.NodeBuild", spec := "nodeBuild", unfollowed := true, recurses := true, apart := false }
def NodeBuildSaid : Prop := nodeBuildRow.holds Try.pinned (OpenSpec.ofChange nodeBuildSpec)

/-- ITS FALSE NEIGHBOUR: 'it returns false'. Refute it at one input. -/
def nodeBuildWrong : ChangeSpec := { name := "nodeBuild", fn := fun _ => fun
  | [d1, d2, d3, d4] => { results := [.lit (.bool false)], args := [d1, d2, d3, d4] }
  | _ => none }
def NodeBuildWrongFalsely : Prop := nodeBuildRow.holds Try.pinned (OpenSpec.ofChange nodeBuildWrong)

/- THE SECOND FORM. 'bulk': how many values and letters a reading holds, each counted each time it is reached (what is shared counts as often as it is met; a slice's spare places count too). A statement '..UptoSaid' is the law's where the arguments, and the package variables that the reading takes, are together of bulk at most 1048576: NARROWER than '..Said'. Prove '..Said' where nothing that the law and all that it calls make is longer than what came in: it says more and counts as full. Else prove '..UptoSaid'. A law counts once. -/
mutual
def uptoBulk {H : Type} : DataW H → Nat
  | .lit (.string bytes) => bytes.length + 1
  | .lit _ => 1
  | .nil => 1
  | .ptr d => uptoBulk d + 1
  | .slice elems spare => uptoBulkAll elems + uptoBulkAll spare + 1
  | .agg parts => uptoBulkAll parts + 1
  | .iface _ d => uptoBulk d + 1
  | .map entries => uptoBulkEntries entries + 1
  | .held _ => 1
def uptoBulkAll {H : Type} : List (DataW H) → Nat
  | [] => 0
  | d :: r => uptoBulk d + uptoBulkAll r
def uptoBulkEntries {H : Type} : List (Lit × DataW H) → Nat
  | [] => 0
  | x :: r => uptoBulkEntry x + uptoBulkEntries r
def uptoBulkEntry {H : Type} : Lit × DataW H → Nat
  | (.string bytes, d) => bytes.length + uptoBulk d + 1
  | (_, d) => uptoBulk d + 1
 end
def uptoSmall : (H : Type) → List (DataW H) → Bool := fun _ ds => decide (uptoBulkAll ds ≤ 1048576)
def OpenSpec.upto (s : _root_.Go.ChangeSpec) : _root_.Go.OpenSpec := { _root_.Go.OpenSpec.ofChange s with cond := some uptoSmall }

/-- 'recensionlaw10.NodeAll', WHERE WHAT IT READS IS OF BULK AT MOST 1048576: true; the input reads as it did. -/
def nodeAllUptoRow : OpenClaim := { program := "ytknhignklepgeaa", sum := "835c692d7a9fcd1ed72c404492f6eb55e996d6f100e082ad0c86ecb0f884421f", func := "recension/recensionlaw10.NodeAll", spec := "nodeAll", unfollowed := true, recurses := true, apart := false, narrowed := true }
def NodeAllUptoSaid : Prop := nodeAllUptoRow.holds Try.pinned (OpenSpec.upto nodeAllSpec)

/-- 'recensionlaw10.NodeTurn', WHERE WHAT IT READS IS OF BULK AT MOST 1048576: true; the input reads as it did. -/
def nodeTurnUptoRow : OpenClaim := { program := "ytknhignklepgeaa", sum := "835c692d7a9fcd1ed72c404492f6eb55e996d6f100e082ad0c86ecb0f884421f", func := "recension/recensionlaw10.NodeTurn", spec := "nodeTurn", unfollowed := true, recurses := true, apart := false, narrowed := true }
def NodeTurnUptoSaid : Prop := nodeTurnUptoRow.holds Try.pinned (OpenSpec.upto nodeTurnSpec)

/-- 'recensionlaw10.NodeBuild', WHERE WHAT IT READS IS OF BULK AT MOST 1048576: true; the input reads as it did. -/
def nodeBuildUptoRow : OpenClaim := { program := "ytknhignklepgeaa", sum := "835c692d7a9fcd1ed72c404492f6eb55e996d6f100e082ad0c86ecb0f884421f", func := "recension/recensionlaw10.NodeBuild", spec := "nodeBuild", unfollowed := true, recurses := true, apart := false, narrowed := true }
def NodeBuildUptoSaid : Prop := nodeBuildUptoRow.holds Try.pinned (OpenSpec.upto nodeBuildSpec)

end Rows
end Go.Proofs.Ytknhignklepgeaa
