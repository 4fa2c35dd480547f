/-
  No cell of these rows narrows 'for every input' (looked for: loops, veiled, ifaces, maps, wideKeys, modest, calm, conditions, laid).
  DERIVED. THE GIVEN ROWS OF THIS SEAT. 12 by the template 'for every input the law returns true; each argument reads behind the call as it read before'; 0 by the template 'total and deterministic' (their statements: YtfhjmoikggiblaaTotals.lean).
  GIVEN WITH THE SEED: the statements are not yours to turn. If you find one false, say at which input.
  Laid BY PROGRAM, IN A SANDBOX (cutbox-rows.mjs): the forced cells as the released guide's own fill.sh prints them over the translation 205401831619814b… (all of the seat's roots in one cut). By AI agents, Wed Nov 11 2026. No macro, syntax, notation, axiom, sorry.
-/
import Derived.Test.YtfhjmoikggiblaaChecked
import GoSem.Claim
import GoSem.ClaimJoined
import GoSem.ClaimMapViews
import Derived.JoinedTies
import Derived.KernelRfl
namespace Go.Proofs.Ytfhjmoikggiblaa
/- THE CELL 'sum', in the pinned program and in every row, IS THE sha256 OF THE DUMP (.gsa) THAT YtfhjmoikggiblaaProg.lean LOADS. Nothing in Lean hashes anything: it is a label: what it is worth is what the hold of that sum in a sandbox is worth. -/
noncomputable def Try.pinned : Pinned := { name := "ytfhjmoikggiblaa", sum := "205401831619814b9ffffe8118bd76672fd287b8e0cb57cfb5a6dc74fd9b9ce0", checked := Try.checked }
namespace Rows
def none {H : Type} : Left H := { results := [], args := [] }

/-- 'laws.FnExactAroundSet': WHATEVER THE INPUT: true; the input reads as it did. -/
def fnExactAroundSetSpec : ChangeSpec := { name := "fnExactAroundSet", fn := fun _ => fun
  | [d1, d2] => { results := [.lit (.bool true)], args := [d1, d2] }
  | _ => none }
def fnExactAroundSetRow : OpenClaim := { program := "ytfhjmoikggiblaa", sum := "205401831619814b9ffffe8118bd76672fd287b8e0cb57cfb5a6dc74fd9b9ce0", func := "loop.example/g02081/laws.FnExactAroundSet", spec := "fnExactAroundSet", apart := false }
def FnExactAroundSetSaid : Prop := fnExactAroundSetRow.holds Try.pinned (OpenSpec.ofChange fnExactAroundSetSpec)

/-- ITS FALSE NEIGHBOUR: 'it returns false'. Refute it at one input. -/
def fnExactAroundSetWrong : ChangeSpec := { name := "fnExactAroundSet", fn := fun _ => fun
  | [d1, d2] => { results := [.lit (.bool false)], args := [d1, d2] }
  | _ => none }
def FnExactAroundSetWrongFalsely : Prop := fnExactAroundSetRow.holds Try.pinned (OpenSpec.ofChange fnExactAroundSetWrong)

/-- 'laws.FnExactComplementOf': WHATEVER THE INPUT: true; the input reads as it did. -/
def fnExactComplementOfSpec : ChangeSpec := { name := "fnExactComplementOf", fn := fun _ => fun
  | [d] => { results := [.lit (.bool true)], args := [d] }
  | _ => none }
def fnExactComplementOfRow : OpenClaim := { program := "ytfhjmoikggiblaa", sum := "205401831619814b9ffffe8118bd76672fd287b8e0cb57cfb5a6dc74fd9b9ce0", func := "loop.example/g02081/laws.FnExactComplementOf", spec := "fnExactComplementOf", apart := false }
def FnExactComplementOfSaid : Prop := fnExactComplementOfRow.holds Try.pinned (OpenSpec.ofChange fnExactComplementOfSpec)

/-- ITS FALSE NEIGHBOUR: 'it returns false'. Refute it at one input. -/
def fnExactComplementOfWrong : ChangeSpec := { name := "fnExactComplementOf", fn := fun _ => fun
  | [d] => { results := [.lit (.bool false)], args := [d] }
  | _ => none }
def FnExactComplementOfWrongFalsely : Prop := fnExactComplementOfRow.holds Try.pinned (OpenSpec.ofChange fnExactComplementOfWrong)

/-- 'laws.FnExactIsClaw': WHATEVER THE INPUT: true; the input reads as it did. -/
def fnExactIsClawSpec : ChangeSpec := { name := "fnExactIsClaw", fn := fun _ => fun
  | [d1, d2] => { results := [.lit (.bool true)], args := [d1, d2] }
  | _ => none }
def fnExactIsClawRow : OpenClaim := { program := "ytfhjmoikggiblaa", sum := "205401831619814b9ffffe8118bd76672fd287b8e0cb57cfb5a6dc74fd9b9ce0", func := "loop.example/g02081/laws.FnExactIsClaw", spec := "fnExactIsClaw", unfollowed := true, recurses := true, apart := false }
def FnExactIsClawSaid : Prop := fnExactIsClawRow.holds Try.pinned (OpenSpec.ofChange fnExactIsClawSpec)

/-- ITS FALSE NEIGHBOUR: 'it returns false'. Refute it at one input. -/
def fnExactIsClawWrong : ChangeSpec := { name := "fnExactIsClaw", fn := fun _ => fun
  | [d1, d2] => { results := [.lit (.bool false)], args := [d1, d2] }
  | _ => none }
def FnExactIsClawWrongFalsely : Prop := fnExactIsClawRow.holds Try.pinned (OpenSpec.ofChange fnExactIsClawWrong)

/-- 'laws.FnExactIsTwoEdges': WHATEVER THE INPUT: true; the input reads as it did. -/
def fnExactIsTwoEdgesSpec : ChangeSpec := { name := "fnExactIsTwoEdges", fn := fun _ => fun
  | [d1, d2] => { results := [.lit (.bool true)], args := [d1, d2] }
  | _ => none }
def fnExactIsTwoEdgesRow : OpenClaim := { program := "ytfhjmoikggiblaa", sum := "205401831619814b9ffffe8118bd76672fd287b8e0cb57cfb5a6dc74fd9b9ce0", func := "loop.example/g02081/laws.FnExactIsTwoEdges", spec := "fnExactIsTwoEdges", unfollowed := true, recurses := true, apart := false }
def FnExactIsTwoEdgesSaid : Prop := fnExactIsTwoEdgesRow.holds Try.pinned (OpenSpec.ofChange fnExactIsTwoEdgesSpec)

/-- ITS FALSE NEIGHBOUR: 'it returns false'. Refute it at one input. -/
def fnExactIsTwoEdgesWrong : ChangeSpec := { name := "fnExactIsTwoEdges", fn := fun _ => fun
  | [d1, d2] => { results := [.lit (.bool false)], args := [d1, d2] }
  | _ => none }
def FnExactIsTwoEdgesWrongFalsely : Prop := fnExactIsTwoEdgesRow.holds Try.pinned (OpenSpec.ofChange fnExactIsTwoEdgesWrong)

/-- 'laws.FnExactLaterNeighbours': WHATEVER THE INPUT: true; the input reads as it did. -/
def fnExactLaterNeighboursSpec : ChangeSpec := { name := "fnExactLaterNeighbours", fn := fun _ => fun
  | [d1, d2, d3] => { results := [.lit (.bool true)], args := [d1, d2, d3] }
  | _ => none }
def fnExactLaterNeighboursRow : OpenClaim := { program := "ytfhjmoikggiblaa", sum := "205401831619814b9ffffe8118bd76672fd287b8e0cb57cfb5a6dc74fd9b9ce0", func := "loop.example/g02081/laws.FnExactLaterNeighbours", spec := "fnExactLaterNeighbours", apart := false }
def FnExactLaterNeighboursSaid : Prop := fnExactLaterNeighboursRow.holds Try.pinned (OpenSpec.ofChange fnExactLaterNeighboursSpec)

/-- ITS FALSE NEIGHBOUR: 'it returns false'. Refute it at one input. -/
def fnExactLaterNeighboursWrong : ChangeSpec := { name := "fnExactLaterNeighbours", fn := fun _ => fun
  | [d1, d2, d3] => { results := [.lit (.bool false)], args := [d1, d2, d3] }
  | _ => none }
def FnExactLaterNeighboursWrongFalsely : Prop := fnExactLaterNeighboursRow.holds Try.pinned (OpenSpec.ofChange fnExactLaterNeighboursWrong)

/-- 'laws.FnExactIsHole': WHATEVER THE INPUT: true; the input reads as it did. -/
def fnExactIsHoleSpec : ChangeSpec := { name := "fnExactIsHole", fn := fun _ => fun
  | [d1, d2] => { results := [.lit (.bool true)], args := [d1, d2] }
  | _ => none }
def fnExactIsHoleRow : OpenClaim := { program := "ytfhjmoikggiblaa", sum := "205401831619814b9ffffe8118bd76672fd287b8e0cb57cfb5a6dc74fd9b9ce0", func := "loop.example/g02081/laws.FnExactIsHole", spec := "fnExactIsHole", unfollowed := true, recurses := true, apart := false }
def FnExactIsHoleSaid : Prop := fnExactIsHoleRow.holds Try.pinned (OpenSpec.ofChange fnExactIsHoleSpec)

/-- ITS FALSE NEIGHBOUR: 'it returns false'. Refute it at one input. -/
def fnExactIsHoleWrong : ChangeSpec := { name := "fnExactIsHole", fn := fun _ => fun
  | [d1, d2] => { results := [.lit (.bool false)], args := [d1, d2] }
  | _ => none }
def FnExactIsHoleWrongFalsely : Prop := fnExactIsHoleRow.holds Try.pinned (OpenSpec.ofChange fnExactIsHoleWrong)

/-- 'laws.FnExactIsInducedPath': WHATEVER THE INPUT: true; the input reads as it did. -/
def fnExactIsInducedPathSpec : ChangeSpec := { name := "fnExactIsInducedPath", fn := fun _ => fun
  | [d1, d2] => { results := [.lit (.bool true)], args := [d1, d2] }
  | _ => none }
def fnExactIsInducedPathRow : OpenClaim := { program := "ytfhjmoikggiblaa", sum := "205401831619814b9ffffe8118bd76672fd287b8e0cb57cfb5a6dc74fd9b9ce0", func := "loop.example/g02081/laws.FnExactIsInducedPath", spec := "fnExactIsInducedPath", unfollowed := true, recurses := true, apart := false }
def FnExactIsInducedPathSaid : Prop := fnExactIsInducedPathRow.holds Try.pinned (OpenSpec.ofChange fnExactIsInducedPathSpec)

/-- ITS FALSE NEIGHBOUR: 'it returns false'. Refute it at one input. -/
def fnExactIsInducedPathWrong : ChangeSpec := { name := "fnExactIsInducedPath", fn := fun _ => fun
  | [d1, d2] => { results := [.lit (.bool false)], args := [d1, d2] }
  | _ => none }
def FnExactIsInducedPathWrongFalsely : Prop := fnExactIsInducedPathRow.holds Try.pinned (OpenSpec.ofChange fnExactIsInducedPathWrong)

/-- 'laws.FnExactAddEdge': WHATEVER THE INPUT: true; the input reads as it did. -/
def fnExactAddEdgeSpec : ChangeSpec := { name := "fnExactAddEdge", fn := fun _ => fun
  | [d1, d2, d3] => { results := [.lit (.bool true)], args := [d1, d2, d3] }
  | _ => none }
def fnExactAddEdgeRow : OpenClaim := { program := "ytfhjmoikggiblaa", sum := "205401831619814b9ffffe8118bd76672fd287b8e0cb57cfb5a6dc74fd9b9ce0", func := "loop.example/g02081/laws.FnExactAddEdge", spec := "fnExactAddEdge", apart := false }
def FnExactAddEdgeSaid : Prop := fnExactAddEdgeRow.holds Try.pinned (OpenSpec.ofChange fnExactAddEdgeSpec)

/-- ITS FALSE NEIGHBOUR: 'it returns false'. Refute it at one input. -/
def fnExactAddEdgeWrong : ChangeSpec := { name := "fnExactAddEdge", fn := fun _ => fun
  | [d1, d2, d3] => { results := [.lit (.bool false)], args := [d1, d2, d3] }
  | _ => none }
def FnExactAddEdgeWrongFalsely : Prop := fnExactAddEdgeRow.holds Try.pinned (OpenSpec.ofChange fnExactAddEdgeWrong)

/-- 'laws.FnExactRemoveEdge': WHATEVER THE INPUT: true; the input reads as it did. -/
def fnExactRemoveEdgeSpec : ChangeSpec := { name := "fnExactRemoveEdge", fn := fun _ => fun
  | [d1, d2, d3] => { results := [.lit (.bool true)], args := [d1, d2, d3] }
  | _ => none }
def fnExactRemoveEdgeRow : OpenClaim := { program := "ytfhjmoikggiblaa", sum := "205401831619814b9ffffe8118bd76672fd287b8e0cb57cfb5a6dc74fd9b9ce0", func := "loop.example/g02081/laws.FnExactRemoveEdge", spec := "fnExactRemoveEdge", apart := false }
def FnExactRemoveEdgeSaid : Prop := fnExactRemoveEdgeRow.holds Try.pinned (OpenSpec.ofChange fnExactRemoveEdgeSpec)

/-- ITS FALSE NEIGHBOUR: 'it returns false'. Refute it at one input. -/
def fnExactRemoveEdgeWrong : ChangeSpec := { name := "fnExactRemoveEdge", fn := fun _ => fun
  | [d1, d2, d3] => { results := [.lit (.bool false)], args := [d1, d2, d3] }
  | _ => none }
def FnExactRemoveEdgeWrongFalsely : Prop := fnExactRemoveEdgeRow.holds Try.pinned (OpenSpec.ofChange fnExactRemoveEdgeWrong)

/-- 'laws.FnExactDistanceOf': WHATEVER THE INPUT: true; the input reads as it did. -/
def fnExactDistanceOfSpec : ChangeSpec := { name := "fnExactDistanceOf", fn := fun _ => fun
  | [d1, d2, d3] => { results := [.lit (.bool true)], args := [d1, d2, d3] }
  | _ => none }
def fnExactDistanceOfRow : OpenClaim := { program := "ytfhjmoikggiblaa", sum := "205401831619814b9ffffe8118bd76672fd287b8e0cb57cfb5a6dc74fd9b9ce0", func := "loop.example/g02081/laws.FnExactDistanceOf", spec := "fnExactDistanceOf", apart := false }
def FnExactDistanceOfSaid : Prop := fnExactDistanceOfRow.holds Try.pinned (OpenSpec.ofChange fnExactDistanceOfSpec)

/-- ITS FALSE NEIGHBOUR: 'it returns false'. Refute it at one input. -/
def fnExactDistanceOfWrong : ChangeSpec := { name := "fnExactDistanceOf", fn := fun _ => fun
  | [d1, d2, d3] => { results := [.lit (.bool false)], args := [d1, d2, d3] }
  | _ => none }
def FnExactDistanceOfWrongFalsely : Prop := fnExactDistanceOfRow.holds Try.pinned (OpenSpec.ofChange fnExactDistanceOfWrong)

/-- 'laws.FnExactEdgesOf': WHATEVER THE INPUT: true; the input reads as it did. -/
def fnExactEdgesOfSpec : ChangeSpec := { name := "fnExactEdgesOf", fn := fun _ => fun
  | [d] => { results := [.lit (.bool true)], args := [d] }
  | _ => none }
def fnExactEdgesOfRow : OpenClaim := { program := "ytfhjmoikggiblaa", sum := "205401831619814b9ffffe8118bd76672fd287b8e0cb57cfb5a6dc74fd9b9ce0", func := "loop.example/g02081/laws.FnExactEdgesOf", spec := "fnExactEdgesOf", apart := false }
def FnExactEdgesOfSaid : Prop := fnExactEdgesOfRow.holds Try.pinned (OpenSpec.ofChange fnExactEdgesOfSpec)

/-- ITS FALSE NEIGHBOUR: 'it returns false'. Refute it at one input. -/
def fnExactEdgesOfWrong : ChangeSpec := { name := "fnExactEdgesOf", fn := fun _ => fun
  | [d] => { results := [.lit (.bool false)], args := [d] }
  | _ => none }
def FnExactEdgesOfWrongFalsely : Prop := fnExactEdgesOfRow.holds Try.pinned (OpenSpec.ofChange fnExactEdgesOfWrong)

/-- 'laws.FnExactNamedGraph': WHATEVER THE INPUT: true; the input reads as it did. -/
def fnExactNamedGraphSpec : ChangeSpec := { name := "fnExactNamedGraph", fn := fun _ => fun
  | [d1, d2] => { results := [.lit (.bool true)], args := [d1, d2] }
  | _ => none }
def fnExactNamedGraphRow : OpenClaim := { program := "ytfhjmoikggiblaa", sum := "205401831619814b9ffffe8118bd76672fd287b8e0cb57cfb5a6dc74fd9b9ce0", func := "loop.example/g02081/laws.FnExactNamedGraph", spec := "fnExactNamedGraph", apart := false }
def FnExactNamedGraphSaid : Prop := fnExactNamedGraphRow.holds Try.pinned (OpenSpec.ofChange fnExactNamedGraphSpec)

/-- ITS FALSE NEIGHBOUR: 'it returns false'. Refute it at one input. -/
def fnExactNamedGraphWrong : ChangeSpec := { name := "fnExactNamedGraph", fn := fun _ => fun
  | [d1, d2] => { results := [.lit (.bool false)], args := [d1, d2] }
  | _ => none }
def FnExactNamedGraphWrongFalsely : Prop := fnExactNamedGraphRow.holds Try.pinned (OpenSpec.ofChange fnExactNamedGraphWrong)

/- THE SECOND FORM. 'bulk': how many values and letters a reading holds, each counted each time it is reached (what is shared counts as often as it is met; a slice's spare places count too). A statement '..UptoSaid' is the law's where the arguments, and the package variables that the reading takes, are together of bulk at most 1048576: NARROWER than '..Said'. Prove '..Said' where nothing that the law and all that it calls make is longer than what came in: it says more and counts as full. Else prove '..UptoSaid'. A law counts once. -/
mutual
def uptoBulk {H : Type} : DataW H → Nat
  | .lit (.string bytes) => bytes.length + 1
  | .lit _ => 1
  | .nil => 1
  | .ptr d => uptoBulk d + 1
  | .slice elems spare => uptoBulkAll elems + uptoBulkAll spare + 1
  | .agg parts => uptoBulkAll parts + 1
  | .iface _ d => uptoBulk d + 1
  | .map entries => uptoBulkEntries entries + 1
  | .held _ => 1
def uptoBulkAll {H : Type} : List (DataW H) → Nat
  | [] => 0
  | d :: r => uptoBulk d + uptoBulkAll r
def uptoBulkEntries {H : Type} : List (Lit × DataW H) → Nat
  | [] => 0
  | x :: r => uptoBulkEntry x + uptoBulkEntries r
def uptoBulkEntry {H : Type} : Lit × DataW H → Nat
  | (.string bytes, d) => bytes.length + uptoBulk d + 1
  | (_, d) => uptoBulk d + 1
 end
def uptoSmall : (H : Type) → List (DataW H) → Bool := fun _ ds => decide (uptoBulkAll ds ≤ 1048576)
def OpenSpec.upto (s : _root_.Go.ChangeSpec) : _root_.Go.OpenSpec := { _root_.Go.OpenSpec.ofChange s with cond := some uptoSmall }

/-- 'laws.FnExactAroundSet', WHERE WHAT IT READS IS OF BULK AT MOST 1048576: true; the input reads as it did. -/
def fnExactAroundSetUptoRow : OpenClaim := { program := "ytfhjmoikggiblaa", sum := "205401831619814b9ffffe8118bd76672fd287b8e0cb57cfb5a6dc74fd9b9ce0", func := "loop.example/g02081/laws.FnExactAroundSet", spec := "fnExactAroundSet", apart := false, narrowed := true }
def FnExactAroundSetUptoSaid : Prop := fnExactAroundSetUptoRow.holds Try.pinned (OpenSpec.upto fnExactAroundSetSpec)

/-- 'laws.FnExactComplementOf', WHERE WHAT IT READS IS OF BULK AT MOST 1048576: true; the input reads as it did. -/
def fnExactComplementOfUptoRow : OpenClaim := { program := "ytfhjmoikggiblaa", sum := "205401831619814b9ffffe8118bd76672fd287b8e0cb57cfb5a6dc74fd9b9ce0", func := "loop.example/g02081/laws.FnExactComplementOf", spec := "fnExactComplementOf", apart := false, narrowed := true }
def FnExactComplementOfUptoSaid : Prop := fnExactComplementOfUptoRow.holds Try.pinned (OpenSpec.upto fnExactComplementOfSpec)

/-- 'laws.FnExactIsClaw', WHERE WHAT IT READS IS OF BULK AT MOST 1048576: true; the input reads as it did. -/
def fnExactIsClawUptoRow : OpenClaim := { program := "ytfhjmoikggiblaa", sum := "205401831619814b9ffffe8118bd76672fd287b8e0cb57cfb5a6dc74fd9b9ce0", func := "loop.example/g02081/laws.FnExactIsClaw", spec := "fnExactIsClaw", unfollowed := true, recurses := true, apart := false, narrowed := true }
def FnExactIsClawUptoSaid : Prop := fnExactIsClawUptoRow.holds Try.pinned (OpenSpec.upto fnExactIsClawSpec)

/-- 'laws.FnExactIsTwoEdges', WHERE WHAT IT READS IS OF BULK AT MOST 1048576: true; the input reads as it did. -/
def fnExactIsTwoEdgesUptoRow : OpenClaim := { program := "ytfhjmoikggiblaa", sum := "205401831619814b9ffffe8118bd76672fd287b8e0cb57cfb5a6dc74fd9b9ce0", func := "loop.example/g02081/laws.FnExactIsTwoEdges", spec := "fnExactIsTwoEdges", unfollowed := true, recurses := true, apart := false, narrowed := true }
def FnExactIsTwoEdgesUptoSaid : Prop := fnExactIsTwoEdgesUptoRow.holds Try.pinned (OpenSpec.upto fnExactIsTwoEdgesSpec)

/-- 'laws.FnExactLaterNeighbours', WHERE WHAT IT READS IS OF BULK AT MOST 1048576: true; the input reads as it did. -/
def fnExactLaterNeighboursUptoRow : OpenClaim := { program := "ytfhjmoikggiblaa", sum := "205401831619814b9ffffe8118bd76672fd287b8e0cb57cfb5a6dc74fd9b9ce0", func := "loop.example/g02081/laws.FnExactLaterNeighbours", spec := "fnExactLaterNeighbours", apart := false, narrowed := true }
def FnExactLaterNeighboursUptoSaid : Prop := fnExactLaterNeighboursUptoRow.holds Try.pinned (OpenSpec.upto fnExactLaterNeighboursSpec)

/-- 'laws.FnExactIsHole', WHERE WHAT IT READS IS OF BULK AT MOST 1048576: true; the input reads as it did. -/
def fnExactIsHoleUptoRow : OpenClaim := { program := "ytfhjmoikggiblaa", sum := "205401831619814b9ffffe8118bd76672fd287b8e0cb57cfb5a6dc74fd9b9ce0", func := "loop.example/g02081/laws.FnExactIsHole", spec := "fnExactIsHole", unfollowed := true, recurses := true, apart := false, narrowed := true }
def FnExactIsHoleUptoSaid : Prop := fnExactIsHoleUptoRow.holds Try.pinned (OpenSpec.upto fnExactIsHoleSpec)

/-- 'laws.FnExactIsInducedPath', WHERE WHAT IT READS IS OF BULK AT MOST 1048576: true; the input reads as it did. -/
def fnExactIsInducedPathUptoRow : OpenClaim := { program := "ytfhjmoikggiblaa", sum := "205401831619814b9ffffe8118bd76672fd287b8e0cb57cfb5a6dc74fd9b9ce0", func := "loop.example/g02081/laws.FnExactIsInducedPath", spec := "fnExactIsInducedPath", unfollowed := true, recurses := true, apart := false, narrowed := true }
def FnExactIsInducedPathUptoSaid : Prop := fnExactIsInducedPathUptoRow.holds Try.pinned (OpenSpec.upto fnExactIsInducedPathSpec)

/-- 'laws.FnExactAddEdge', WHERE WHAT IT READS IS OF BULK AT MOST 1048576: true; the input reads as it did. -/
def fnExactAddEdgeUptoRow : OpenClaim := { program := "ytfhjmoikggiblaa", sum := "205401831619814b9ffffe8118bd76672fd287b8e0cb57cfb5a6dc74fd9b9ce0", func := "loop.example/g02081/laws.FnExactAddEdge", spec := "fnExactAddEdge", apart := false, narrowed := true }
def FnExactAddEdgeUptoSaid : Prop := fnExactAddEdgeUptoRow.holds Try.pinned (OpenSpec.upto fnExactAddEdgeSpec)

/-- 'laws.FnExactRemoveEdge', WHERE WHAT IT READS IS OF BULK AT MOST 1048576: true; the input reads as it did. -/
def fnExactRemoveEdgeUptoRow : OpenClaim := { program := "ytfhjmoikggiblaa", sum := "205401831619814b9ffffe8118bd76672fd287b8e0cb57cfb5a6dc74fd9b9ce0", func := "loop.example/g02081/laws.FnExactRemoveEdge", spec := "fnExactRemoveEdge", apart := false, narrowed := true }
def FnExactRemoveEdgeUptoSaid : Prop := fnExactRemoveEdgeUptoRow.holds Try.pinned (OpenSpec.upto fnExactRemoveEdgeSpec)

/-- 'laws.FnExactDistanceOf', WHERE WHAT IT READS IS OF BULK AT MOST 1048576: true; the input reads as it did. -/
def fnExactDistanceOfUptoRow : OpenClaim := { program := "ytfhjmoikggiblaa", sum := "205401831619814b9ffffe8118bd76672fd287b8e0cb57cfb5a6dc74fd9b9ce0", func := "loop.example/g02081/laws.FnExactDistanceOf", spec := "fnExactDistanceOf", apart := false, narrowed := true }
def FnExactDistanceOfUptoSaid : Prop := fnExactDistanceOfUptoRow.holds Try.pinned (OpenSpec.upto fnExactDistanceOfSpec)

/-- 'laws.FnExactEdgesOf', WHERE WHAT IT READS IS OF BULK AT MOST 1048576: true; the input reads as it did. -/
def fnExactEdgesOfUptoRow : OpenClaim := { program := "ytfhjmoikggiblaa", sum := "205401831619814b9ffffe8118bd76672fd287b8e0cb57cfb5a6dc74fd9b9ce0", func := "loop.example/g02081/laws.FnExactEdgesOf", spec := "fnExactEdgesOf", apart := false, narrowed := true }
def FnExactEdgesOfUptoSaid : Prop := fnExactEdgesOfUptoRow.holds Try.pinned (OpenSpec.upto fnExactEdgesOfSpec)

/-- 'laws.FnExactNamedGraph', WHERE WHAT IT READS IS OF BULK AT MOST 1048576: true; the input reads as it did. -/
def fnExactNamedGraphUptoRow : OpenClaim := { program := "ytfhjmoikggiblaa", sum := "205401831619814b9ffffe8118bd76672fd287b8e0cb57cfb5a6dc74fd9b9ce0", func := "loop.example/g02081/laws.FnExactNamedGraph", spec := "fnExactNamedGraph", apart := false, narrowed := true }
def FnExactNamedGraphUptoSaid : Prop := fnExactNamedGraphUptoRow.holds Try.pinned (OpenSpec.upto fnExactNamedGraphSpec)

end Rows
end Go.Proofs.Ytfhjmoikggiblaa
