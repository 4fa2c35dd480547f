/-
  No cell of these rows narrows 'for every input' (looked for: loops, veiled, ifaces, maps, wideKeys, modest, calm, conditions, laid).
  DERIVED. THE GIVEN ROWS OF THIS SEAT. 12 by the template 'for every input the law returns true; each argument reads behind the call as it read before'; 0 by the template 'total and deterministic' (their statements: YtpafmmdilnbaeaaTotals.lean).
  GIVEN WITH THE SEED: the statements are not yours to turn. If you find one false, say at which input.
  Laid BY PROGRAM, IN A SANDBOX (cutbox-rows.mjs): the forced cells as the released guide's own fill.sh prints them over the translation d25b4a634d2bd0bc… (all of the seat's roots in one cut). By AI agents, Wed Nov 11 2026. No macro, syntax, notation, axiom, sorry.
-/
import Derived.Test.YtpafmmdilnbaeaaChecked
import GoSem.Claim
import GoSem.ClaimJoined
import GoSem.ClaimMapViews
import Derived.JoinedTies
import Derived.KernelRfl
namespace Go.Proofs.Ytpafmmdilnbaeaa
/- THE CELL 'sum', in the pinned program and in every row, IS THE sha256 OF THE DUMP (.gsa) THAT YtpafmmdilnbaeaaProg.lean LOADS. Nothing in Lean hashes anything: it is a label: what it is worth is what the hold of that sum in a sandbox is worth. -/
noncomputable def Try.pinned : Pinned := { name := "ytpafmmdilnbaeaa", sum := "d25b4a634d2bd0bc5471f033b409339c701ab551d3c8c1a9e69a64ae5cffc49f", checked := Try.checked }
namespace Rows
def none {H : Type} : Left H := { results := [], args := [] }

/-- 'laws.FnExactDecodeVarint': WHATEVER THE INPUT: true; the input reads as it did. -/
def fnExactDecodeVarintSpec : ChangeSpec := { name := "fnExactDecodeVarint", fn := fun _ => fun
  | [d] => { results := [.lit (.bool true)], args := [d] }
  | _ => none }
def fnExactDecodeVarintRow : OpenClaim := { program := "ytpafmmdilnbaeaa", sum := "d25b4a634d2bd0bc5471f033b409339c701ab551d3c8c1a9e69a64ae5cffc49f", func := "loop.example/g02081/laws.FnExactDecodeVarint", spec := "fnExactDecodeVarint", apart := false }
def FnExactDecodeVarintSaid : Prop := fnExactDecodeVarintRow.holds Try.pinned (OpenSpec.ofChange fnExactDecodeVarintSpec)

/-- ITS FALSE NEIGHBOUR: 'it returns false'. Refute it at one input. -/
def fnExactDecodeVarintWrong : ChangeSpec := { name := "fnExactDecodeVarint", fn := fun _ => fun
  | [d] => { results := [.lit (.bool false)], args := [d] }
  | _ => none }
def FnExactDecodeVarintWrongFalsely : Prop := fnExactDecodeVarintRow.holds Try.pinned (OpenSpec.ofChange fnExactDecodeVarintWrong)

/-- 'laws.FnExactSetOf': WHATEVER THE INPUT: true; the input reads as it did. -/
def fnExactSetOfSpec : ChangeSpec := { name := "fnExactSetOf", fn := fun _ => fun
  | [d] => { results := [.lit (.bool true)], args := [d] }
  | _ => none }
def fnExactSetOfRow : OpenClaim := { program := "ytpafmmdilnbaeaa", sum := "d25b4a634d2bd0bc5471f033b409339c701ab551d3c8c1a9e69a64ae5cffc49f", func := "loop.example/g02081/laws.FnExactSetOf", spec := "fnExactSetOf", apart := false }
def FnExactSetOfSaid : Prop := fnExactSetOfRow.holds Try.pinned (OpenSpec.ofChange fnExactSetOfSpec)

/-- ITS FALSE NEIGHBOUR: 'it returns false'. Refute it at one input. -/
def fnExactSetOfWrong : ChangeSpec := { name := "fnExactSetOf", fn := fun _ => fun
  | [d] => { results := [.lit (.bool false)], args := [d] }
  | _ => none }
def FnExactSetOfWrongFalsely : Prop := fnExactSetOfRow.holds Try.pinned (OpenSpec.ofChange fnExactSetOfWrong)

/-- 'laws.FnExactDecodeHex': WHATEVER THE INPUT: true; the input reads as it did. -/
def fnExactDecodeHexSpec : ChangeSpec := { name := "fnExactDecodeHex", fn := fun _ => fun
  | [d] => { results := [.lit (.bool true)], args := [d] }
  | _ => none }
def fnExactDecodeHexRow : OpenClaim := { program := "ytpafmmdilnbaeaa", sum := "d25b4a634d2bd0bc5471f033b409339c701ab551d3c8c1a9e69a64ae5cffc49f", func := "loop.example/g02081/laws.FnExactDecodeHex", spec := "fnExactDecodeHex", apart := false }
def FnExactDecodeHexSaid : Prop := fnExactDecodeHexRow.holds Try.pinned (OpenSpec.ofChange fnExactDecodeHexSpec)

/-- ITS FALSE NEIGHBOUR: 'it returns false'. Refute it at one input. -/
def fnExactDecodeHexWrong : ChangeSpec := { name := "fnExactDecodeHex", fn := fun _ => fun
  | [d] => { results := [.lit (.bool false)], args := [d] }
  | _ => none }
def FnExactDecodeHexWrongFalsely : Prop := fnExactDecodeHexRow.holds Try.pinned (OpenSpec.ofChange fnExactDecodeHexWrong)

/-- 'laws.FnExactListOf': WHATEVER THE INPUT: true; the input reads as it did. -/
def fnExactListOfSpec : ChangeSpec := { name := "fnExactListOf", fn := fun _ => fun
  | [d] => { results := [.lit (.bool true)], args := [d] }
  | _ => none }
def fnExactListOfRow : OpenClaim := { program := "ytpafmmdilnbaeaa", sum := "d25b4a634d2bd0bc5471f033b409339c701ab551d3c8c1a9e69a64ae5cffc49f", func := "loop.example/g02081/laws.FnExactListOf", spec := "fnExactListOf", apart := false }
def FnExactListOfSaid : Prop := fnExactListOfRow.holds Try.pinned (OpenSpec.ofChange fnExactListOfSpec)

/-- ITS FALSE NEIGHBOUR: 'it returns false'. Refute it at one input. -/
def fnExactListOfWrong : ChangeSpec := { name := "fnExactListOf", fn := fun _ => fun
  | [d] => { results := [.lit (.bool false)], args := [d] }
  | _ => none }
def FnExactListOfWrongFalsely : Prop := fnExactListOfRow.holds Try.pinned (OpenSpec.ofChange fnExactListOfWrong)

/-- 'laws.FnExactEqualGraphs': WHATEVER THE INPUT: true; the input reads as it did. -/
def fnExactEqualGraphsSpec : ChangeSpec := { name := "fnExactEqualGraphs", fn := fun _ => fun
  | [d1, d2] => { results := [.lit (.bool true)], args := [d1, d2] }
  | _ => none }
def fnExactEqualGraphsRow : OpenClaim := { program := "ytpafmmdilnbaeaa", sum := "d25b4a634d2bd0bc5471f033b409339c701ab551d3c8c1a9e69a64ae5cffc49f", func := "loop.example/g02081/laws.FnExactEqualGraphs", spec := "fnExactEqualGraphs", apart := false }
def FnExactEqualGraphsSaid : Prop := fnExactEqualGraphsRow.holds Try.pinned (OpenSpec.ofChange fnExactEqualGraphsSpec)

/-- ITS FALSE NEIGHBOUR: 'it returns false'. Refute it at one input. -/
def fnExactEqualGraphsWrong : ChangeSpec := { name := "fnExactEqualGraphs", fn := fun _ => fun
  | [d1, d2] => { results := [.lit (.bool false)], args := [d1, d2] }
  | _ => none }
def FnExactEqualGraphsWrongFalsely : Prop := fnExactEqualGraphsRow.holds Try.pinned (OpenSpec.ofChange fnExactEqualGraphsWrong)

/-- 'laws.FnExactIsGraph': WHATEVER THE INPUT: true; the input reads as it did. -/
def fnExactIsGraphSpec : ChangeSpec := { name := "fnExactIsGraph", fn := fun _ => fun
  | [d] => { results := [.lit (.bool true)], args := [d] }
  | _ => none }
def fnExactIsGraphRow : OpenClaim := { program := "ytpafmmdilnbaeaa", sum := "d25b4a634d2bd0bc5471f033b409339c701ab551d3c8c1a9e69a64ae5cffc49f", func := "loop.example/g02081/laws.FnExactIsGraph", spec := "fnExactIsGraph", apart := false }
def FnExactIsGraphSaid : Prop := fnExactIsGraphRow.holds Try.pinned (OpenSpec.ofChange fnExactIsGraphSpec)

/-- ITS FALSE NEIGHBOUR: 'it returns false'. Refute it at one input. -/
def fnExactIsGraphWrong : ChangeSpec := { name := "fnExactIsGraph", fn := fun _ => fun
  | [d] => { results := [.lit (.bool false)], args := [d] }
  | _ => none }
def FnExactIsGraphWrongFalsely : Prop := fnExactIsGraphRow.holds Try.pinned (OpenSpec.ofChange fnExactIsGraphWrong)

/-- 'laws.FnExactIsSet': WHATEVER THE INPUT: true; the input reads as it did. -/
def fnExactIsSetSpec : ChangeSpec := { name := "fnExactIsSet", fn := fun _ => fun
  | [d1, d2] => { results := [.lit (.bool true)], args := [d1, d2] }
  | _ => none }
def fnExactIsSetRow : OpenClaim := { program := "ytpafmmdilnbaeaa", sum := "d25b4a634d2bd0bc5471f033b409339c701ab551d3c8c1a9e69a64ae5cffc49f", func := "loop.example/g02081/laws.FnExactIsSet", spec := "fnExactIsSet", apart := false }
def FnExactIsSetSaid : Prop := fnExactIsSetRow.holds Try.pinned (OpenSpec.ofChange fnExactIsSetSpec)

/-- ITS FALSE NEIGHBOUR: 'it returns false'. Refute it at one input. -/
def fnExactIsSetWrong : ChangeSpec := { name := "fnExactIsSet", fn := fun _ => fun
  | [d1, d2] => { results := [.lit (.bool false)], args := [d1, d2] }
  | _ => none }
def FnExactIsSetWrongFalsely : Prop := fnExactIsSetRow.holds Try.pinned (OpenSpec.ofChange fnExactIsSetWrong)

/-- 'laws.FnExactCanonicalCycle': WHATEVER THE INPUT: true; the input reads as it did. -/
def fnExactCanonicalCycleSpec : ChangeSpec := { name := "fnExactCanonicalCycle", fn := fun _ => fun
  | [d] => { results := [.lit (.bool true)], args := [d] }
  | _ => none }
def fnExactCanonicalCycleRow : OpenClaim := { program := "ytpafmmdilnbaeaa", sum := "d25b4a634d2bd0bc5471f033b409339c701ab551d3c8c1a9e69a64ae5cffc49f", func := "loop.example/g02081/laws.FnExactCanonicalCycle", spec := "fnExactCanonicalCycle", apart := false }
def FnExactCanonicalCycleSaid : Prop := fnExactCanonicalCycleRow.holds Try.pinned (OpenSpec.ofChange fnExactCanonicalCycleSpec)

/-- ITS FALSE NEIGHBOUR: 'it returns false'. Refute it at one input. -/
def fnExactCanonicalCycleWrong : ChangeSpec := { name := "fnExactCanonicalCycle", fn := fun _ => fun
  | [d] => { results := [.lit (.bool false)], args := [d] }
  | _ => none }
def FnExactCanonicalCycleWrongFalsely : Prop := fnExactCanonicalCycleRow.holds Try.pinned (OpenSpec.ofChange fnExactCanonicalCycleWrong)

/-- 'laws.FnExactHasEdge': WHATEVER THE INPUT: true; the input reads as it did. -/
def fnExactHasEdgeSpec : ChangeSpec := { name := "fnExactHasEdge", fn := fun _ => fun
  | [d1, d2, d3] => { results := [.lit (.bool true)], args := [d1, d2, d3] }
  | _ => none }
def fnExactHasEdgeRow : OpenClaim := { program := "ytpafmmdilnbaeaa", sum := "d25b4a634d2bd0bc5471f033b409339c701ab551d3c8c1a9e69a64ae5cffc49f", func := "loop.example/g02081/laws.FnExactHasEdge", spec := "fnExactHasEdge", apart := false }
def FnExactHasEdgeSaid : Prop := fnExactHasEdgeRow.holds Try.pinned (OpenSpec.ofChange fnExactHasEdgeSpec)

/-- ITS FALSE NEIGHBOUR: 'it returns false'. Refute it at one input. -/
def fnExactHasEdgeWrong : ChangeSpec := { name := "fnExactHasEdge", fn := fun _ => fun
  | [d1, d2, d3] => { results := [.lit (.bool false)], args := [d1, d2, d3] }
  | _ => none }
def FnExactHasEdgeWrongFalsely : Prop := fnExactHasEdgeRow.holds Try.pinned (OpenSpec.ofChange fnExactHasEdgeWrong)

/-- 'laws.FnExactIsIndependent': WHATEVER THE INPUT: true; the input reads as it did. -/
def fnExactIsIndependentSpec : ChangeSpec := { name := "fnExactIsIndependent", fn := fun _ => fun
  | [d1, d2] => { results := [.lit (.bool true)], args := [d1, d2] }
  | _ => none }
def fnExactIsIndependentRow : OpenClaim := { program := "ytpafmmdilnbaeaa", sum := "d25b4a634d2bd0bc5471f033b409339c701ab551d3c8c1a9e69a64ae5cffc49f", func := "loop.example/g02081/laws.FnExactIsIndependent", spec := "fnExactIsIndependent", apart := false }
def FnExactIsIndependentSaid : Prop := fnExactIsIndependentRow.holds Try.pinned (OpenSpec.ofChange fnExactIsIndependentSpec)

/-- ITS FALSE NEIGHBOUR: 'it returns false'. Refute it at one input. -/
def fnExactIsIndependentWrong : ChangeSpec := { name := "fnExactIsIndependent", fn := fun _ => fun
  | [d1, d2] => { results := [.lit (.bool false)], args := [d1, d2] }
  | _ => none }
def FnExactIsIndependentWrongFalsely : Prop := fnExactIsIndependentRow.holds Try.pinned (OpenSpec.ofChange fnExactIsIndependentWrong)

/-- 'laws.FnExactIsClique': WHATEVER THE INPUT: true; the input reads as it did. -/
def fnExactIsCliqueSpec : ChangeSpec := { name := "fnExactIsClique", fn := fun _ => fun
  | [d1, d2] => { results := [.lit (.bool true)], args := [d1, d2] }
  | _ => none }
def fnExactIsCliqueRow : OpenClaim := { program := "ytpafmmdilnbaeaa", sum := "d25b4a634d2bd0bc5471f033b409339c701ab551d3c8c1a9e69a64ae5cffc49f", func := "loop.example/g02081/laws.FnExactIsClique", spec := "fnExactIsClique", apart := false }
def FnExactIsCliqueSaid : Prop := fnExactIsCliqueRow.holds Try.pinned (OpenSpec.ofChange fnExactIsCliqueSpec)

/-- ITS FALSE NEIGHBOUR: 'it returns false'. Refute it at one input. -/
def fnExactIsCliqueWrong : ChangeSpec := { name := "fnExactIsClique", fn := fun _ => fun
  | [d1, d2] => { results := [.lit (.bool false)], args := [d1, d2] }
  | _ => none }
def FnExactIsCliqueWrongFalsely : Prop := fnExactIsCliqueRow.holds Try.pinned (OpenSpec.ofChange fnExactIsCliqueWrong)

/-- 'laws.FnExactIsOrder': WHATEVER THE INPUT: true; the input reads as it did. -/
def fnExactIsOrderSpec : ChangeSpec := { name := "fnExactIsOrder", fn := fun _ => fun
  | [d1, d2] => { results := [.lit (.bool true)], args := [d1, d2] }
  | _ => none }
def fnExactIsOrderRow : OpenClaim := { program := "ytpafmmdilnbaeaa", sum := "d25b4a634d2bd0bc5471f033b409339c701ab551d3c8c1a9e69a64ae5cffc49f", func := "loop.example/g02081/laws.FnExactIsOrder", spec := "fnExactIsOrder", apart := false }
def FnExactIsOrderSaid : Prop := fnExactIsOrderRow.holds Try.pinned (OpenSpec.ofChange fnExactIsOrderSpec)

/-- ITS FALSE NEIGHBOUR: 'it returns false'. Refute it at one input. -/
def fnExactIsOrderWrong : ChangeSpec := { name := "fnExactIsOrder", fn := fun _ => fun
  | [d1, d2] => { results := [.lit (.bool false)], args := [d1, d2] }
  | _ => none }
def FnExactIsOrderWrongFalsely : Prop := fnExactIsOrderRow.holds Try.pinned (OpenSpec.ofChange fnExactIsOrderWrong)

/- THE SECOND FORM. 'bulk': how many values and letters a reading holds, each counted each time it is reached (what is shared counts as often as it is met; a slice's spare places count too). A statement '..UptoSaid' is the law's where the arguments, and the package variables that the reading takes, are together of bulk at most 1048576: NARROWER than '..Said'. Prove '..Said' where nothing that the law and all that it calls make is longer than what came in: it says more and counts as full. Else prove '..UptoSaid'. A law counts once. -/
mutual
def uptoBulk {H : Type} : DataW H → Nat
  | .lit (.string bytes) => bytes.length + 1
  | .lit _ => 1
  | .nil => 1
  | .ptr d => uptoBulk d + 1
  | .slice elems spare => uptoBulkAll elems + uptoBulkAll spare + 1
  | .agg parts => uptoBulkAll parts + 1
  | .iface _ d => uptoBulk d + 1
  | .map entries => uptoBulkEntries entries + 1
  | .held _ => 1
def uptoBulkAll {H : Type} : List (DataW H) → Nat
  | [] => 0
  | d :: r => uptoBulk d + uptoBulkAll r
def uptoBulkEntries {H : Type} : List (Lit × DataW H) → Nat
  | [] => 0
  | x :: r => uptoBulkEntry x + uptoBulkEntries r
def uptoBulkEntry {H : Type} : Lit × DataW H → Nat
  | (.string bytes, d) => bytes.length + uptoBulk d + 1
  | (_, d) => uptoBulk d + 1
 end
def uptoSmall : (H : Type) → List (DataW H) → Bool := fun _ ds => decide (uptoBulkAll ds ≤ 1048576)
def OpenSpec.upto (s : _root_.Go.ChangeSpec) : _root_.Go.OpenSpec := { _root_.Go.OpenSpec.ofChange s with cond := some uptoSmall }

/-- 'laws.FnExactDecodeVarint', WHERE WHAT IT READS IS OF BULK AT MOST 1048576: true; the input reads as it did. -/
def fnExactDecodeVarintUptoRow : OpenClaim := { program := "ytpafmmdilnbaeaa", sum := "d25b4a634d2bd0bc5471f033b409339c701ab551d3c8c1a9e69a64ae5cffc49f", func := "loop.example/g02081/laws.FnExactDecodeVarint", spec := "fnExactDecodeVarint", apart := false, narrowed := true }
def FnExactDecodeVarintUptoSaid : Prop := fnExactDecodeVarintUptoRow.holds Try.pinned (OpenSpec.upto fnExactDecodeVarintSpec)

/-- 'laws.FnExactSetOf', WHERE WHAT IT READS IS OF BULK AT MOST 1048576: true; the input reads as it did. -/
def fnExactSetOfUptoRow : OpenClaim := { program := "ytpafmmdilnbaeaa", sum := "d25b4a634d2bd0bc5471f033b409339c701ab551d3c8c1a9e69a64ae5cffc49f", func := "loop.example/g02081/laws.FnExactSetOf", spec := "fnExactSetOf", apart := false, narrowed := true }
def FnExactSetOfUptoSaid : Prop := fnExactSetOfUptoRow.holds Try.pinned (OpenSpec.upto fnExactSetOfSpec)

/-- 'laws.FnExactDecodeHex', WHERE WHAT IT READS IS OF BULK AT MOST 1048576: true; the input reads as it did. -/
def fnExactDecodeHexUptoRow : OpenClaim := { program := "ytpafmmdilnbaeaa", sum := "d25b4a634d2bd0bc5471f033b409339c701ab551d3c8c1a9e69a64ae5cffc49f", func := "loop.example/g02081/laws.FnExactDecodeHex", spec := "fnExactDecodeHex", apart := false, narrowed := true }
def FnExactDecodeHexUptoSaid : Prop := fnExactDecodeHexUptoRow.holds Try.pinned (OpenSpec.upto fnExactDecodeHexSpec)

/-- 'laws.FnExactListOf', WHERE WHAT IT READS IS OF BULK AT MOST 1048576: true; the input reads as it did. -/
def fnExactListOfUptoRow : OpenClaim := { program := "ytpafmmdilnbaeaa", sum := "d25b4a634d2bd0bc5471f033b409339c701ab551d3c8c1a9e69a64ae5cffc49f", func := "loop.example/g02081/laws.FnExactListOf", spec := "fnExactListOf", apart := false, narrowed := true }
def FnExactListOfUptoSaid : Prop := fnExactListOfUptoRow.holds Try.pinned (OpenSpec.upto fnExactListOfSpec)

/-- 'laws.FnExactEqualGraphs', WHERE WHAT IT READS IS OF BULK AT MOST 1048576: true; the input reads as it did. -/
def fnExactEqualGraphsUptoRow : OpenClaim := { program := "ytpafmmdilnbaeaa", sum := "d25b4a634d2bd0bc5471f033b409339c701ab551d3c8c1a9e69a64ae5cffc49f", func := "loop.example/g02081/laws.FnExactEqualGraphs", spec := "fnExactEqualGraphs", apart := false, narrowed := true }
def FnExactEqualGraphsUptoSaid : Prop := fnExactEqualGraphsUptoRow.holds Try.pinned (OpenSpec.upto fnExactEqualGraphsSpec)

/-- 'laws.FnExactIsGraph', WHERE WHAT IT READS IS OF BULK AT MOST 1048576: true; the input reads as it did. -/
def fnExactIsGraphUptoRow : OpenClaim := { program := "ytpafmmdilnbaeaa", sum := "d25b4a634d2bd0bc5471f033b409339c701ab551d3c8c1a9e69a64ae5cffc49f", func := "loop.example/g02081/laws.FnExactIsGraph", spec := "fnExactIsGraph", apart := false, narrowed := true }
def FnExactIsGraphUptoSaid : Prop := fnExactIsGraphUptoRow.holds Try.pinned (OpenSpec.upto fnExactIsGraphSpec)

/-- 'laws.FnExactIsSet', WHERE WHAT IT READS IS OF BULK AT MOST 1048576: true; the input reads as it did. -/
def fnExactIsSetUptoRow : OpenClaim := { program := "ytpafmmdilnbaeaa", sum := "d25b4a634d2bd0bc5471f033b409339c701ab551d3c8c1a9e69a64ae5cffc49f", func := "loop.example/g02081/laws.FnExactIsSet", spec := "fnExactIsSet", apart := false, narrowed := true }
def FnExactIsSetUptoSaid : Prop := fnExactIsSetUptoRow.holds Try.pinned (OpenSpec.upto fnExactIsSetSpec)

/-- 'laws.FnExactCanonicalCycle', WHERE WHAT IT READS IS OF BULK AT MOST 1048576: true; the input reads as it did. -/
def fnExactCanonicalCycleUptoRow : OpenClaim := { program := "ytpafmmdilnbaeaa", sum := "d25b4a634d2bd0bc5471f033b409339c701ab551d3c8c1a9e69a64ae5cffc49f", func := "loop.example/g02081/laws.FnExactCanonicalCycle", spec := "fnExactCanonicalCycle", apart := false, narrowed := true }
def FnExactCanonicalCycleUptoSaid : Prop := fnExactCanonicalCycleUptoRow.holds Try.pinned (OpenSpec.upto fnExactCanonicalCycleSpec)

/-- 'laws.FnExactHasEdge', WHERE WHAT IT READS IS OF BULK AT MOST 1048576: true; the input reads as it did. -/
def fnExactHasEdgeUptoRow : OpenClaim := { program := "ytpafmmdilnbaeaa", sum := "d25b4a634d2bd0bc5471f033b409339c701ab551d3c8c1a9e69a64ae5cffc49f", func := "loop.example/g02081/laws.FnExactHasEdge", spec := "fnExactHasEdge", apart := false, narrowed := true }
def FnExactHasEdgeUptoSaid : Prop := fnExactHasEdgeUptoRow.holds Try.pinned (OpenSpec.upto fnExactHasEdgeSpec)

/-- 'laws.FnExactIsIndependent', WHERE WHAT IT READS IS OF BULK AT MOST 1048576: true; the input reads as it did. -/
def fnExactIsIndependentUptoRow : OpenClaim := { program := "ytpafmmdilnbaeaa", sum := "d25b4a634d2bd0bc5471f033b409339c701ab551d3c8c1a9e69a64ae5cffc49f", func := "loop.example/g02081/laws.FnExactIsIndependent", spec := "fnExactIsIndependent", apart := false, narrowed := true }
def FnExactIsIndependentUptoSaid : Prop := fnExactIsIndependentUptoRow.holds Try.pinned (OpenSpec.upto fnExactIsIndependentSpec)

/-- 'laws.FnExactIsClique', WHERE WHAT IT READS IS OF BULK AT MOST 1048576: true; the input reads as it did. -/
def fnExactIsCliqueUptoRow : OpenClaim := { program := "ytpafmmdilnbaeaa", sum := "d25b4a634d2bd0bc5471f033b409339c701ab551d3c8c1a9e69a64ae5cffc49f", func := "loop.example/g02081/laws.FnExactIsClique", spec := "fnExactIsClique", apart := false, narrowed := true }
def FnExactIsCliqueUptoSaid : Prop := fnExactIsCliqueUptoRow.holds Try.pinned (OpenSpec.upto fnExactIsCliqueSpec)

/-- 'laws.FnExactIsOrder', WHERE WHAT IT READS IS OF BULK AT MOST 1048576: true; the input reads as it did. -/
def fnExactIsOrderUptoRow : OpenClaim := { program := "ytpafmmdilnbaeaa", sum := "d25b4a634d2bd0bc5471f033b409339c701ab551d3c8c1a9e69a64ae5cffc49f", func := "loop.example/g02081/laws.FnExactIsOrder", spec := "fnExactIsOrder", apart := false, narrowed := true }
def FnExactIsOrderUptoSaid : Prop := fnExactIsOrderUptoRow.holds Try.pinned (OpenSpec.upto fnExactIsOrderSpec)

end Rows
end Go.Proofs.Ytpafmmdilnbaeaa
