/-
  No cell of these rows narrows 'for every input' (looked for: loops, veiled, ifaces, maps, wideKeys, modest, calm, conditions, laid).
  DERIVED. THE GIVEN ROWS OF THIS SEAT. 12 by the template 'for every input the law returns true; each argument reads behind the call as it read before'; 0 by the template 'total and deterministic' (their statements: YtnlabnkgcncmlaaTotals.lean).
  GIVEN WITH THE SEED: the statements are not yours to turn. If you find one false, say at which input.
  Laid BY PROGRAM, IN A SANDBOX (cutbox-rows.mjs): the forced cells as the released guide's own fill.sh prints them over the translation 8886fac3506168f1… (all of the seat's roots in one cut). By AI agents, Wed Nov 11 2026. No macro, syntax, notation, axiom, sorry.
-/
import Derived.Test.YtnlabnkgcncmlaaChecked
import GoSem.Claim
import GoSem.ClaimJoined
import GoSem.ClaimMapViews
import Derived.JoinedTies
import Derived.KernelRfl
namespace Go.Proofs.Ytnlabnkgcncmlaa
/- THE CELL 'sum', in the pinned program and in every row, IS THE sha256 OF THE DUMP (.gsa) THAT YtnlabnkgcncmlaaProg.lean LOADS. Nothing in Lean hashes anything: it is a label: what it is worth is what the hold of that sum in a sandbox is worth. -/
noncomputable def Try.pinned : Pinned := { name := "ytnlabnkgcncmlaa", sum := "8886fac3506168f165ab7c8bf4788cf7889db986a39b3161e71339e11fa4e6b3", checked := Try.checked }
namespace Rows
def none {H : Type} : Left H := { results := [], args := [] }

/-- 'laws.FnExactSimplicialOf': WHATEVER THE INPUT: true; the input reads as it did. -/
def fnExactSimplicialOfSpec : ChangeSpec := { name := "fnExactSimplicialOf", fn := fun _ => fun
  | [d] => { results := [.lit (.bool true)], args := [d] }
  | _ => none }
def fnExactSimplicialOfRow : OpenClaim := { program := "ytnlabnkgcncmlaa", sum := "8886fac3506168f165ab7c8bf4788cf7889db986a39b3161e71339e11fa4e6b3", func := "loop.example/g02081/laws.FnExactSimplicialOf", spec := "fnExactSimplicialOf", apart := false }
def FnExactSimplicialOfSaid : Prop := fnExactSimplicialOfRow.holds Try.pinned (OpenSpec.ofChange fnExactSimplicialOfSpec)

/-- ITS FALSE NEIGHBOUR: 'it returns false'. Refute it at one input. -/
def fnExactSimplicialOfWrong : ChangeSpec := { name := "fnExactSimplicialOf", fn := fun _ => fun
  | [d] => { results := [.lit (.bool false)], args := [d] }
  | _ => none }
def FnExactSimplicialOfWrongFalsely : Prop := fnExactSimplicialOfRow.holds Try.pinned (OpenSpec.ofChange fnExactSimplicialOfWrong)

/-- 'laws.FnExactIsLexOrder': WHATEVER THE INPUT: true; the input reads as it did. -/
def fnExactIsLexOrderSpec : ChangeSpec := { name := "fnExactIsLexOrder", fn := fun _ => fun
  | [d1, d2] => { results := [.lit (.bool true)], args := [d1, d2] }
  | _ => none }
def fnExactIsLexOrderRow : OpenClaim := { program := "ytnlabnkgcncmlaa", sum := "8886fac3506168f165ab7c8bf4788cf7889db986a39b3161e71339e11fa4e6b3", func := "loop.example/g02081/laws.FnExactIsLexOrder", spec := "fnExactIsLexOrder", apart := false }
def FnExactIsLexOrderSaid : Prop := fnExactIsLexOrderRow.holds Try.pinned (OpenSpec.ofChange fnExactIsLexOrderSpec)

/-- ITS FALSE NEIGHBOUR: 'it returns false'. Refute it at one input. -/
def fnExactIsLexOrderWrong : ChangeSpec := { name := "fnExactIsLexOrder", fn := fun _ => fun
  | [d1, d2] => { results := [.lit (.bool false)], args := [d1, d2] }
  | _ => none }
def FnExactIsLexOrderWrongFalsely : Prop := fnExactIsLexOrderRow.holds Try.pinned (OpenSpec.ofChange fnExactIsLexOrderWrong)

/-- 'laws.FnExactIsConnected': WHATEVER THE INPUT: true; the input reads as it did. -/
def fnExactIsConnectedSpec : ChangeSpec := { name := "fnExactIsConnected", fn := fun _ => fun
  | [d] => { results := [.lit (.bool true)], args := [d] }
  | _ => none }
def fnExactIsConnectedRow : OpenClaim := { program := "ytnlabnkgcncmlaa", sum := "8886fac3506168f165ab7c8bf4788cf7889db986a39b3161e71339e11fa4e6b3", func := "loop.example/g02081/laws.FnExactIsConnected", spec := "fnExactIsConnected", apart := false }
def FnExactIsConnectedSaid : Prop := fnExactIsConnectedRow.holds Try.pinned (OpenSpec.ofChange fnExactIsConnectedSpec)

/-- ITS FALSE NEIGHBOUR: 'it returns false'. Refute it at one input. -/
def fnExactIsConnectedWrong : ChangeSpec := { name := "fnExactIsConnected", fn := fun _ => fun
  | [d] => { results := [.lit (.bool false)], args := [d] }
  | _ => none }
def FnExactIsConnectedWrongFalsely : Prop := fnExactIsConnectedRow.holds Try.pinned (OpenSpec.ofChange fnExactIsConnectedWrong)

/-- 'laws.FnExactBreadthOrder': WHATEVER THE INPUT: true; the input reads as it did. -/
def fnExactBreadthOrderSpec : ChangeSpec := { name := "fnExactBreadthOrder", fn := fun _ => fun
  | [d1, d2] => { results := [.lit (.bool true)], args := [d1, d2] }
  | _ => none }
def fnExactBreadthOrderRow : OpenClaim := { program := "ytnlabnkgcncmlaa", sum := "8886fac3506168f165ab7c8bf4788cf7889db986a39b3161e71339e11fa4e6b3", func := "loop.example/g02081/laws.FnExactBreadthOrder", spec := "fnExactBreadthOrder", apart := false }
def FnExactBreadthOrderSaid : Prop := fnExactBreadthOrderRow.holds Try.pinned (OpenSpec.ofChange fnExactBreadthOrderSpec)

/-- ITS FALSE NEIGHBOUR: 'it returns false'. Refute it at one input. -/
def fnExactBreadthOrderWrong : ChangeSpec := { name := "fnExactBreadthOrder", fn := fun _ => fun
  | [d1, d2] => { results := [.lit (.bool false)], args := [d1, d2] }
  | _ => none }
def FnExactBreadthOrderWrongFalsely : Prop := fnExactBreadthOrderRow.holds Try.pinned (OpenSpec.ofChange fnExactBreadthOrderWrong)

/-- 'laws.FnExactIsChordal': WHATEVER THE INPUT: true; the input reads as it did. -/
def fnExactIsChordalSpec : ChangeSpec := { name := "fnExactIsChordal", fn := fun _ => fun
  | [d] => { results := [.lit (.bool true)], args := [d] }
  | _ => none }
def fnExactIsChordalRow : OpenClaim := { program := "ytnlabnkgcncmlaa", sum := "8886fac3506168f165ab7c8bf4788cf7889db986a39b3161e71339e11fa4e6b3", func := "loop.example/g02081/laws.FnExactIsChordal", spec := "fnExactIsChordal", unfollowed := true, recurses := true, apart := false }
def FnExactIsChordalSaid : Prop := fnExactIsChordalRow.holds Try.pinned (OpenSpec.ofChange fnExactIsChordalSpec)

/-- ITS FALSE NEIGHBOUR: 'it returns false'. Refute it at one input. -/
def fnExactIsChordalWrong : ChangeSpec := { name := "fnExactIsChordal", fn := fun _ => fun
  | [d] => { results := [.lit (.bool false)], args := [d] }
  | _ => none }
def FnExactIsChordalWrongFalsely : Prop := fnExactIsChordalRow.holds Try.pinned (OpenSpec.ofChange fnExactIsChordalWrong)

/-- 'laws.FnExactInducedOn': WHATEVER THE INPUT: true; the input reads as it did. -/
def fnExactInducedOnSpec : ChangeSpec := { name := "fnExactInducedOn", fn := fun _ => fun
  | [d1, d2] => { results := [.lit (.bool true)], args := [d1, d2] }
  | _ => none }
def fnExactInducedOnRow : OpenClaim := { program := "ytnlabnkgcncmlaa", sum := "8886fac3506168f165ab7c8bf4788cf7889db986a39b3161e71339e11fa4e6b3", func := "loop.example/g02081/laws.FnExactInducedOn", spec := "fnExactInducedOn", apart := false }
def FnExactInducedOnSaid : Prop := fnExactInducedOnRow.holds Try.pinned (OpenSpec.ofChange fnExactInducedOnSpec)

/-- ITS FALSE NEIGHBOUR: 'it returns false'. Refute it at one input. -/
def fnExactInducedOnWrong : ChangeSpec := { name := "fnExactInducedOn", fn := fun _ => fun
  | [d1, d2] => { results := [.lit (.bool false)], args := [d1, d2] }
  | _ => none }
def FnExactInducedOnWrongFalsely : Prop := fnExactInducedOnRow.holds Try.pinned (OpenSpec.ofChange fnExactInducedOnWrong)

/-- 'laws.FnExactLexOrder': WHATEVER THE INPUT: true; the input reads as it did. -/
def fnExactLexOrderSpec : ChangeSpec := { name := "fnExactLexOrder", fn := fun _ => fun
  | [d1, d2] => { results := [.lit (.bool true)], args := [d1, d2] }
  | _ => none }
def fnExactLexOrderRow : OpenClaim := { program := "ytnlabnkgcncmlaa", sum := "8886fac3506168f165ab7c8bf4788cf7889db986a39b3161e71339e11fa4e6b3", func := "loop.example/g02081/laws.FnExactLexOrder", spec := "fnExactLexOrder", unfollowed := true, recurses := true, apart := false }
def FnExactLexOrderSaid : Prop := fnExactLexOrderRow.holds Try.pinned (OpenSpec.ofChange fnExactLexOrderSpec)

/-- ITS FALSE NEIGHBOUR: 'it returns false'. Refute it at one input. -/
def fnExactLexOrderWrong : ChangeSpec := { name := "fnExactLexOrder", fn := fun _ => fun
  | [d1, d2] => { results := [.lit (.bool false)], args := [d1, d2] }
  | _ => none }
def FnExactLexOrderWrongFalsely : Prop := fnExactLexOrderRow.holds Try.pinned (OpenSpec.ofChange fnExactLexOrderWrong)

/-- 'laws.FnExactEliminationOf': WHATEVER THE INPUT: true; the input reads as it did. -/
def fnExactEliminationOfSpec : ChangeSpec := { name := "fnExactEliminationOf", fn := fun _ => fun
  | [d] => { results := [.lit (.bool true)], args := [d] }
  | _ => none }
def fnExactEliminationOfRow : OpenClaim := { program := "ytnlabnkgcncmlaa", sum := "8886fac3506168f165ab7c8bf4788cf7889db986a39b3161e71339e11fa4e6b3", func := "loop.example/g02081/laws.FnExactEliminationOf", spec := "fnExactEliminationOf", unfollowed := true, recurses := true, apart := false }
def FnExactEliminationOfSaid : Prop := fnExactEliminationOfRow.holds Try.pinned (OpenSpec.ofChange fnExactEliminationOfSpec)

/-- ITS FALSE NEIGHBOUR: 'it returns false'. Refute it at one input. -/
def fnExactEliminationOfWrong : ChangeSpec := { name := "fnExactEliminationOf", fn := fun _ => fun
  | [d] => { results := [.lit (.bool false)], args := [d] }
  | _ => none }
def FnExactEliminationOfWrongFalsely : Prop := fnExactEliminationOfRow.holds Try.pinned (OpenSpec.ofChange fnExactEliminationOfWrong)

/-- 'laws.FnExactPartsOf': WHATEVER THE INPUT: true; the input reads as it did. -/
def fnExactPartsOfSpec : ChangeSpec := { name := "fnExactPartsOf", fn := fun _ => fun
  | [d1, d2] => { results := [.lit (.bool true)], args := [d1, d2] }
  | _ => none }
def fnExactPartsOfRow : OpenClaim := { program := "ytnlabnkgcncmlaa", sum := "8886fac3506168f165ab7c8bf4788cf7889db986a39b3161e71339e11fa4e6b3", func := "loop.example/g02081/laws.FnExactPartsOf", spec := "fnExactPartsOf", apart := false }
def FnExactPartsOfSaid : Prop := fnExactPartsOfRow.holds Try.pinned (OpenSpec.ofChange fnExactPartsOfSpec)

/-- ITS FALSE NEIGHBOUR: 'it returns false'. Refute it at one input. -/
def fnExactPartsOfWrong : ChangeSpec := { name := "fnExactPartsOf", fn := fun _ => fun
  | [d1, d2] => { results := [.lit (.bool false)], args := [d1, d2] }
  | _ => none }
def FnExactPartsOfWrongFalsely : Prop := fnExactPartsOfRow.holds Try.pinned (OpenSpec.ofChange fnExactPartsOfWrong)

/-- 'laws.FnExactCardinalityOrder': WHATEVER THE INPUT: true; the input reads as it did. -/
def fnExactCardinalityOrderSpec : ChangeSpec := { name := "fnExactCardinalityOrder", fn := fun _ => fun
  | [d1, d2] => { results := [.lit (.bool true)], args := [d1, d2] }
  | _ => none }
def fnExactCardinalityOrderRow : OpenClaim := { program := "ytnlabnkgcncmlaa", sum := "8886fac3506168f165ab7c8bf4788cf7889db986a39b3161e71339e11fa4e6b3", func := "loop.example/g02081/laws.FnExactCardinalityOrder", spec := "fnExactCardinalityOrder", unfollowed := true, recurses := true, apart := false }
def FnExactCardinalityOrderSaid : Prop := fnExactCardinalityOrderRow.holds Try.pinned (OpenSpec.ofChange fnExactCardinalityOrderSpec)

/-- ITS FALSE NEIGHBOUR: 'it returns false'. Refute it at one input. -/
def fnExactCardinalityOrderWrong : ChangeSpec := { name := "fnExactCardinalityOrder", fn := fun _ => fun
  | [d1, d2] => { results := [.lit (.bool false)], args := [d1, d2] }
  | _ => none }
def FnExactCardinalityOrderWrongFalsely : Prop := fnExactCardinalityOrderRow.holds Try.pinned (OpenSpec.ofChange fnExactCardinalityOrderWrong)

/-- 'laws.FnExactIsElimination': WHATEVER THE INPUT: true; the input reads as it did. -/
def fnExactIsEliminationSpec : ChangeSpec := { name := "fnExactIsElimination", fn := fun _ => fun
  | [d1, d2] => { results := [.lit (.bool true)], args := [d1, d2] }
  | _ => none }
def fnExactIsEliminationRow : OpenClaim := { program := "ytnlabnkgcncmlaa", sum := "8886fac3506168f165ab7c8bf4788cf7889db986a39b3161e71339e11fa4e6b3", func := "loop.example/g02081/laws.FnExactIsElimination", spec := "fnExactIsElimination", unfollowed := true, recurses := true, apart := false }
def FnExactIsEliminationSaid : Prop := fnExactIsEliminationRow.holds Try.pinned (OpenSpec.ofChange fnExactIsEliminationSpec)

/-- ITS FALSE NEIGHBOUR: 'it returns false'. Refute it at one input. -/
def fnExactIsEliminationWrong : ChangeSpec := { name := "fnExactIsElimination", fn := fun _ => fun
  | [d1, d2] => { results := [.lit (.bool false)], args := [d1, d2] }
  | _ => none }
def FnExactIsEliminationWrongFalsely : Prop := fnExactIsEliminationRow.holds Try.pinned (OpenSpec.ofChange fnExactIsEliminationWrong)

/-- 'laws.FnExactFillOf': WHATEVER THE INPUT: true; the input reads as it did. -/
def fnExactFillOfSpec : ChangeSpec := { name := "fnExactFillOf", fn := fun _ => fun
  | [d1, d2] => { results := [.lit (.bool true)], args := [d1, d2] }
  | _ => none }
def fnExactFillOfRow : OpenClaim := { program := "ytnlabnkgcncmlaa", sum := "8886fac3506168f165ab7c8bf4788cf7889db986a39b3161e71339e11fa4e6b3", func := "loop.example/g02081/laws.FnExactFillOf", spec := "fnExactFillOf", apart := false }
def FnExactFillOfSaid : Prop := fnExactFillOfRow.holds Try.pinned (OpenSpec.ofChange fnExactFillOfSpec)

/-- ITS FALSE NEIGHBOUR: 'it returns false'. Refute it at one input. -/
def fnExactFillOfWrong : ChangeSpec := { name := "fnExactFillOf", fn := fun _ => fun
  | [d1, d2] => { results := [.lit (.bool false)], args := [d1, d2] }
  | _ => none }
def FnExactFillOfWrongFalsely : Prop := fnExactFillOfRow.holds Try.pinned (OpenSpec.ofChange fnExactFillOfWrong)

/- THE SECOND FORM. 'bulk': how many values and letters a reading holds, each counted each time it is reached (what is shared counts as often as it is met; a slice's spare places count too). A statement '..UptoSaid' is the law's where the arguments, and the package variables that the reading takes, are together of bulk at most 1048576: NARROWER than '..Said'. Prove '..Said' where nothing that the law and all that it calls make is longer than what came in: it says more and counts as full. Else prove '..UptoSaid'. A law counts once. -/
mutual
def uptoBulk {H : Type} : DataW H → Nat
  | .lit (.string bytes) => bytes.length + 1
  | .lit _ => 1
  | .nil => 1
  | .ptr d => uptoBulk d + 1
  | .slice elems spare => uptoBulkAll elems + uptoBulkAll spare + 1
  | .agg parts => uptoBulkAll parts + 1
  | .iface _ d => uptoBulk d + 1
  | .map entries => uptoBulkEntries entries + 1
  | .held _ => 1
def uptoBulkAll {H : Type} : List (DataW H) → Nat
  | [] => 0
  | d :: r => uptoBulk d + uptoBulkAll r
def uptoBulkEntries {H : Type} : List (Lit × DataW H) → Nat
  | [] => 0
  | x :: r => uptoBulkEntry x + uptoBulkEntries r
def uptoBulkEntry {H : Type} : Lit × DataW H → Nat
  | (.string bytes, d) => bytes.length + uptoBulk d + 1
  | (_, d) => uptoBulk d + 1
 end
def uptoSmall : (H : Type) → List (DataW H) → Bool := fun _ ds => decide (uptoBulkAll ds ≤ 1048576)
def OpenSpec.upto (s : _root_.Go.ChangeSpec) : _root_.Go.OpenSpec := { _root_.Go.OpenSpec.ofChange s with cond := some uptoSmall }

/-- 'laws.FnExactSimplicialOf', WHERE WHAT IT READS IS OF BULK AT MOST 1048576: true; the input reads as it did. -/
def fnExactSimplicialOfUptoRow : OpenClaim := { program := "ytnlabnkgcncmlaa", sum := "8886fac3506168f165ab7c8bf4788cf7889db986a39b3161e71339e11fa4e6b3", func := "loop.example/g02081/laws.FnExactSimplicialOf", spec := "fnExactSimplicialOf", apart := false, narrowed := true }
def FnExactSimplicialOfUptoSaid : Prop := fnExactSimplicialOfUptoRow.holds Try.pinned (OpenSpec.upto fnExactSimplicialOfSpec)

/-- 'laws.FnExactIsLexOrder', WHERE WHAT IT READS IS OF BULK AT MOST 1048576: true; the input reads as it did. -/
def fnExactIsLexOrderUptoRow : OpenClaim := { program := "ytnlabnkgcncmlaa", sum := "8886fac3506168f165ab7c8bf4788cf7889db986a39b3161e71339e11fa4e6b3", func := "loop.example/g02081/laws.FnExactIsLexOrder", spec := "fnExactIsLexOrder", apart := false, narrowed := true }
def FnExactIsLexOrderUptoSaid : Prop := fnExactIsLexOrderUptoRow.holds Try.pinned (OpenSpec.upto fnExactIsLexOrderSpec)

/-- 'laws.FnExactIsConnected', WHERE WHAT IT READS IS OF BULK AT MOST 1048576: true; the input reads as it did. -/
def fnExactIsConnectedUptoRow : OpenClaim := { program := "ytnlabnkgcncmlaa", sum := "8886fac3506168f165ab7c8bf4788cf7889db986a39b3161e71339e11fa4e6b3", func := "loop.example/g02081/laws.FnExactIsConnected", spec := "fnExactIsConnected", apart := false, narrowed := true }
def FnExactIsConnectedUptoSaid : Prop := fnExactIsConnectedUptoRow.holds Try.pinned (OpenSpec.upto fnExactIsConnectedSpec)

/-- 'laws.FnExactBreadthOrder', WHERE WHAT IT READS IS OF BULK AT MOST 1048576: true; the input reads as it did. -/
def fnExactBreadthOrderUptoRow : OpenClaim := { program := "ytnlabnkgcncmlaa", sum := "8886fac3506168f165ab7c8bf4788cf7889db986a39b3161e71339e11fa4e6b3", func := "loop.example/g02081/laws.FnExactBreadthOrder", spec := "fnExactBreadthOrder", apart := false, narrowed := true }
def FnExactBreadthOrderUptoSaid : Prop := fnExactBreadthOrderUptoRow.holds Try.pinned (OpenSpec.upto fnExactBreadthOrderSpec)

/-- 'laws.FnExactIsChordal', WHERE WHAT IT READS IS OF BULK AT MOST 1048576: true; the input reads as it did. -/
def fnExactIsChordalUptoRow : OpenClaim := { program := "ytnlabnkgcncmlaa", sum := "8886fac3506168f165ab7c8bf4788cf7889db986a39b3161e71339e11fa4e6b3", func := "loop.example/g02081/laws.FnExactIsChordal", spec := "fnExactIsChordal", unfollowed := true, recurses := true, apart := false, narrowed := true }
def FnExactIsChordalUptoSaid : Prop := fnExactIsChordalUptoRow.holds Try.pinned (OpenSpec.upto fnExactIsChordalSpec)

/-- 'laws.FnExactInducedOn', WHERE WHAT IT READS IS OF BULK AT MOST 1048576: true; the input reads as it did. -/
def fnExactInducedOnUptoRow : OpenClaim := { program := "ytnlabnkgcncmlaa", sum := "8886fac3506168f165ab7c8bf4788cf7889db986a39b3161e71339e11fa4e6b3", func := "loop.example/g02081/laws.FnExactInducedOn", spec := "fnExactInducedOn", apart := false, narrowed := true }
def FnExactInducedOnUptoSaid : Prop := fnExactInducedOnUptoRow.holds Try.pinned (OpenSpec.upto fnExactInducedOnSpec)

/-- 'laws.FnExactLexOrder', WHERE WHAT IT READS IS OF BULK AT MOST 1048576: true; the input reads as it did. -/
def fnExactLexOrderUptoRow : OpenClaim := { program := "ytnlabnkgcncmlaa", sum := "8886fac3506168f165ab7c8bf4788cf7889db986a39b3161e71339e11fa4e6b3", func := "loop.example/g02081/laws.FnExactLexOrder", spec := "fnExactLexOrder", unfollowed := true, recurses := true, apart := false, narrowed := true }
def FnExactLexOrderUptoSaid : Prop := fnExactLexOrderUptoRow.holds Try.pinned (OpenSpec.upto fnExactLexOrderSpec)

/-- 'laws.FnExactEliminationOf', WHERE WHAT IT READS IS OF BULK AT MOST 1048576: true; the input reads as it did. -/
def fnExactEliminationOfUptoRow : OpenClaim := { program := "ytnlabnkgcncmlaa", sum := "8886fac3506168f165ab7c8bf4788cf7889db986a39b3161e71339e11fa4e6b3", func := "loop.example/g02081/laws.FnExactEliminationOf", spec := "fnExactEliminationOf", unfollowed := true, recurses := true, apart := false, narrowed := true }
def FnExactEliminationOfUptoSaid : Prop := fnExactEliminationOfUptoRow.holds Try.pinned (OpenSpec.upto fnExactEliminationOfSpec)

/-- 'laws.FnExactPartsOf', WHERE WHAT IT READS IS OF BULK AT MOST 1048576: true; the input reads as it did. -/
def fnExactPartsOfUptoRow : OpenClaim := { program := "ytnlabnkgcncmlaa", sum := "8886fac3506168f165ab7c8bf4788cf7889db986a39b3161e71339e11fa4e6b3", func := "loop.example/g02081/laws.FnExactPartsOf", spec := "fnExactPartsOf", apart := false, narrowed := true }
def FnExactPartsOfUptoSaid : Prop := fnExactPartsOfUptoRow.holds Try.pinned (OpenSpec.upto fnExactPartsOfSpec)

/-- 'laws.FnExactCardinalityOrder', WHERE WHAT IT READS IS OF BULK AT MOST 1048576: true; the input reads as it did. -/
def fnExactCardinalityOrderUptoRow : OpenClaim := { program := "ytnlabnkgcncmlaa", sum := "8886fac3506168f165ab7c8bf4788cf7889db986a39b3161e71339e11fa4e6b3", func := "loop.example/g02081/laws.FnExactCardinalityOrder", spec := "fnExactCardinalityOrder", unfollowed := true, recurses := true, apart := false, narrowed := true }
def FnExactCardinalityOrderUptoSaid : Prop := fnExactCardinalityOrderUptoRow.holds Try.pinned (OpenSpec.upto fnExactCardinalityOrderSpec)

/-- 'laws.FnExactIsElimination', WHERE WHAT IT READS IS OF BULK AT MOST 1048576: true; the input reads as it did. -/
def fnExactIsEliminationUptoRow : OpenClaim := { program := "ytnlabnkgcncmlaa", sum := "8886fac3506168f165ab7c8bf4788cf7889db986a39b3161e71339e11fa4e6b3", func := "loop.example/g02081/laws.FnExactIsElimination", spec := "fnExactIsElimination", unfollowed := true, recurses := true, apart := false, narrowed := true }
def FnExactIsEliminationUptoSaid : Prop := fnExactIsEliminationUptoRow.holds Try.pinned (OpenSpec.upto fnExactIsEliminationSpec)

/-- 'laws.FnExactFillOf', WHERE WHAT IT READS IS OF BULK AT MOST 1048576: true; the input reads as it did. -/
def fnExactFillOfUptoRow : OpenClaim := { program := "ytnlabnkgcncmlaa", sum := "8886fac3506168f165ab7c8bf4788cf7889db986a39b3161e71339e11fa4e6b3", func := "loop.example/g02081/laws.FnExactFillOf", spec := "fnExactFillOf", apart := false, narrowed := true }
def FnExactFillOfUptoSaid : Prop := fnExactFillOfUptoRow.holds Try.pinned (OpenSpec.upto fnExactFillOfSpec)

end Rows
end Go.Proofs.Ytnlabnkgcncmlaa
