/-
  No cell of these rows narrows 'for every input' (looked for: loops, veiled, ifaces, maps, wideKeys, modest, calm, conditions, laid).
  DERIVED. THE GIVEN ROWS OF THIS SEAT. 6 by the template 'for every input the law returns true; each argument reads behind the call as it read before'; 0 by the template 'total and deterministic' (their statements: YtilfniehellmmaaTotals.lean).
  GIVEN WITH THE SEED: the statements are not yours to turn. If you find one false, say at which input.
  Laid BY PROGRAM, IN A SANDBOX (cutbox-rows.mjs): the forced cells as the released guide's own fill.sh prints them over the translation 731c60d155d631e0… (all of the seat's roots in one cut). By AI agents, Wed Nov 11 2026. No macro, syntax, notation, axiom, sorry.
-/
import Derived.Test.YtilfniehellmmaaChecked
import GoSem.Claim
import GoSem.ClaimJoined
import GoSem.ClaimMapViews
import Derived.JoinedTies
import Derived.KernelRfl
namespace Go.Proofs.Ytilfniehellmmaa
/- THE CELL 'sum', in the pinned program and in every row, IS THE sha256 OF THE DUMP (.gsa) THAT YtilfniehellmmaaProg.lean LOADS. Nothing in Lean hashes anything: it is a label: what it is worth is what the hold of that sum in a sandbox is worth. -/
noncomputable def Try.pinned : Pinned := { name := "ytilfniehellmmaa", sum := "731c60d155d631e0d1470cd95ee1436df90418132ac05098e9522bb9c3624f72", checked := Try.checked }
namespace Rows
def none {H : Type} : Left H := { results := [], args := [] }

/-- 'laws.FnExactFindClaw': WHATEVER THE INPUT: true; the input reads as it did. -/
def fnExactFindClawSpec : ChangeSpec := { name := "fnExactFindClaw", fn := fun _ => fun
  | [d] => { results := [.lit (.bool true)], args := [d] }
  | _ => none }
def fnExactFindClawRow : OpenClaim := { program := "ytilfniehellmmaa", sum := "731c60d155d631e0d1470cd95ee1436df90418132ac05098e9522bb9c3624f72", func := "loop.example/g02081/laws.FnExactFindClaw", spec := "fnExactFindClaw", unfollowed := true, recurses := true, apart := false }
def FnExactFindClawSaid : Prop := fnExactFindClawRow.holds Try.pinned (OpenSpec.ofChange fnExactFindClawSpec)

/-- ITS FALSE NEIGHBOUR: 'it returns false'. Refute it at one input. -/
def fnExactFindClawWrong : ChangeSpec := { name := "fnExactFindClaw", fn := fun _ => fun
  | [d] => { results := [.lit (.bool false)], args := [d] }
  | _ => none }
def FnExactFindClawWrongFalsely : Prop := fnExactFindClawRow.holds Try.pinned (OpenSpec.ofChange fnExactFindClawWrong)

/-- 'laws.FnExactFindTwoEdges': WHATEVER THE INPUT: true; the input reads as it did. -/
def fnExactFindTwoEdgesSpec : ChangeSpec := { name := "fnExactFindTwoEdges", fn := fun _ => fun
  | [d] => { results := [.lit (.bool true)], args := [d] }
  | _ => none }
def fnExactFindTwoEdgesRow : OpenClaim := { program := "ytilfniehellmmaa", sum := "731c60d155d631e0d1470cd95ee1436df90418132ac05098e9522bb9c3624f72", func := "loop.example/g02081/laws.FnExactFindTwoEdges", spec := "fnExactFindTwoEdges", unfollowed := true, recurses := true, apart := false }
def FnExactFindTwoEdgesSaid : Prop := fnExactFindTwoEdgesRow.holds Try.pinned (OpenSpec.ofChange fnExactFindTwoEdgesSpec)

/-- ITS FALSE NEIGHBOUR: 'it returns false'. Refute it at one input. -/
def fnExactFindTwoEdgesWrong : ChangeSpec := { name := "fnExactFindTwoEdges", fn := fun _ => fun
  | [d] => { results := [.lit (.bool false)], args := [d] }
  | _ => none }
def FnExactFindTwoEdgesWrongFalsely : Prop := fnExactFindTwoEdgesRow.holds Try.pinned (OpenSpec.ofChange fnExactFindTwoEdgesWrong)

/-- 'laws.FnExactFindInducedPath': WHATEVER THE INPUT: true; the input reads as it did. -/
def fnExactFindInducedPathSpec : ChangeSpec := { name := "fnExactFindInducedPath", fn := fun _ => fun
  | [d1, d2] => { results := [.lit (.bool true)], args := [d1, d2] }
  | _ => none }
def fnExactFindInducedPathRow : OpenClaim := { program := "ytilfniehellmmaa", sum := "731c60d155d631e0d1470cd95ee1436df90418132ac05098e9522bb9c3624f72", func := "loop.example/g02081/laws.FnExactFindInducedPath", spec := "fnExactFindInducedPath", unfollowed := true, recurses := true, apart := false }
def FnExactFindInducedPathSaid : Prop := fnExactFindInducedPathRow.holds Try.pinned (OpenSpec.ofChange fnExactFindInducedPathSpec)

/-- ITS FALSE NEIGHBOUR: 'it returns false'. Refute it at one input. -/
def fnExactFindInducedPathWrong : ChangeSpec := { name := "fnExactFindInducedPath", fn := fun _ => fun
  | [d1, d2] => { results := [.lit (.bool false)], args := [d1, d2] }
  | _ => none }
def FnExactFindInducedPathWrongFalsely : Prop := fnExactFindInducedPathRow.holds Try.pinned (OpenSpec.ofChange fnExactFindInducedPathWrong)

/-- 'laws.FnExactFindHole': WHATEVER THE INPUT: true; the input reads as it did. -/
def fnExactFindHoleSpec : ChangeSpec := { name := "fnExactFindHole", fn := fun _ => fun
  | [d] => { results := [.lit (.bool true)], args := [d] }
  | _ => none }
def fnExactFindHoleRow : OpenClaim := { program := "ytilfniehellmmaa", sum := "731c60d155d631e0d1470cd95ee1436df90418132ac05098e9522bb9c3624f72", func := "loop.example/g02081/laws.FnExactFindHole", spec := "fnExactFindHole", unfollowed := true, recurses := true, apart := false }
def FnExactFindHoleSaid : Prop := fnExactFindHoleRow.holds Try.pinned (OpenSpec.ofChange fnExactFindHoleSpec)

/-- ITS FALSE NEIGHBOUR: 'it returns false'. Refute it at one input. -/
def fnExactFindHoleWrong : ChangeSpec := { name := "fnExactFindHole", fn := fun _ => fun
  | [d] => { results := [.lit (.bool false)], args := [d] }
  | _ => none }
def FnExactFindHoleWrongFalsely : Prop := fnExactFindHoleRow.holds Try.pinned (OpenSpec.ofChange fnExactFindHoleWrong)

/-- 'laws.FnParts': WHATEVER THE INPUT: true; the input reads as it did. -/
def fnPartsSpec : ChangeSpec := { name := "fnParts", fn := fun _ => fun
  | [d] => { results := [.lit (.bool true)], args := [d] }
  | _ => none }
def fnPartsRow : OpenClaim := { program := "ytilfniehellmmaa", sum := "731c60d155d631e0d1470cd95ee1436df90418132ac05098e9522bb9c3624f72", func := "loop.example/g02081/laws.FnParts", spec := "fnParts", unfollowed := true, recurses := true, apart := false }
def FnPartsSaid : Prop := fnPartsRow.holds Try.pinned (OpenSpec.ofChange fnPartsSpec)

/-- ITS FALSE NEIGHBOUR: 'it returns false'. Refute it at one input. -/
def fnPartsWrong : ChangeSpec := { name := "fnParts", fn := fun _ => fun
  | [d] => { results := [.lit (.bool false)], args := [d] }
  | _ => none }
def FnPartsWrongFalsely : Prop := fnPartsRow.holds Try.pinned (OpenSpec.ofChange fnPartsWrong)

/-- 'laws.FnOrders': WHATEVER THE INPUT: true; the input reads as it did. -/
def fnOrdersSpec : ChangeSpec := { name := "fnOrders", fn := fun _ => fun
  | [d] => { results := [.lit (.bool true)], args := [d] }
  | _ => none }
def fnOrdersRow : OpenClaim := { program := "ytilfniehellmmaa", sum := "731c60d155d631e0d1470cd95ee1436df90418132ac05098e9522bb9c3624f72", func := "loop.example/g02081/laws.FnOrders", spec := "fnOrders", unfollowed := true, recurses := true, apart := false }
def FnOrdersSaid : Prop := fnOrdersRow.holds Try.pinned (OpenSpec.ofChange fnOrdersSpec)

/-- ITS FALSE NEIGHBOUR: 'it returns false'. Refute it at one input. -/
def fnOrdersWrong : ChangeSpec := { name := "fnOrders", fn := fun _ => fun
  | [d] => { results := [.lit (.bool false)], args := [d] }
  | _ => none }
def FnOrdersWrongFalsely : Prop := fnOrdersRow.holds Try.pinned (OpenSpec.ofChange fnOrdersWrong)

/- THE SECOND FORM. 'bulk': how many values and letters a reading holds, each counted each time it is reached (what is shared counts as often as it is met; a slice's spare places count too). A statement '..UptoSaid' is the law's where the arguments, and the package variables that the reading takes, are together of bulk at most 1048576: NARROWER than '..Said'. Prove '..Said' where nothing that the law and all that it calls make is longer than what came in: it says more and counts as full. Else prove '..UptoSaid'. A law counts once. -/
mutual
def uptoBulk {H : Type} : DataW H → Nat
  | .lit (.string bytes) => bytes.length + 1
  | .lit _ => 1
  | .nil => 1
  | .ptr d => uptoBulk d + 1
  | .slice elems spare => uptoBulkAll elems + uptoBulkAll spare + 1
  | .agg parts => uptoBulkAll parts + 1
  | .iface _ d => uptoBulk d + 1
  | .map entries => uptoBulkEntries entries + 1
  | .held _ => 1
def uptoBulkAll {H : Type} : List (DataW H) → Nat
  | [] => 0
  | d :: r => uptoBulk d + uptoBulkAll r
def uptoBulkEntries {H : Type} : List (Lit × DataW H) → Nat
  | [] => 0
  | x :: r => uptoBulkEntry x + uptoBulkEntries r
def uptoBulkEntry {H : Type} : Lit × DataW H → Nat
  | (.string bytes, d) => bytes.length + uptoBulk d + 1
  | (_, d) => uptoBulk d + 1
 end
def uptoSmall : (H : Type) → List (DataW H) → Bool := fun _ ds => decide (uptoBulkAll ds ≤ 1048576)
def OpenSpec.upto (s : _root_.Go.ChangeSpec) : _root_.Go.OpenSpec := { _root_.Go.OpenSpec.ofChange s with cond := some uptoSmall }

/-- 'laws.FnExactFindClaw', WHERE WHAT IT READS IS OF BULK AT MOST 1048576: true; the input reads as it did. -/
def fnExactFindClawUptoRow : OpenClaim := { program := "ytilfniehellmmaa", sum := "731c60d155d631e0d1470cd95ee1436df90418132ac05098e9522bb9c3624f72", func := "loop.example/g02081/laws.FnExactFindClaw", spec := "fnExactFindClaw", unfollowed := true, recurses := true, apart := false, narrowed := true }
def FnExactFindClawUptoSaid : Prop := fnExactFindClawUptoRow.holds Try.pinned (OpenSpec.upto fnExactFindClawSpec)

/-- 'laws.FnExactFindTwoEdges', WHERE WHAT IT READS IS OF BULK AT MOST 1048576: true; the input reads as it did. -/
def fnExactFindTwoEdgesUptoRow : OpenClaim := { program := "ytilfniehellmmaa", sum := "731c60d155d631e0d1470cd95ee1436df90418132ac05098e9522bb9c3624f72", func := "loop.example/g02081/laws.FnExactFindTwoEdges", spec := "fnExactFindTwoEdges", unfollowed := true, recurses := true, apart := false, narrowed := true }
def FnExactFindTwoEdgesUptoSaid : Prop := fnExactFindTwoEdgesUptoRow.holds Try.pinned (OpenSpec.upto fnExactFindTwoEdgesSpec)

/-- 'laws.FnExactFindInducedPath', WHERE WHAT IT READS IS OF BULK AT MOST 1048576: true; the input reads as it did. -/
def fnExactFindInducedPathUptoRow : OpenClaim := { program := "ytilfniehellmmaa", sum := "731c60d155d631e0d1470cd95ee1436df90418132ac05098e9522bb9c3624f72", func := "loop.example/g02081/laws.FnExactFindInducedPath", spec := "fnExactFindInducedPath", unfollowed := true, recurses := true, apart := false, narrowed := true }
def FnExactFindInducedPathUptoSaid : Prop := fnExactFindInducedPathUptoRow.holds Try.pinned (OpenSpec.upto fnExactFindInducedPathSpec)

/-- 'laws.FnExactFindHole', WHERE WHAT IT READS IS OF BULK AT MOST 1048576: true; the input reads as it did. -/
def fnExactFindHoleUptoRow : OpenClaim := { program := "ytilfniehellmmaa", sum := "731c60d155d631e0d1470cd95ee1436df90418132ac05098e9522bb9c3624f72", func := "loop.example/g02081/laws.FnExactFindHole", spec := "fnExactFindHole", unfollowed := true, recurses := true, apart := false, narrowed := true }
def FnExactFindHoleUptoSaid : Prop := fnExactFindHoleUptoRow.holds Try.pinned (OpenSpec.upto fnExactFindHoleSpec)

/-- 'laws.FnParts', WHERE WHAT IT READS IS OF BULK AT MOST 1048576: true; the input reads as it did. -/
def fnPartsUptoRow : OpenClaim := { program := "ytilfniehellmmaa", sum := "731c60d155d631e0d1470cd95ee1436df90418132ac05098e9522bb9c3624f72", func := "loop.example/g02081/laws.FnParts", spec := "fnParts", unfollowed := true, recurses := true, apart := false, narrowed := true }
def FnPartsUptoSaid : Prop := fnPartsUptoRow.holds Try.pinned (OpenSpec.upto fnPartsSpec)

/-- 'laws.FnOrders', WHERE WHAT IT READS IS OF BULK AT MOST 1048576: true; the input reads as it did. -/
def fnOrdersUptoRow : OpenClaim := { program := "ytilfniehellmmaa", sum := "731c60d155d631e0d1470cd95ee1436df90418132ac05098e9522bb9c3624f72", func := "loop.example/g02081/laws.FnOrders", spec := "fnOrders", unfollowed := true, recurses := true, apart := false, narrowed := true }
def FnOrdersUptoSaid : Prop := fnOrdersUptoRow.holds Try.pinned (OpenSpec.upto fnOrdersSpec)

end Rows
end Go.Proofs.Ytilfniehellmmaa
