/-
  DERIVED. GIVEN WITH THE SEED: THE CARDS: each row of YtgddopammpjkgaaDoorRows.lean that lists a variable, with what it lists TIED to the program's text (the seventh form; the later family's looks); each row that meets fmt, with fmt's text TOLD by the authors' own Lean function (tested against real Go, not proved from fmt's source: count such statements apart). THE CARD IS WHAT COUNTS. Prove the row's statement (the work); the ties are given (YtgddopammpjkgaaDoorTie.lean); close each card by the builder's one call (the guide's Derived/Test/ToyasCard.lean, 'card_holds'). Laid BY PROGRAM, IN A SANDBOX (cutbox-door.mjs). By AI agents, Wed Nov 11 2026. No macro, syntax, notation, axiom, sorry.
-/
import Derived.Test.YtgddopammpjkgaaDoorRows
import GoSem.ClaimSeven
namespace Go.Proofs.YtgddopammpjkgaaDoor
namespace Rows

/-- THE TIED CARD OF 'laws.FnIntegerEncodings'. -/
def fnIntegerEncodingsCard : Claim7 := { stood := { row := fnIntegerEncodingsRow, standIns := [], harness := (true, "af1bcac25da16c33f2be25bb68ad0534a4cdd1590e43209c06c414dc9556f667"), looks := true }, kinds := [], alts := [], laidByText := true, laidKinds := [.data, .data, .data, .sentinel, .sentinel], laidTests := true, laidLooks := .later }
def FnIntegerEncodingsCardSaid : Prop := Claim7.holds Tryd.pinned (.plain (OpenSpec.ofChange fnIntegerEncodingsSpec)) fnIntegerEncodingsCard

/-- THE TIED CARD OF 'laws.FnExactFormatInt'. -/
def fnExactFormatIntCard : Claim7 := { stood := { row := fnExactFormatIntRow, standIns := [], harness := (true, "af1bcac25da16c33f2be25bb68ad0534a4cdd1590e43209c06c414dc9556f667"), looks := true }, kinds := [], alts := [], laidByText := true, laidKinds := [.data, .data, .data], laidTests := true, laidLooks := .later }
def FnExactFormatIntCardSaid : Prop := Claim7.holds Tryd.pinned (.plain (OpenSpec.ofChange fnExactFormatIntSpec)) fnExactFormatIntCard

/-- THE TIED CARD OF 'laws.FnExactFormatSet'. -/
def fnExactFormatSetCard : Claim7 := { stood := { row := fnExactFormatSetRow, standIns := [], harness := (true, "af1bcac25da16c33f2be25bb68ad0534a4cdd1590e43209c06c414dc9556f667"), looks := true }, kinds := [], alts := [], laidByText := true, laidKinds := [.data, .data, .data], laidTests := true, laidLooks := .later }
def FnExactFormatSetCardSaid : Prop := Claim7.holds Tryd.pinned (.plain (OpenSpec.ofChange fnExactFormatSetSpec)) fnExactFormatSetCard

/-- THE TIED CARD OF 'laws.FnExactFormatGraph'. -/
def fnExactFormatGraphCard : Claim7 := { stood := { row := fnExactFormatGraphRow, standIns := [], harness := (true, "af1bcac25da16c33f2be25bb68ad0534a4cdd1590e43209c06c414dc9556f667"), looks := true }, kinds := [], alts := [], laidByText := true, laidKinds := [.data, .data, .data], laidTests := true, laidLooks := .later }
def FnExactFormatGraphCardSaid : Prop := Claim7.holds Tryd.pinned (.plain (OpenSpec.ofChange fnExactFormatGraphSpec)) fnExactFormatGraphCard

/-- THE TIED CARD OF 'laws.FnExactParseInt'. -/
def fnExactParseIntCard : Claim7 := { stood := { row := fnExactParseIntRow, standIns := [], harness := (true, "af1bcac25da16c33f2be25bb68ad0534a4cdd1590e43209c06c414dc9556f667"), looks := true }, kinds := [], alts := [], laidByText := true, laidKinds := [.data, .data, .data, .sentinel, .sentinel], laidTests := true, laidLooks := .later }
def FnExactParseIntCardSaid : Prop := Claim7.holds Tryd.pinned (.plain (OpenSpec.ofChange fnExactParseIntSpec)) fnExactParseIntCard

/-- THE TIED CARD OF 'laws.FnExactParseGraph'. -/
def fnExactParseGraphCard : Claim7 := { stood := { row := fnExactParseGraphRow, standIns := [], harness := (true, "af1bcac25da16c33f2be25bb68ad0534a4cdd1590e43209c06c414dc9556f667"), looks := true }, kinds := [], alts := [], laidByText := true, laidKinds := [.data, .data, .data], laidTests := true, laidLooks := .later }
def FnExactParseGraphCardSaid : Prop := Claim7.holds Tryd.pinned (.plain (OpenSpec.ofChange fnExactParseGraphSpec)) fnExactParseGraphCard

/-- THE SECOND FORM's CARD OF 'laws.FnIntegerEncodings'. -/
def fnIntegerEncodingsUptoCard : Claim7 := { stood := { row := fnIntegerEncodingsUptoRow, standIns := [], harness := (true, "af1bcac25da16c33f2be25bb68ad0534a4cdd1590e43209c06c414dc9556f667"), looks := true }, kinds := [], alts := [], laidByText := true, laidKinds := [.data, .data, .data, .sentinel, .sentinel], laidTests := true, laidLooks := .later }
def FnIntegerEncodingsUptoCardSaid : Prop := Claim7.holds Tryd.pinned (.plain (OpenSpec.upto fnIntegerEncodingsSpec)) fnIntegerEncodingsUptoCard

/-- THE SECOND FORM's CARD OF 'laws.FnExactFormatInt'. -/
def fnExactFormatIntUptoCard : Claim7 := { stood := { row := fnExactFormatIntUptoRow, standIns := [], harness := (true, "af1bcac25da16c33f2be25bb68ad0534a4cdd1590e43209c06c414dc9556f667"), looks := true }, kinds := [], alts := [], laidByText := true, laidKinds := [.data, .data, .data], laidTests := true, laidLooks := .later }
def FnExactFormatIntUptoCardSaid : Prop := Claim7.holds Tryd.pinned (.plain (OpenSpec.upto fnExactFormatIntSpec)) fnExactFormatIntUptoCard

/-- THE SECOND FORM's CARD OF 'laws.FnExactFormatSet'. -/
def fnExactFormatSetUptoCard : Claim7 := { stood := { row := fnExactFormatSetUptoRow, standIns := [], harness := (true, "af1bcac25da16c33f2be25bb68ad0534a4cdd1590e43209c06c414dc9556f667"), looks := true }, kinds := [], alts := [], laidByText := true, laidKinds := [.data, .data, .data], laidTests := true, laidLooks := .later }
def FnExactFormatSetUptoCardSaid : Prop := Claim7.holds Tryd.pinned (.plain (OpenSpec.upto fnExactFormatSetSpec)) fnExactFormatSetUptoCard

/-- THE SECOND FORM's CARD OF 'laws.FnExactFormatGraph'. -/
def fnExactFormatGraphUptoCard : Claim7 := { stood := { row := fnExactFormatGraphUptoRow, standIns := [], harness := (true, "af1bcac25da16c33f2be25bb68ad0534a4cdd1590e43209c06c414dc9556f667"), looks := true }, kinds := [], alts := [], laidByText := true, laidKinds := [.data, .data, .data], laidTests := true, laidLooks := .later }
def FnExactFormatGraphUptoCardSaid : Prop := Claim7.holds Tryd.pinned (.plain (OpenSpec.upto fnExactFormatGraphSpec)) fnExactFormatGraphUptoCard

/-- THE SECOND FORM's CARD OF 'laws.FnExactParseInt'. -/
def fnExactParseIntUptoCard : Claim7 := { stood := { row := fnExactParseIntUptoRow, standIns := [], harness := (true, "af1bcac25da16c33f2be25bb68ad0534a4cdd1590e43209c06c414dc9556f667"), looks := true }, kinds := [], alts := [], laidByText := true, laidKinds := [.data, .data, .data, .sentinel, .sentinel], laidTests := true, laidLooks := .later }
def FnExactParseIntUptoCardSaid : Prop := Claim7.holds Tryd.pinned (.plain (OpenSpec.upto fnExactParseIntSpec)) fnExactParseIntUptoCard

/-- THE SECOND FORM's CARD OF 'laws.FnExactParseGraph'. -/
def fnExactParseGraphUptoCard : Claim7 := { stood := { row := fnExactParseGraphUptoRow, standIns := [], harness := (true, "af1bcac25da16c33f2be25bb68ad0534a4cdd1590e43209c06c414dc9556f667"), looks := true }, kinds := [], alts := [], laidByText := true, laidKinds := [.data, .data, .data], laidTests := true, laidLooks := .later }
def FnExactParseGraphUptoCardSaid : Prop := Claim7.holds Tryd.pinned (.plain (OpenSpec.upto fnExactParseGraphSpec)) fnExactParseGraphUptoCard
end Rows
end Go.Proofs.YtgddopammpjkgaaDoor
