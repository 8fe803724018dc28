/-
  DERIVED. GIVEN WITH THE SEED: THE CARDS: each row of YtgmclgajlofljaaGreatDoorRows.lean that lists a variable, with what it lists TIED to the program's text (the seventh form; the later family's looks); each row that meets fmt, with fmt's text TOLD by the authors' own Lean function (tested against real Go, not proved from fmt's source: count such statements apart). THE CARD IS WHAT COUNTS. Prove the row's statement (the work); the ties are given (YtgmclgajlofljaaGreatDoorTie.lean); close each card by the builder's one call (the guide's Derived/Test/ToyasCard.lean, 'card_holds'). Laid BY PROGRAM, IN A SANDBOX (cutbox-door.mjs). By AI agents, Wed Nov 11 2026. No macro, syntax, notation, axiom, sorry.
-/
import Derived.Test.YtgmclgajlofljaaGreatDoorRows
import GoSem.ClaimSeven
namespace Go.Proofs.YtgmclgajlofljaaGreatDoor
namespace Rows

/-- THE TIED CARD OF 'netlablaw08.ExprParses'. -/
def exprParsesCard : Claim7 := { stood := { row := exprParsesRow, standIns := [], harness := (true, "f9b853340358de8e1aa1a4d739400de1e1e2b6a25126a6f53c43d3ceb085517d"), looks := false }, kinds := [], alts := [], laidByText := true, laidKinds := [.data, .data, .data], laidTests := true, laidLooks := .later }
def ExprParsesCardSaid : Prop := Claim7.holds Tryz.pinned (.plain (OpenSpec.ofChange exprParsesSpec)) exprParsesCard

/-- THE TIED CARD OF 'netlablaw08.ExprFormats'. -/
def exprFormatsCard : Claim7 := { stood := { row := exprFormatsRow, standIns := [], harness := (true, "f9b853340358de8e1aa1a4d739400de1e1e2b6a25126a6f53c43d3ceb085517d"), looks := false }, kinds := [], alts := [], laidByText := true, laidKinds := [.data, .data, .data], laidTests := true, laidLooks := .later }
def ExprFormatsCardSaid : Prop := Claim7.holds Tryz.pinned (.plain (OpenSpec.ofChange exprFormatsSpec)) exprFormatsCard

/-- THE TIED CARD OF 'netlablaw08.ExprPrecedence'. -/
def exprPrecedenceCard : Claim7 := { stood := { row := exprPrecedenceRow, standIns := [], harness := (true, "f9b853340358de8e1aa1a4d739400de1e1e2b6a25126a6f53c43d3ceb085517d"), looks := false }, kinds := [], alts := [], laidByText := true, laidKinds := [.data, .data, .data], laidTests := true, laidLooks := .later }
def ExprPrecedenceCardSaid : Prop := Claim7.holds Tryz.pinned (.plain (OpenSpec.ofChange exprPrecedenceSpec)) exprPrecedenceCard

/-- THE TIED CARD OF 'netlablaw08.ExprPrefix'. -/
def exprPrefixCard : Claim7 := { stood := { row := exprPrefixRow, standIns := [], harness := (true, "f9b853340358de8e1aa1a4d739400de1e1e2b6a25126a6f53c43d3ceb085517d"), looks := false }, kinds := [], alts := [], laidByText := true, laidKinds := [.data, .data, .data], laidTests := true, laidLooks := .later }
def ExprPrefixCardSaid : Prop := Claim7.holds Tryz.pinned (.plain (OpenSpec.ofChange exprPrefixSpec)) exprPrefixCard

/-- THE TIED CARD OF 'netlablaw08.ExprRoundTrip'. -/
def exprRoundTripCard : Claim7 := { stood := { row := exprRoundTripRow, standIns := [], harness := (true, "f9b853340358de8e1aa1a4d739400de1e1e2b6a25126a6f53c43d3ceb085517d"), looks := false }, kinds := [], alts := [], laidByText := true, laidKinds := [.data, .data, .data], laidTests := true, laidLooks := .later }
def ExprRoundTripCardSaid : Prop := Claim7.holds Tryz.pinned (.plain (OpenSpec.ofChange exprRoundTripSpec)) exprRoundTripCard

/-- THE TIED CARD OF 'netlablaw08.ExprParentheses'. -/
def exprParenthesesCard : Claim7 := { stood := { row := exprParenthesesRow, standIns := [], harness := (true, "f9b853340358de8e1aa1a4d739400de1e1e2b6a25126a6f53c43d3ceb085517d"), looks := false }, kinds := [], alts := [], laidByText := true, laidKinds := [.data, .data, .data], laidTests := true, laidLooks := .later }
def ExprParenthesesCardSaid : Prop := Claim7.holds Tryz.pinned (.plain (OpenSpec.ofChange exprParenthesesSpec)) exprParenthesesCard

/-- THE TIED CARD OF 'netlablaw08.ExprQueriesMatch'. -/
def exprQueriesMatchCard : Claim7 := { stood := { row := exprQueriesMatchRow, standIns := [], harness := (true, "f9b853340358de8e1aa1a4d739400de1e1e2b6a25126a6f53c43d3ceb085517d"), looks := false }, kinds := [], alts := [], laidByText := true, laidKinds := [.data, .data, .data], laidTests := true, laidLooks := .later }
def ExprQueriesMatchCardSaid : Prop := Claim7.holds Tryz.pinned (.plain (OpenSpec.ofChange exprQueriesMatchSpec)) exprQueriesMatchCard

/-- THE TIED CARD OF 'netlablaw08.ExprExamples'. -/
def exprExamplesCard : Claim7 := { stood := { row := exprExamplesRow, standIns := [], harness := (true, "f9b853340358de8e1aa1a4d739400de1e1e2b6a25126a6f53c43d3ceb085517d"), looks := false }, kinds := [], alts := [], laidByText := true, laidKinds := [.data, .data, .data], laidTests := true, laidLooks := .later }
def ExprExamplesCardSaid : Prop := Claim7.holds Tryz.pinned (.plain (OpenSpec.ofChange exprExamplesSpec)) exprExamplesCard

/-- THE SECOND FORM's CARD OF 'netlablaw08.ExprParses'. -/
def exprParsesUptoCard : Claim7 := { stood := { row := exprParsesUptoRow, standIns := [], harness := (true, "f9b853340358de8e1aa1a4d739400de1e1e2b6a25126a6f53c43d3ceb085517d"), looks := false }, kinds := [], alts := [], laidByText := true, laidKinds := [.data, .data, .data], laidTests := true, laidLooks := .later }
def ExprParsesUptoCardSaid : Prop := Claim7.holds Tryz.pinned (.plain (OpenSpec.upto exprParsesSpec)) exprParsesUptoCard

/-- THE SECOND FORM's CARD OF 'netlablaw08.ExprFormats'. -/
def exprFormatsUptoCard : Claim7 := { stood := { row := exprFormatsUptoRow, standIns := [], harness := (true, "f9b853340358de8e1aa1a4d739400de1e1e2b6a25126a6f53c43d3ceb085517d"), looks := false }, kinds := [], alts := [], laidByText := true, laidKinds := [.data, .data, .data], laidTests := true, laidLooks := .later }
def ExprFormatsUptoCardSaid : Prop := Claim7.holds Tryz.pinned (.plain (OpenSpec.upto exprFormatsSpec)) exprFormatsUptoCard

/-- THE SECOND FORM's CARD OF 'netlablaw08.ExprPrecedence'. -/
def exprPrecedenceUptoCard : Claim7 := { stood := { row := exprPrecedenceUptoRow, standIns := [], harness := (true, "f9b853340358de8e1aa1a4d739400de1e1e2b6a25126a6f53c43d3ceb085517d"), looks := false }, kinds := [], alts := [], laidByText := true, laidKinds := [.data, .data, .data], laidTests := true, laidLooks := .later }
def ExprPrecedenceUptoCardSaid : Prop := Claim7.holds Tryz.pinned (.plain (OpenSpec.upto exprPrecedenceSpec)) exprPrecedenceUptoCard

/-- THE SECOND FORM's CARD OF 'netlablaw08.ExprPrefix'. -/
def exprPrefixUptoCard : Claim7 := { stood := { row := exprPrefixUptoRow, standIns := [], harness := (true, "f9b853340358de8e1aa1a4d739400de1e1e2b6a25126a6f53c43d3ceb085517d"), looks := false }, kinds := [], alts := [], laidByText := true, laidKinds := [.data, .data, .data], laidTests := true, laidLooks := .later }
def ExprPrefixUptoCardSaid : Prop := Claim7.holds Tryz.pinned (.plain (OpenSpec.upto exprPrefixSpec)) exprPrefixUptoCard

/-- THE SECOND FORM's CARD OF 'netlablaw08.ExprRoundTrip'. -/
def exprRoundTripUptoCard : Claim7 := { stood := { row := exprRoundTripUptoRow, standIns := [], harness := (true, "f9b853340358de8e1aa1a4d739400de1e1e2b6a25126a6f53c43d3ceb085517d"), looks := false }, kinds := [], alts := [], laidByText := true, laidKinds := [.data, .data, .data], laidTests := true, laidLooks := .later }
def ExprRoundTripUptoCardSaid : Prop := Claim7.holds Tryz.pinned (.plain (OpenSpec.upto exprRoundTripSpec)) exprRoundTripUptoCard

/-- THE SECOND FORM's CARD OF 'netlablaw08.ExprParentheses'. -/
def exprParenthesesUptoCard : Claim7 := { stood := { row := exprParenthesesUptoRow, standIns := [], harness := (true, "f9b853340358de8e1aa1a4d739400de1e1e2b6a25126a6f53c43d3ceb085517d"), looks := false }, kinds := [], alts := [], laidByText := true, laidKinds := [.data, .data, .data], laidTests := true, laidLooks := .later }
def ExprParenthesesUptoCardSaid : Prop := Claim7.holds Tryz.pinned (.plain (OpenSpec.upto exprParenthesesSpec)) exprParenthesesUptoCard

/-- THE SECOND FORM's CARD OF 'netlablaw08.ExprQueriesMatch'. -/
def exprQueriesMatchUptoCard : Claim7 := { stood := { row := exprQueriesMatchUptoRow, standIns := [], harness := (true, "f9b853340358de8e1aa1a4d739400de1e1e2b6a25126a6f53c43d3ceb085517d"), looks := false }, kinds := [], alts := [], laidByText := true, laidKinds := [.data, .data, .data], laidTests := true, laidLooks := .later }
def ExprQueriesMatchUptoCardSaid : Prop := Claim7.holds Tryz.pinned (.plain (OpenSpec.upto exprQueriesMatchSpec)) exprQueriesMatchUptoCard

/-- THE SECOND FORM's CARD OF 'netlablaw08.ExprExamples'. -/
def exprExamplesUptoCard : Claim7 := { stood := { row := exprExamplesUptoRow, standIns := [], harness := (true, "f9b853340358de8e1aa1a4d739400de1e1e2b6a25126a6f53c43d3ceb085517d"), looks := false }, kinds := [], alts := [], laidByText := true, laidKinds := [.data, .data, .data], laidTests := true, laidLooks := .later }
def ExprExamplesUptoCardSaid : Prop := Claim7.holds Tryz.pinned (.plain (OpenSpec.upto exprExamplesSpec)) exprExamplesUptoCard
end Rows
end Go.Proofs.YtgmclgajlofljaaGreatDoor
