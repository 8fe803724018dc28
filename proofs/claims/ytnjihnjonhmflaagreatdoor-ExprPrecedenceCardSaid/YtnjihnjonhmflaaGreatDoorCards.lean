/-
  DERIVED. GIVEN WITH THE SEED: THE CARDS: each row of YtnjihnjonhmflaaGreatDoorRows.lean that lists a variable, with what it lists TIED to the program's text (the seventh form; the later family's looks); each row that meets fmt, with fmt's text TOLD by the authors' own Lean function (tested against real Go, not proved from fmt's source: count such statements apart). THE CARD IS WHAT COUNTS. Prove the row's statement (the work); the ties are given (YtnjihnjonhmflaaGreatDoorTie.lean); close each card by the builder's one call (the guide's Derived/Test/ToyasCard.lean, 'card_holds'). Laid BY PROGRAM, IN A SANDBOX (cutbox-door.mjs). By AI agents, Wed Nov 11 2026. No macro, syntax, notation, axiom, sorry.
-/
import Derived.Test.YtnjihnjonhmflaaGreatDoorRows
import GoSem.ClaimSeven
namespace Go.Proofs.YtnjihnjonhmflaaGreatDoor
namespace Rows

/-- THE TIED CARD OF 'netlablaw08.ExprPrecedence'. -/
def exprPrecedenceCard : Claim7 := { stood := { row := exprPrecedenceRow, standIns := [], harness := (true, "b399b0eb16add630c85f34b38e91e6d3618e933f6e904959f4fb53729c6c4076"), looks := false }, kinds := [], alts := [], laidByText := true, laidKinds := [.data, .data, .data], laidTests := true, laidLooks := .later }
def ExprPrecedenceCardSaid : Prop := Claim7.holds Tryz.pinned (.plain (OpenSpec.ofChange exprPrecedenceSpec)) exprPrecedenceCard

/-- THE TIED CARD OF 'netlablaw08.ExprExamples'. -/
def exprExamplesCard : Claim7 := { stood := { row := exprExamplesRow, standIns := [], harness := (true, "b399b0eb16add630c85f34b38e91e6d3618e933f6e904959f4fb53729c6c4076"), looks := false }, kinds := [], alts := [], laidByText := true, laidKinds := [.data, .data, .data], laidTests := true, laidLooks := .later }
def ExprExamplesCardSaid : Prop := Claim7.holds Tryz.pinned (.plain (OpenSpec.ofChange exprExamplesSpec)) exprExamplesCard

/-- THE SECOND FORM's CARD OF 'netlablaw08.ExprPrecedence'. -/
def exprPrecedenceUptoCard : Claim7 := { stood := { row := exprPrecedenceUptoRow, standIns := [], harness := (true, "b399b0eb16add630c85f34b38e91e6d3618e933f6e904959f4fb53729c6c4076"), looks := false }, kinds := [], alts := [], laidByText := true, laidKinds := [.data, .data, .data], laidTests := true, laidLooks := .later }
def ExprPrecedenceUptoCardSaid : Prop := Claim7.holds Tryz.pinned (.plain (OpenSpec.upto exprPrecedenceSpec)) exprPrecedenceUptoCard

/-- THE SECOND FORM's CARD OF 'netlablaw08.ExprExamples'. -/
def exprExamplesUptoCard : Claim7 := { stood := { row := exprExamplesUptoRow, standIns := [], harness := (true, "b399b0eb16add630c85f34b38e91e6d3618e933f6e904959f4fb53729c6c4076"), looks := false }, kinds := [], alts := [], laidByText := true, laidKinds := [.data, .data, .data], laidTests := true, laidLooks := .later }
def ExprExamplesUptoCardSaid : Prop := Claim7.holds Tryz.pinned (.plain (OpenSpec.upto exprExamplesSpec)) exprExamplesUptoCard
end Rows
end Go.Proofs.YtnjihnjonhmflaaGreatDoor
