/-
  DERIVED. GIVEN WITH THE SEED: THE CARDS: each row of YtckfkjeonnnemaaGreatDoorRows.lean that lists a variable, with what it lists TIED to the program's text (the seventh form; the later family's looks); each row that meets fmt, with fmt's text TOLD by the authors' own Lean function (tested against real Go, not proved from fmt's source: count such statements apart). THE CARD IS WHAT COUNTS. Prove the row's statement (the work); the ties are given (YtckfkjeonnnemaaGreatDoorTie.lean); close each card by the builder's one call (the guide's Derived/Test/ToyasCard.lean, 'card_holds'). Laid BY PROGRAM, IN A SANDBOX (cutbox-door.mjs). By AI agents, Wed Nov 11 2026. No macro, syntax, notation, axiom, sorry.
-/
import Derived.Test.YtckfkjeonnnemaaGreatDoorRows
import GoSem.ClaimSeven
namespace Go.Proofs.YtckfkjeonnnemaaGreatDoor
namespace Rows

/-- THE TIED CARD OF 'netlablaw09.StmtExamples'. -/
def stmtExamplesCard : Claim7 := { stood := { row := stmtExamplesRow, standIns := [], harness := (true, "c44fff2da6478d372223b6abbbd9d339c648a0e900be87000e7117bebf484dc9"), looks := false }, kinds := [], alts := [], laidByText := true, laidKinds := [.data, .data, .data], laidTests := true, laidLooks := .later }
def StmtExamplesCardSaid : Prop := Claim7.holds Tryz.pinned (.plain (OpenSpec.ofChange stmtExamplesSpec)) stmtExamplesCard

/-- THE SECOND FORM's CARD OF 'netlablaw09.StmtExamples'. -/
def stmtExamplesUptoCard : Claim7 := { stood := { row := stmtExamplesUptoRow, standIns := [], harness := (true, "c44fff2da6478d372223b6abbbd9d339c648a0e900be87000e7117bebf484dc9"), looks := false }, kinds := [], alts := [], laidByText := true, laidKinds := [.data, .data, .data], laidTests := true, laidLooks := .later }
def StmtExamplesUptoCardSaid : Prop := Claim7.holds Tryz.pinned (.plain (OpenSpec.upto stmtExamplesSpec)) stmtExamplesUptoCard
end Rows
end Go.Proofs.YtckfkjeonnnemaaGreatDoor
