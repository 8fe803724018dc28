/-
  DERIVED. GIVEN WITH THE SEED: THE CARDS: each row of YtioldkniiilhnaaGreatDoorRows.lean that lists a variable, with what it lists TIED to the program's text (the seventh form; the later family's looks); each row that meets fmt, with fmt's text TOLD by the authors' own Lean function (tested against real Go, not proved from fmt's source: count such statements apart). THE CARD IS WHAT COUNTS. Prove the row's statement (the work); the ties are given (YtioldkniiilhnaaGreatDoorTie.lean); close each card by the builder's one call (the guide's Derived/Test/ToyasCard.lean, 'card_holds'). Laid BY PROGRAM, IN A SANDBOX (cutbox-door.mjs). By AI agents, Wed Nov 11 2026. No macro, syntax, notation, axiom, sorry.
-/
import Derived.Test.YtioldkniiilhnaaGreatDoorRows
import GoSem.ClaimSeven
namespace Go.Proofs.YtioldkniiilhnaaGreatDoor
namespace Rows

/-- THE TIED CARD OF 'netlablaw07.TokenMatches'. -/
def tokenMatchesCard : Claim7 := { stood := { row := tokenMatchesRow, standIns := [], harness := (true, "e3d0bcc91e443b14f99d4a920a4874b8c13e28cdbb9ad2cacbcff48449a2f458"), looks := false }, kinds := [], alts := [], laidByText := true, laidKinds := [.data, .data, .data], laidTests := true, laidLooks := .later }
def TokenMatchesCardSaid : Prop := Claim7.holds Tryz.pinned (.plain (OpenSpec.ofChange tokenMatchesSpec)) tokenMatchesCard

/-- THE TIED CARD OF 'netlablaw07.TokenProgress'. -/
def tokenProgressCard : Claim7 := { stood := { row := tokenProgressRow, standIns := [], harness := (true, "e3d0bcc91e443b14f99d4a920a4874b8c13e28cdbb9ad2cacbcff48449a2f458"), looks := false }, kinds := [], alts := [], laidByText := true, laidKinds := [.data, .data, .data], laidTests := true, laidLooks := .later }
def TokenProgressCardSaid : Prop := Claim7.holds Tryz.pinned (.plain (OpenSpec.ofChange tokenProgressSpec)) tokenProgressCard

/-- THE TIED CARD OF 'netlablaw07.TokenLongest'. -/
def tokenLongestCard : Claim7 := { stood := { row := tokenLongestRow, standIns := [], harness := (true, "e3d0bcc91e443b14f99d4a920a4874b8c13e28cdbb9ad2cacbcff48449a2f458"), looks := false }, kinds := [], alts := [], laidByText := true, laidKinds := [.data, .data, .data], laidTests := true, laidLooks := .later }
def TokenLongestCardSaid : Prop := Claim7.holds Tryz.pinned (.plain (OpenSpec.ofChange tokenLongestSpec)) tokenLongestCard

/-- THE TIED CARD OF 'netlablaw07.TokenConcatenates'. -/
def tokenConcatenatesCard : Claim7 := { stood := { row := tokenConcatenatesRow, standIns := [], harness := (true, "e3d0bcc91e443b14f99d4a920a4874b8c13e28cdbb9ad2cacbcff48449a2f458"), looks := false }, kinds := [], alts := [], laidByText := true, laidKinds := [.data, .data, .data], laidTests := true, laidLooks := .later }
def TokenConcatenatesCardSaid : Prop := Claim7.holds Tryz.pinned (.plain (OpenSpec.ofChange tokenConcatenatesSpec)) tokenConcatenatesCard

/-- THE TIED CARD OF 'netlablaw07.TokenTakesMatch'. -/
def tokenTakesMatchCard : Claim7 := { stood := { row := tokenTakesMatchRow, standIns := [], harness := (true, "e3d0bcc91e443b14f99d4a920a4874b8c13e28cdbb9ad2cacbcff48449a2f458"), looks := false }, kinds := [], alts := [], laidByText := true, laidKinds := [.data, .data, .data], laidTests := true, laidLooks := .later }
def TokenTakesMatchCardSaid : Prop := Claim7.holds Tryz.pinned (.plain (OpenSpec.ofChange tokenTakesMatchSpec)) tokenTakesMatchCard

/-- THE TIED CARD OF 'netlablaw07.TokenFormatMatches'. -/
def tokenFormatMatchesCard : Claim7 := { stood := { row := tokenFormatMatchesRow, standIns := [], harness := (true, "e3d0bcc91e443b14f99d4a920a4874b8c13e28cdbb9ad2cacbcff48449a2f458"), looks := false }, kinds := [], alts := [], laidByText := true, laidKinds := [.data, .data, .data], laidTests := true, laidLooks := .later }
def TokenFormatMatchesCardSaid : Prop := Claim7.holds Tryz.pinned (.plain (OpenSpec.ofChange tokenFormatMatchesSpec)) tokenFormatMatchesCard

/-- THE TIED CARD OF 'netlablaw07.TokenRoundTrip'. -/
def tokenRoundTripCard : Claim7 := { stood := { row := tokenRoundTripRow, standIns := [], harness := (true, "e3d0bcc91e443b14f99d4a920a4874b8c13e28cdbb9ad2cacbcff48449a2f458"), looks := false }, kinds := [], alts := [], laidByText := true, laidKinds := [.data, .data, .data], laidTests := true, laidLooks := .later }
def TokenRoundTripCardSaid : Prop := Claim7.holds Tryz.pinned (.plain (OpenSpec.ofChange tokenRoundTripSpec)) tokenRoundTripCard

/-- THE TIED CARD OF 'netlablaw07.TokenSeparators'. -/
def tokenSeparatorsCard : Claim7 := { stood := { row := tokenSeparatorsRow, standIns := [], harness := (true, "e3d0bcc91e443b14f99d4a920a4874b8c13e28cdbb9ad2cacbcff48449a2f458"), looks := false }, kinds := [], alts := [], laidByText := true, laidKinds := [.data, .data, .data], laidTests := true, laidLooks := .later }
def TokenSeparatorsCardSaid : Prop := Claim7.holds Tryz.pinned (.plain (OpenSpec.ofChange tokenSeparatorsSpec)) tokenSeparatorsCard

/-- THE TIED CARD OF 'netlablaw07.TokenExamples'. -/
def tokenExamplesCard : Claim7 := { stood := { row := tokenExamplesRow, standIns := [], harness := (true, "e3d0bcc91e443b14f99d4a920a4874b8c13e28cdbb9ad2cacbcff48449a2f458"), looks := false }, kinds := [], alts := [], laidByText := true, laidKinds := [.data, .data, .data], laidTests := true, laidLooks := .later }
def TokenExamplesCardSaid : Prop := Claim7.holds Tryz.pinned (.plain (OpenSpec.ofChange tokenExamplesSpec)) tokenExamplesCard

/-- THE SECOND FORM's CARD OF 'netlablaw07.TokenMatches'. -/
def tokenMatchesUptoCard : Claim7 := { stood := { row := tokenMatchesUptoRow, standIns := [], harness := (true, "e3d0bcc91e443b14f99d4a920a4874b8c13e28cdbb9ad2cacbcff48449a2f458"), looks := false }, kinds := [], alts := [], laidByText := true, laidKinds := [.data, .data, .data], laidTests := true, laidLooks := .later }
def TokenMatchesUptoCardSaid : Prop := Claim7.holds Tryz.pinned (.plain (OpenSpec.upto tokenMatchesSpec)) tokenMatchesUptoCard

/-- THE SECOND FORM's CARD OF 'netlablaw07.TokenProgress'. -/
def tokenProgressUptoCard : Claim7 := { stood := { row := tokenProgressUptoRow, standIns := [], harness := (true, "e3d0bcc91e443b14f99d4a920a4874b8c13e28cdbb9ad2cacbcff48449a2f458"), looks := false }, kinds := [], alts := [], laidByText := true, laidKinds := [.data, .data, .data], laidTests := true, laidLooks := .later }
def TokenProgressUptoCardSaid : Prop := Claim7.holds Tryz.pinned (.plain (OpenSpec.upto tokenProgressSpec)) tokenProgressUptoCard

/-- THE SECOND FORM's CARD OF 'netlablaw07.TokenLongest'. -/
def tokenLongestUptoCard : Claim7 := { stood := { row := tokenLongestUptoRow, standIns := [], harness := (true, "e3d0bcc91e443b14f99d4a920a4874b8c13e28cdbb9ad2cacbcff48449a2f458"), looks := false }, kinds := [], alts := [], laidByText := true, laidKinds := [.data, .data, .data], laidTests := true, laidLooks := .later }
def TokenLongestUptoCardSaid : Prop := Claim7.holds Tryz.pinned (.plain (OpenSpec.upto tokenLongestSpec)) tokenLongestUptoCard

/-- THE SECOND FORM's CARD OF 'netlablaw07.TokenConcatenates'. -/
def tokenConcatenatesUptoCard : Claim7 := { stood := { row := tokenConcatenatesUptoRow, standIns := [], harness := (true, "e3d0bcc91e443b14f99d4a920a4874b8c13e28cdbb9ad2cacbcff48449a2f458"), looks := false }, kinds := [], alts := [], laidByText := true, laidKinds := [.data, .data, .data], laidTests := true, laidLooks := .later }
def TokenConcatenatesUptoCardSaid : Prop := Claim7.holds Tryz.pinned (.plain (OpenSpec.upto tokenConcatenatesSpec)) tokenConcatenatesUptoCard

/-- THE SECOND FORM's CARD OF 'netlablaw07.TokenTakesMatch'. -/
def tokenTakesMatchUptoCard : Claim7 := { stood := { row := tokenTakesMatchUptoRow, standIns := [], harness := (true, "e3d0bcc91e443b14f99d4a920a4874b8c13e28cdbb9ad2cacbcff48449a2f458"), looks := false }, kinds := [], alts := [], laidByText := true, laidKinds := [.data, .data, .data], laidTests := true, laidLooks := .later }
def TokenTakesMatchUptoCardSaid : Prop := Claim7.holds Tryz.pinned (.plain (OpenSpec.upto tokenTakesMatchSpec)) tokenTakesMatchUptoCard

/-- THE SECOND FORM's CARD OF 'netlablaw07.TokenFormatMatches'. -/
def tokenFormatMatchesUptoCard : Claim7 := { stood := { row := tokenFormatMatchesUptoRow, standIns := [], harness := (true, "e3d0bcc91e443b14f99d4a920a4874b8c13e28cdbb9ad2cacbcff48449a2f458"), looks := false }, kinds := [], alts := [], laidByText := true, laidKinds := [.data, .data, .data], laidTests := true, laidLooks := .later }
def TokenFormatMatchesUptoCardSaid : Prop := Claim7.holds Tryz.pinned (.plain (OpenSpec.upto tokenFormatMatchesSpec)) tokenFormatMatchesUptoCard

/-- THE SECOND FORM's CARD OF 'netlablaw07.TokenRoundTrip'. -/
def tokenRoundTripUptoCard : Claim7 := { stood := { row := tokenRoundTripUptoRow, standIns := [], harness := (true, "e3d0bcc91e443b14f99d4a920a4874b8c13e28cdbb9ad2cacbcff48449a2f458"), looks := false }, kinds := [], alts := [], laidByText := true, laidKinds := [.data, .data, .data], laidTests := true, laidLooks := .later }
def TokenRoundTripUptoCardSaid : Prop := Claim7.holds Tryz.pinned (.plain (OpenSpec.upto tokenRoundTripSpec)) tokenRoundTripUptoCard

/-- THE SECOND FORM's CARD OF 'netlablaw07.TokenSeparators'. -/
def tokenSeparatorsUptoCard : Claim7 := { stood := { row := tokenSeparatorsUptoRow, standIns := [], harness := (true, "e3d0bcc91e443b14f99d4a920a4874b8c13e28cdbb9ad2cacbcff48449a2f458"), looks := false }, kinds := [], alts := [], laidByText := true, laidKinds := [.data, .data, .data], laidTests := true, laidLooks := .later }
def TokenSeparatorsUptoCardSaid : Prop := Claim7.holds Tryz.pinned (.plain (OpenSpec.upto tokenSeparatorsSpec)) tokenSeparatorsUptoCard

/-- THE SECOND FORM's CARD OF 'netlablaw07.TokenExamples'. -/
def tokenExamplesUptoCard : Claim7 := { stood := { row := tokenExamplesUptoRow, standIns := [], harness := (true, "e3d0bcc91e443b14f99d4a920a4874b8c13e28cdbb9ad2cacbcff48449a2f458"), looks := false }, kinds := [], alts := [], laidByText := true, laidKinds := [.data, .data, .data], laidTests := true, laidLooks := .later }
def TokenExamplesUptoCardSaid : Prop := Claim7.holds Tryz.pinned (.plain (OpenSpec.upto tokenExamplesSpec)) tokenExamplesUptoCard
end Rows
end Go.Proofs.YtioldkniiilhnaaGreatDoor
