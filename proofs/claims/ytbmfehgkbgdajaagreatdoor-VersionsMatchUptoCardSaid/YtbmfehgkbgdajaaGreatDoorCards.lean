/-
  DERIVED. GIVEN WITH THE SEED: THE CARDS: each row of YtbmfehgkbgdajaaGreatDoorRows.lean that lists a variable, with what it lists TIED to the program's text (the seventh form; the later family's looks); each row that meets fmt, with fmt's text TOLD by the authors' own Lean function (tested against real Go, not proved from fmt's source: count such statements apart). THE CARD IS WHAT COUNTS. Prove the row's statement (the work); the ties are given (YtbmfehgkbgdajaaGreatDoorTie.lean); close each card by the builder's one call (the guide's Derived/Test/ToyasCard.lean, 'card_holds'). Laid BY PROGRAM, IN A SANDBOX (cutbox-door.mjs). By AI agents, Wed Nov 11 2026. No macro, syntax, notation, axiom, sorry.
-/
import Derived.Test.YtbmfehgkbgdajaaGreatDoorRows
import GoSem.ClaimSeven
namespace Go.Proofs.YtbmfehgkbgdajaaGreatDoor
namespace Rows

/-- THE TIED CARD OF 'periwinkletop.TopSolved'. -/
def topSolvedCard : Claim7 := { stood := { row := topSolvedRow, standIns := [], harness := (true, "9b48c34db5cdbb20d1a5b89d7bb78796d3d83789ddb21f02915a5f2179a1ac6e"), looks := true }, kinds := [], alts := [], laidByText := true, laidKinds := [.data, .data, .data, .data, .pinned], laidTests := true, laidLooks := .later }
def TopSolvedCardSaid : Prop := Claim7.holds Tryz.pinned (.plain (OpenSpec.ofChange topSolvedSpec)) topSolvedCard

/-- THE TIED CARD OF 'periwinklelaw1.IndexCheckMatches'. -/
def indexCheckMatchesCard : Claim7 := { stood := { row := indexCheckMatchesRow, standIns := [], harness := (true, "9b48c34db5cdbb20d1a5b89d7bb78796d3d83789ddb21f02915a5f2179a1ac6e"), looks := true }, kinds := [], alts := [], laidByText := true, laidKinds := [.data, .data, .data, .data, .sentinel, .sentinel, .pinned], laidTests := true, laidLooks := .later }
def IndexCheckMatchesCardSaid : Prop := Claim7.holds Tryz.pinned (.plain (OpenSpec.ofChange indexCheckMatchesSpec)) indexCheckMatchesCard

/-- THE TIED CARD OF 'periwinklelaw1.VersionsMatch'. -/
def versionsMatchCard : Claim7 := { stood := { row := versionsMatchRow, standIns := [], harness := (true, "9b48c34db5cdbb20d1a5b89d7bb78796d3d83789ddb21f02915a5f2179a1ac6e"), looks := true }, kinds := [], alts := [], laidByText := true, laidKinds := [.data, .data, .data, .data, .sentinel, .sentinel, .pinned], laidTests := true, laidLooks := .later }
def VersionsMatchCardSaid : Prop := Claim7.holds Tryz.pinned (.plain (OpenSpec.ofChange versionsMatchSpec)) versionsMatchCard

/-- THE TIED CARD OF 'periwinklelaw1.ChoiceRightMatches'. -/
def choiceRightMatchesCard : Claim7 := { stood := { row := choiceRightMatchesRow, standIns := [], harness := (true, "9b48c34db5cdbb20d1a5b89d7bb78796d3d83789ddb21f02915a5f2179a1ac6e"), looks := true }, kinds := [], alts := [], laidByText := true, laidKinds := [.data, .data, .data, .data, .sentinel, .sentinel, .pinned], laidTests := true, laidLooks := .later }
def ChoiceRightMatchesCardSaid : Prop := Claim7.holds Tryz.pinned (.plain (OpenSpec.ofChange choiceRightMatchesSpec)) choiceRightMatchesCard

/-- THE TIED CARD OF 'periwinklelaw1.ChoiceBestMatches'. -/
def choiceBestMatchesCard : Claim7 := { stood := { row := choiceBestMatchesRow, standIns := [], harness := (true, "9b48c34db5cdbb20d1a5b89d7bb78796d3d83789ddb21f02915a5f2179a1ac6e"), looks := true }, kinds := [], alts := [], laidByText := true, laidKinds := [.data, .data, .data, .data, .sentinel, .sentinel, .pinned], laidTests := true, laidLooks := .later }
def ChoiceBestMatchesCardSaid : Prop := Claim7.holds Tryz.pinned (.plain (OpenSpec.ofChange choiceBestMatchesSpec)) choiceBestMatchesCard

/-- THE TIED CARD OF 'periwinklelaw1.IndexTextMatches'. -/
def indexTextMatchesCard : Claim7 := { stood := { row := indexTextMatchesRow, standIns := [], harness := (true, "9b48c34db5cdbb20d1a5b89d7bb78796d3d83789ddb21f02915a5f2179a1ac6e"), looks := true }, kinds := [], alts := [], laidByText := true, laidKinds := [.data, .data, .data, .data, .sentinel, .sentinel, .pinned], laidTests := true, laidLooks := .later }
def IndexTextMatchesCardSaid : Prop := Claim7.holds Tryz.pinned (.plain (OpenSpec.ofChange indexTextMatchesSpec)) indexTextMatchesCard

/-- THE TIED CARD OF 'periwinklelaw1.IndexReads'. -/
def indexReadsCard : Claim7 := { stood := { row := indexReadsRow, standIns := [], harness := (true, "9b48c34db5cdbb20d1a5b89d7bb78796d3d83789ddb21f02915a5f2179a1ac6e"), looks := true }, kinds := [], alts := [], laidByText := true, laidKinds := [.data, .data, .data, .data, .sentinel, .sentinel, .pinned], laidTests := true, laidLooks := .later }
def IndexReadsCardSaid : Prop := Claim7.holds Tryz.pinned (.plain (OpenSpec.ofChange indexReadsSpec)) indexReadsCard

/-- THE TIED CARD OF 'periwinklelaw1.SequenceMatches'. -/
def sequenceMatchesCard : Claim7 := { stood := { row := sequenceMatchesRow, standIns := [], harness := (true, "9b48c34db5cdbb20d1a5b89d7bb78796d3d83789ddb21f02915a5f2179a1ac6e"), looks := true }, kinds := [], alts := [], laidByText := true, laidKinds := [.data, .data, .data, .data, .sentinel, .sentinel, .pinned], laidTests := true, laidLooks := .later }
def SequenceMatchesCardSaid : Prop := Claim7.holds Tryz.pinned (.plain (OpenSpec.ofChange sequenceMatchesSpec)) sequenceMatchesCard

/-- THE SECOND FORM's CARD OF 'periwinkletop.TopSolved'. -/
def topSolvedUptoCard : Claim7 := { stood := { row := topSolvedUptoRow, standIns := [], harness := (true, "9b48c34db5cdbb20d1a5b89d7bb78796d3d83789ddb21f02915a5f2179a1ac6e"), looks := true }, kinds := [], alts := [], laidByText := true, laidKinds := [.data, .data, .data, .data, .pinned], laidTests := true, laidLooks := .later }
def TopSolvedUptoCardSaid : Prop := Claim7.holds Tryz.pinned (.plain (OpenSpec.upto topSolvedSpec)) topSolvedUptoCard

/-- THE SECOND FORM's CARD OF 'periwinklelaw1.IndexCheckMatches'. -/
def indexCheckMatchesUptoCard : Claim7 := { stood := { row := indexCheckMatchesUptoRow, standIns := [], harness := (true, "9b48c34db5cdbb20d1a5b89d7bb78796d3d83789ddb21f02915a5f2179a1ac6e"), looks := true }, kinds := [], alts := [], laidByText := true, laidKinds := [.data, .data, .data, .data, .sentinel, .sentinel, .pinned], laidTests := true, laidLooks := .later }
def IndexCheckMatchesUptoCardSaid : Prop := Claim7.holds Tryz.pinned (.plain (OpenSpec.upto indexCheckMatchesSpec)) indexCheckMatchesUptoCard

/-- THE SECOND FORM's CARD OF 'periwinklelaw1.VersionsMatch'. -/
def versionsMatchUptoCard : Claim7 := { stood := { row := versionsMatchUptoRow, standIns := [], harness := (true, "9b48c34db5cdbb20d1a5b89d7bb78796d3d83789ddb21f02915a5f2179a1ac6e"), looks := true }, kinds := [], alts := [], laidByText := true, laidKinds := [.data, .data, .data, .data, .sentinel, .sentinel, .pinned], laidTests := true, laidLooks := .later }
def VersionsMatchUptoCardSaid : Prop := Claim7.holds Tryz.pinned (.plain (OpenSpec.upto versionsMatchSpec)) versionsMatchUptoCard

/-- THE SECOND FORM's CARD OF 'periwinklelaw1.ChoiceRightMatches'. -/
def choiceRightMatchesUptoCard : Claim7 := { stood := { row := choiceRightMatchesUptoRow, standIns := [], harness := (true, "9b48c34db5cdbb20d1a5b89d7bb78796d3d83789ddb21f02915a5f2179a1ac6e"), looks := true }, kinds := [], alts := [], laidByText := true, laidKinds := [.data, .data, .data, .data, .sentinel, .sentinel, .pinned], laidTests := true, laidLooks := .later }
def ChoiceRightMatchesUptoCardSaid : Prop := Claim7.holds Tryz.pinned (.plain (OpenSpec.upto choiceRightMatchesSpec)) choiceRightMatchesUptoCard

/-- THE SECOND FORM's CARD OF 'periwinklelaw1.ChoiceBestMatches'. -/
def choiceBestMatchesUptoCard : Claim7 := { stood := { row := choiceBestMatchesUptoRow, standIns := [], harness := (true, "9b48c34db5cdbb20d1a5b89d7bb78796d3d83789ddb21f02915a5f2179a1ac6e"), looks := true }, kinds := [], alts := [], laidByText := true, laidKinds := [.data, .data, .data, .data, .sentinel, .sentinel, .pinned], laidTests := true, laidLooks := .later }
def ChoiceBestMatchesUptoCardSaid : Prop := Claim7.holds Tryz.pinned (.plain (OpenSpec.upto choiceBestMatchesSpec)) choiceBestMatchesUptoCard

/-- THE SECOND FORM's CARD OF 'periwinklelaw1.IndexTextMatches'. -/
def indexTextMatchesUptoCard : Claim7 := { stood := { row := indexTextMatchesUptoRow, standIns := [], harness := (true, "9b48c34db5cdbb20d1a5b89d7bb78796d3d83789ddb21f02915a5f2179a1ac6e"), looks := true }, kinds := [], alts := [], laidByText := true, laidKinds := [.data, .data, .data, .data, .sentinel, .sentinel, .pinned], laidTests := true, laidLooks := .later }
def IndexTextMatchesUptoCardSaid : Prop := Claim7.holds Tryz.pinned (.plain (OpenSpec.upto indexTextMatchesSpec)) indexTextMatchesUptoCard

/-- THE SECOND FORM's CARD OF 'periwinklelaw1.IndexReads'. -/
def indexReadsUptoCard : Claim7 := { stood := { row := indexReadsUptoRow, standIns := [], harness := (true, "9b48c34db5cdbb20d1a5b89d7bb78796d3d83789ddb21f02915a5f2179a1ac6e"), looks := true }, kinds := [], alts := [], laidByText := true, laidKinds := [.data, .data, .data, .data, .sentinel, .sentinel, .pinned], laidTests := true, laidLooks := .later }
def IndexReadsUptoCardSaid : Prop := Claim7.holds Tryz.pinned (.plain (OpenSpec.upto indexReadsSpec)) indexReadsUptoCard

/-- THE SECOND FORM's CARD OF 'periwinklelaw1.SequenceMatches'. -/
def sequenceMatchesUptoCard : Claim7 := { stood := { row := sequenceMatchesUptoRow, standIns := [], harness := (true, "9b48c34db5cdbb20d1a5b89d7bb78796d3d83789ddb21f02915a5f2179a1ac6e"), looks := true }, kinds := [], alts := [], laidByText := true, laidKinds := [.data, .data, .data, .data, .sentinel, .sentinel, .pinned], laidTests := true, laidLooks := .later }
def SequenceMatchesUptoCardSaid : Prop := Claim7.holds Tryz.pinned (.plain (OpenSpec.upto sequenceMatchesSpec)) sequenceMatchesUptoCard
end Rows
end Go.Proofs.YtbmfehgkbgdajaaGreatDoor
