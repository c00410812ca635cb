/-
  DERIVED. GIVEN WITH THE SEED: THE CARDS: each row of YtloefdcbeakibaaGreatDoorRows.lean that lists a variable, with what it lists TIED to the program's text (the seventh form; the later family's looks); each row that meets fmt, with fmt's text TOLD by the authors' own Lean function (tested against real Go, not proved from fmt's source: count such statements apart). THE CARD IS WHAT COUNTS. Prove the row's statement (the work); the ties are given (YtloefdcbeakibaaGreatDoorTie.lean); close each card by the builder's one call (the guide's Derived/Test/ToyasCard.lean, 'card_holds'). Laid BY PROGRAM, IN A SANDBOX (cutbox-door.mjs). By AI agents, Wed Nov 11 2026. No macro, syntax, notation, axiom, sorry.
-/
import Derived.Test.YtloefdcbeakibaaGreatDoorRows
import GoSem.ClaimSeven
namespace Go.Proofs.YtloefdcbeakibaaGreatDoor
namespace Rows

/-- THE TIED CARD OF 'concourselaw49.TallyCounts'. -/
def tallyCountsCard : Claim7 := { stood := { row := tallyCountsRow, standIns := [], harness := (true, "c08827c72f36831bca51da174ab8662547eef8db66c3df5f4440940be7b1db6b"), looks := true }, kinds := [], alts := [], laidByText := true, laidKinds := [.data, .data, .data, .data, .pinned], laidTests := true, laidLooks := .later }
def TallyCountsCardSaid : Prop := Claim7.holds Tryz.pinned (.plain (OpenSpec.ofChange tallyCountsSpec)) tallyCountsCard

/-- THE TIED CARD OF 'concourselaw49.TallyParts'. -/
def tallyPartsCard : Claim7 := { stood := { row := tallyPartsRow, standIns := [], harness := (true, "c08827c72f36831bca51da174ab8662547eef8db66c3df5f4440940be7b1db6b"), looks := true }, kinds := [], alts := [], laidByText := true, laidKinds := [.data, .data, .data, .data, .pinned], laidTests := true, laidLooks := .later }
def TallyPartsCardSaid : Prop := Claim7.holds Tryz.pinned (.plain (OpenSpec.ofChange tallyPartsSpec)) tallyPartsCard

/-- THE TIED CARD OF 'concourselaw49.TallyNone'. -/
def tallyNoneCard : Claim7 := { stood := { row := tallyNoneRow, standIns := [], harness := (true, "c08827c72f36831bca51da174ab8662547eef8db66c3df5f4440940be7b1db6b"), looks := true }, kinds := [], alts := [], laidByText := true, laidKinds := [.data, .data, .data, .data, .pinned], laidTests := true, laidLooks := .later }
def TallyNoneCardSaid : Prop := Claim7.holds Tryz.pinned (.plain (OpenSpec.ofChange tallyNoneSpec)) tallyNoneCard

/-- THE SECOND FORM's CARD OF 'concourselaw49.TallyCounts'. -/
def tallyCountsUptoCard : Claim7 := { stood := { row := tallyCountsUptoRow, standIns := [], harness := (true, "c08827c72f36831bca51da174ab8662547eef8db66c3df5f4440940be7b1db6b"), looks := true }, kinds := [], alts := [], laidByText := true, laidKinds := [.data, .data, .data, .data, .pinned], laidTests := true, laidLooks := .later }
def TallyCountsUptoCardSaid : Prop := Claim7.holds Tryz.pinned (.plain (OpenSpec.upto tallyCountsSpec)) tallyCountsUptoCard

/-- THE SECOND FORM's CARD OF 'concourselaw49.TallyParts'. -/
def tallyPartsUptoCard : Claim7 := { stood := { row := tallyPartsUptoRow, standIns := [], harness := (true, "c08827c72f36831bca51da174ab8662547eef8db66c3df5f4440940be7b1db6b"), looks := true }, kinds := [], alts := [], laidByText := true, laidKinds := [.data, .data, .data, .data, .pinned], laidTests := true, laidLooks := .later }
def TallyPartsUptoCardSaid : Prop := Claim7.holds Tryz.pinned (.plain (OpenSpec.upto tallyPartsSpec)) tallyPartsUptoCard

/-- THE SECOND FORM's CARD OF 'concourselaw49.TallyNone'. -/
def tallyNoneUptoCard : Claim7 := { stood := { row := tallyNoneUptoRow, standIns := [], harness := (true, "c08827c72f36831bca51da174ab8662547eef8db66c3df5f4440940be7b1db6b"), looks := true }, kinds := [], alts := [], laidByText := true, laidKinds := [.data, .data, .data, .data, .pinned], laidTests := true, laidLooks := .later }
def TallyNoneUptoCardSaid : Prop := Claim7.holds Tryz.pinned (.plain (OpenSpec.upto tallyNoneSpec)) tallyNoneUptoCard
end Rows
end Go.Proofs.YtloefdcbeakibaaGreatDoor
