/-
  DERIVED. GIVEN WITH THE SEED: THE CARDS: each row of YtpkbclagmkgpkaaGreatDoorRows.lean that lists a variable, with what it lists TIED to the program's text (the seventh form; the later family's looks); each row that meets fmt, with fmt's text TOLD by the authors' own Lean function (tested against real Go, not proved from fmt's source: count such statements apart). THE CARD IS WHAT COUNTS. Prove the row's statement (the work); the ties are given (YtpkbclagmkgpkaaGreatDoorTie.lean); close each card by the builder's one call (the guide's Derived/Test/ToyasCard.lean, 'card_holds'). Laid BY PROGRAM, IN A SANDBOX (cutbox-door.mjs). By AI agents, Wed Nov 11 2026. No macro, syntax, notation, axiom, sorry.
-/
import Derived.Test.YtpkbclagmkgpkaaGreatDoorRows
import GoSem.ClaimSeven
namespace Go.Proofs.YtpkbclagmkgpkaaGreatDoor
namespace Rows

/-- THE TIED CARD OF 'concourselaw50.DeskReads'. -/
def deskReadsCard : Claim7 := { stood := { row := deskReadsRow, standIns := [], harness := (true, "4db28d56f6d9aabd126bdac412d3dc293d00d6372454e140e44319f7f58bc592"), looks := true }, kinds := [], alts := [], laidByText := true, laidKinds := [.data, .data, .data, .data, .pinned], laidTests := true, laidLooks := .later }
def DeskReadsCardSaid : Prop := Claim7.holds Tryz.pinned (.plain (OpenSpec.ofChange deskReadsSpec)) deskReadsCard

/-- THE TIED CARD OF 'concourselaw50.DeskFirst'. -/
def deskFirstCard : Claim7 := { stood := { row := deskFirstRow, standIns := [], harness := (true, "4db28d56f6d9aabd126bdac412d3dc293d00d6372454e140e44319f7f58bc592"), looks := true }, kinds := [], alts := [], laidByText := true, laidKinds := [.data, .data, .data, .data, .pinned], laidTests := true, laidLooks := .later }
def DeskFirstCardSaid : Prop := Claim7.holds Tryz.pinned (.plain (OpenSpec.ofChange deskFirstSpec)) deskFirstCard

/-- THE TIED CARD OF 'concourselaw50.DeskNotes'. -/
def deskNotesCard : Claim7 := { stood := { row := deskNotesRow, standIns := [], harness := (true, "4db28d56f6d9aabd126bdac412d3dc293d00d6372454e140e44319f7f58bc592"), looks := true }, kinds := [], alts := [], laidByText := true, laidKinds := [.data, .data, .data, .data, .pinned], laidTests := true, laidLooks := .later }
def DeskNotesCardSaid : Prop := Claim7.holds Tryz.pinned (.plain (OpenSpec.ofChange deskNotesSpec)) deskNotesCard

/-- THE SECOND FORM's CARD OF 'concourselaw50.DeskReads'. -/
def deskReadsUptoCard : Claim7 := { stood := { row := deskReadsUptoRow, standIns := [], harness := (true, "4db28d56f6d9aabd126bdac412d3dc293d00d6372454e140e44319f7f58bc592"), looks := true }, kinds := [], alts := [], laidByText := true, laidKinds := [.data, .data, .data, .data, .pinned], laidTests := true, laidLooks := .later }
def DeskReadsUptoCardSaid : Prop := Claim7.holds Tryz.pinned (.plain (OpenSpec.upto deskReadsSpec)) deskReadsUptoCard

/-- THE SECOND FORM's CARD OF 'concourselaw50.DeskFirst'. -/
def deskFirstUptoCard : Claim7 := { stood := { row := deskFirstUptoRow, standIns := [], harness := (true, "4db28d56f6d9aabd126bdac412d3dc293d00d6372454e140e44319f7f58bc592"), looks := true }, kinds := [], alts := [], laidByText := true, laidKinds := [.data, .data, .data, .data, .pinned], laidTests := true, laidLooks := .later }
def DeskFirstUptoCardSaid : Prop := Claim7.holds Tryz.pinned (.plain (OpenSpec.upto deskFirstSpec)) deskFirstUptoCard

/-- THE SECOND FORM's CARD OF 'concourselaw50.DeskNotes'. -/
def deskNotesUptoCard : Claim7 := { stood := { row := deskNotesUptoRow, standIns := [], harness := (true, "4db28d56f6d9aabd126bdac412d3dc293d00d6372454e140e44319f7f58bc592"), looks := true }, kinds := [], alts := [], laidByText := true, laidKinds := [.data, .data, .data, .data, .pinned], laidTests := true, laidLooks := .later }
def DeskNotesUptoCardSaid : Prop := Claim7.holds Tryz.pinned (.plain (OpenSpec.upto deskNotesSpec)) deskNotesUptoCard
end Rows
end Go.Proofs.YtpkbclagmkgpkaaGreatDoor
