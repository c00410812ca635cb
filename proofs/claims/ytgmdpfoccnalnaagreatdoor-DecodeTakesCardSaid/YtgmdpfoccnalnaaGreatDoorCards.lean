/-
  DERIVED. GIVEN WITH THE SEED: THE CARDS: each row of YtgmdpfoccnalnaaGreatDoorRows.lean that lists a variable, with what it lists TIED to the program's text (the seventh form; the later family's looks); each row that meets fmt, with fmt's text TOLD by the authors' own Lean function (tested against real Go, not proved from fmt's source: count such statements apart). THE CARD IS WHAT COUNTS. Prove the row's statement (the work); the ties are given (YtgmdpfoccnalnaaGreatDoorTie.lean); close each card by the builder's one call (the guide's Derived/Test/ToyasCard.lean, 'card_holds'). Laid BY PROGRAM, IN A SANDBOX (cutbox-door.mjs). By AI agents, Wed Nov 11 2026. No macro, syntax, notation, axiom, sorry.
-/
import Derived.Test.YtgmdpfoccnalnaaGreatDoorRows
import GoSem.ClaimSeven
namespace Go.Proofs.YtgmdpfoccnalnaaGreatDoor
namespace Rows

/-- THE TIED CARD OF 'concourselaw18.DecodeBack'. -/
def decodeBackCard : Claim7 := { stood := { row := decodeBackRow, standIns := [], harness := (true, "e3b079b94b4093c6e8a57109427f9f8bc79bca8fc7c68dc799166b7f0c65fb94"), looks := true }, kinds := [], alts := [], laidByText := true, laidKinds := [.data, .pinned], laidTests := true, laidLooks := .later }
def DecodeBackCardSaid : Prop := Claim7.holds Tryz.pinned (.plain (OpenSpec.ofChange decodeBackSpec)) decodeBackCard

/-- THE TIED CARD OF 'concourselaw18.DecodeFits'. -/
def decodeFitsCard : Claim7 := { stood := { row := decodeFitsRow, standIns := [], harness := (true, "e3b079b94b4093c6e8a57109427f9f8bc79bca8fc7c68dc799166b7f0c65fb94"), looks := true }, kinds := [], alts := [], laidByText := true, laidKinds := [.data, .pinned], laidTests := true, laidLooks := .later }
def DecodeFitsCardSaid : Prop := Claim7.holds Tryz.pinned (.plain (OpenSpec.ofChange decodeFitsSpec)) decodeFitsCard

/-- THE TIED CARD OF 'concourselaw18.DecodeTakes'. -/
def decodeTakesCard : Claim7 := { stood := { row := decodeTakesRow, standIns := [], harness := (true, "e3b079b94b4093c6e8a57109427f9f8bc79bca8fc7c68dc799166b7f0c65fb94"), looks := true }, kinds := [], alts := [], laidByText := true, laidKinds := [.data, .pinned], laidTests := true, laidLooks := .later }
def DecodeTakesCardSaid : Prop := Claim7.holds Tryz.pinned (.plain (OpenSpec.ofChange decodeTakesSpec)) decodeTakesCard

/-- THE SECOND FORM's CARD OF 'concourselaw18.DecodeBack'. -/
def decodeBackUptoCard : Claim7 := { stood := { row := decodeBackUptoRow, standIns := [], harness := (true, "e3b079b94b4093c6e8a57109427f9f8bc79bca8fc7c68dc799166b7f0c65fb94"), looks := true }, kinds := [], alts := [], laidByText := true, laidKinds := [.data, .pinned], laidTests := true, laidLooks := .later }
def DecodeBackUptoCardSaid : Prop := Claim7.holds Tryz.pinned (.plain (OpenSpec.upto decodeBackSpec)) decodeBackUptoCard

/-- THE SECOND FORM's CARD OF 'concourselaw18.DecodeFits'. -/
def decodeFitsUptoCard : Claim7 := { stood := { row := decodeFitsUptoRow, standIns := [], harness := (true, "e3b079b94b4093c6e8a57109427f9f8bc79bca8fc7c68dc799166b7f0c65fb94"), looks := true }, kinds := [], alts := [], laidByText := true, laidKinds := [.data, .pinned], laidTests := true, laidLooks := .later }
def DecodeFitsUptoCardSaid : Prop := Claim7.holds Tryz.pinned (.plain (OpenSpec.upto decodeFitsSpec)) decodeFitsUptoCard

/-- THE SECOND FORM's CARD OF 'concourselaw18.DecodeTakes'. -/
def decodeTakesUptoCard : Claim7 := { stood := { row := decodeTakesUptoRow, standIns := [], harness := (true, "e3b079b94b4093c6e8a57109427f9f8bc79bca8fc7c68dc799166b7f0c65fb94"), looks := true }, kinds := [], alts := [], laidByText := true, laidKinds := [.data, .pinned], laidTests := true, laidLooks := .later }
def DecodeTakesUptoCardSaid : Prop := Claim7.holds Tryz.pinned (.plain (OpenSpec.upto decodeTakesSpec)) decodeTakesUptoCard
end Rows
end Go.Proofs.YtgmdpfoccnalnaaGreatDoor
