/-
  DERIVED. GIVEN WITH THE SEED: THE CARDS: each row of YtkmjkicjlkchcaaGreatDoorRows.lean that lists a variable, with what it lists TIED to the program's text (the seventh form; the later family's looks); each row that meets fmt, with fmt's text TOLD by the authors' own Lean function (tested against real Go, not proved from fmt's source: count such statements apart). THE CARD IS WHAT COUNTS. Prove the row's statement (the work); the ties are given (YtkmjkicjlkchcaaGreatDoorTie.lean); close each card by the builder's one call (the guide's Derived/Test/ToyasCard.lean, 'card_holds'). Laid BY PROGRAM, IN A SANDBOX (cutbox-door.mjs). By AI agents, Wed Nov 11 2026. No macro, syntax, notation, axiom, sorry.
-/
import Derived.Test.YtkmjkicjlkchcaaGreatDoorRows
import GoSem.ClaimSeven
namespace Go.Proofs.YtkmjkicjlkchcaaGreatDoor
namespace Rows

/-- THE TIED CARD OF 'concourselaw36.SpaceOnce'. -/
def spaceOnceCard : Claim7 := { stood := { row := spaceOnceRow, standIns := [], harness := (true, "a00cafe502ee5a0c2737a3bd4e35404ddc6c9cbd5c462ff64590657ee39a1580"), looks := true }, kinds := [], alts := [], laidByText := true, laidKinds := [.data, .data, .data, .data, .pinned], laidTests := true, laidLooks := .later }
def SpaceOnceCardSaid : Prop := Claim7.holds Tryz.pinned (.plain (OpenSpec.ofChange spaceOnceSpec)) spaceOnceCard

/-- THE TIED CARD OF 'concourselaw36.SpaceCancel'. -/
def spaceCancelCard : Claim7 := { stood := { row := spaceCancelRow, standIns := [], harness := (true, "a00cafe502ee5a0c2737a3bd4e35404ddc6c9cbd5c462ff64590657ee39a1580"), looks := true }, kinds := [], alts := [], laidByText := true, laidKinds := [.data, .data, .data, .data, .pinned], laidTests := true, laidLooks := .later }
def SpaceCancelCardSaid : Prop := Claim7.holds Tryz.pinned (.plain (OpenSpec.ofChange spaceCancelSpec)) spaceCancelCard

/-- THE TIED CARD OF 'concourselaw36.SpaceSteps'. -/
def spaceStepsCard : Claim7 := { stood := { row := spaceStepsRow, standIns := [], harness := (true, "a00cafe502ee5a0c2737a3bd4e35404ddc6c9cbd5c462ff64590657ee39a1580"), looks := true }, kinds := [], alts := [], laidByText := true, laidKinds := [.data, .data, .data, .data, .pinned], laidTests := true, laidLooks := .later }
def SpaceStepsCardSaid : Prop := Claim7.holds Tryz.pinned (.plain (OpenSpec.ofChange spaceStepsSpec)) spaceStepsCard

/-- THE TIED CARD OF 'concourselaw36.SpaceNone'. -/
def spaceNoneCard : Claim7 := { stood := { row := spaceNoneRow, standIns := [], harness := (true, "a00cafe502ee5a0c2737a3bd4e35404ddc6c9cbd5c462ff64590657ee39a1580"), looks := true }, kinds := [], alts := [], laidByText := true, laidKinds := [.data, .data, .data, .data, .pinned], laidTests := true, laidLooks := .later }
def SpaceNoneCardSaid : Prop := Claim7.holds Tryz.pinned (.plain (OpenSpec.ofChange spaceNoneSpec)) spaceNoneCard

/-- THE TIED CARD OF 'concourselaw36.SpaceErrors'. -/
def spaceErrorsCard : Claim7 := { stood := { row := spaceErrorsRow, standIns := [], harness := (true, "a00cafe502ee5a0c2737a3bd4e35404ddc6c9cbd5c462ff64590657ee39a1580"), looks := true }, kinds := [], alts := [], laidByText := true, laidKinds := [.data, .data, .data, .data, .pinned], laidTests := true, laidLooks := .later }
def SpaceErrorsCardSaid : Prop := Claim7.holds Tryz.pinned (.plain (OpenSpec.ofChange spaceErrorsSpec)) spaceErrorsCard

/-- THE SECOND FORM's CARD OF 'concourselaw36.SpaceOnce'. -/
def spaceOnceUptoCard : Claim7 := { stood := { row := spaceOnceUptoRow, standIns := [], harness := (true, "a00cafe502ee5a0c2737a3bd4e35404ddc6c9cbd5c462ff64590657ee39a1580"), looks := true }, kinds := [], alts := [], laidByText := true, laidKinds := [.data, .data, .data, .data, .pinned], laidTests := true, laidLooks := .later }
def SpaceOnceUptoCardSaid : Prop := Claim7.holds Tryz.pinned (.plain (OpenSpec.upto spaceOnceSpec)) spaceOnceUptoCard

/-- THE SECOND FORM's CARD OF 'concourselaw36.SpaceCancel'. -/
def spaceCancelUptoCard : Claim7 := { stood := { row := spaceCancelUptoRow, standIns := [], harness := (true, "a00cafe502ee5a0c2737a3bd4e35404ddc6c9cbd5c462ff64590657ee39a1580"), looks := true }, kinds := [], alts := [], laidByText := true, laidKinds := [.data, .data, .data, .data, .pinned], laidTests := true, laidLooks := .later }
def SpaceCancelUptoCardSaid : Prop := Claim7.holds Tryz.pinned (.plain (OpenSpec.upto spaceCancelSpec)) spaceCancelUptoCard

/-- THE SECOND FORM's CARD OF 'concourselaw36.SpaceSteps'. -/
def spaceStepsUptoCard : Claim7 := { stood := { row := spaceStepsUptoRow, standIns := [], harness := (true, "a00cafe502ee5a0c2737a3bd4e35404ddc6c9cbd5c462ff64590657ee39a1580"), looks := true }, kinds := [], alts := [], laidByText := true, laidKinds := [.data, .data, .data, .data, .pinned], laidTests := true, laidLooks := .later }
def SpaceStepsUptoCardSaid : Prop := Claim7.holds Tryz.pinned (.plain (OpenSpec.upto spaceStepsSpec)) spaceStepsUptoCard

/-- THE SECOND FORM's CARD OF 'concourselaw36.SpaceNone'. -/
def spaceNoneUptoCard : Claim7 := { stood := { row := spaceNoneUptoRow, standIns := [], harness := (true, "a00cafe502ee5a0c2737a3bd4e35404ddc6c9cbd5c462ff64590657ee39a1580"), looks := true }, kinds := [], alts := [], laidByText := true, laidKinds := [.data, .data, .data, .data, .pinned], laidTests := true, laidLooks := .later }
def SpaceNoneUptoCardSaid : Prop := Claim7.holds Tryz.pinned (.plain (OpenSpec.upto spaceNoneSpec)) spaceNoneUptoCard

/-- THE SECOND FORM's CARD OF 'concourselaw36.SpaceErrors'. -/
def spaceErrorsUptoCard : Claim7 := { stood := { row := spaceErrorsUptoRow, standIns := [], harness := (true, "a00cafe502ee5a0c2737a3bd4e35404ddc6c9cbd5c462ff64590657ee39a1580"), looks := true }, kinds := [], alts := [], laidByText := true, laidKinds := [.data, .data, .data, .data, .pinned], laidTests := true, laidLooks := .later }
def SpaceErrorsUptoCardSaid : Prop := Claim7.holds Tryz.pinned (.plain (OpenSpec.upto spaceErrorsSpec)) spaceErrorsUptoCard
end Rows
end Go.Proofs.YtkmjkicjlkchcaaGreatDoor
