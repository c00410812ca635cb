/-
  DERIVED. GIVEN WITH THE SEED: THE CARDS: each row of YtekmhpkomhjbpaaGreatDoorRows.lean that lists a variable, with what it lists TIED to the program's text (the seventh form; the later family's looks); each row that meets fmt, with fmt's text TOLD by the authors' own Lean function (tested against real Go, not proved from fmt's source: count such statements apart). THE CARD IS WHAT COUNTS. Prove the row's statement (the work); the ties are given (YtekmhpkomhjbpaaGreatDoorTie.lean); close each card by the builder's one call (the guide's Derived/Test/ToyasCard.lean, 'card_holds'). Laid BY PROGRAM, IN A SANDBOX (cutbox-door.mjs). By AI agents, Wed Nov 11 2026. No macro, syntax, notation, axiom, sorry.
-/
import Derived.Test.YtekmhpkomhjbpaaGreatDoorRows
import GoSem.ClaimSeven
namespace Go.Proofs.YtekmhpkomhjbpaaGreatDoor
namespace Rows

/-- THE TIED CARD OF 'concourselaw45.TraceAsks'. -/
def traceAsksCard : Claim7 := { stood := { row := traceAsksRow, standIns := [], harness := (true, "0c821de96c7b41ca06df39b0cd33ba268b3439277840c98996851b94a9043668"), looks := true }, kinds := [], alts := [], laidByText := true, laidKinds := [.data, .pinned], laidTests := true, laidLooks := .later }
def TraceAsksCardSaid : Prop := Claim7.holds Tryz.pinned (.plain (OpenSpec.ofChange traceAsksSpec)) traceAsksCard

/-- THE TIED CARD OF 'concourselaw42.ServerNone'. -/
def serverNoneCard : Claim7 := { stood := { row := serverNoneRow, standIns := [], harness := (true, "0c821de96c7b41ca06df39b0cd33ba268b3439277840c98996851b94a9043668"), looks := true }, kinds := [], alts := [], laidByText := true, laidKinds := [.data, .data, .data, .data, .pinned], laidTests := true, laidLooks := .later }
def ServerNoneCardSaid : Prop := Claim7.holds Tryz.pinned (.plain (OpenSpec.ofChange serverNoneSpec)) serverNoneCard

/-- THE SECOND FORM's CARD OF 'concourselaw45.TraceAsks'. -/
def traceAsksUptoCard : Claim7 := { stood := { row := traceAsksUptoRow, standIns := [], harness := (true, "0c821de96c7b41ca06df39b0cd33ba268b3439277840c98996851b94a9043668"), looks := true }, kinds := [], alts := [], laidByText := true, laidKinds := [.data, .pinned], laidTests := true, laidLooks := .later }
def TraceAsksUptoCardSaid : Prop := Claim7.holds Tryz.pinned (.plain (OpenSpec.upto traceAsksSpec)) traceAsksUptoCard

/-- THE SECOND FORM's CARD OF 'concourselaw42.ServerNone'. -/
def serverNoneUptoCard : Claim7 := { stood := { row := serverNoneUptoRow, standIns := [], harness := (true, "0c821de96c7b41ca06df39b0cd33ba268b3439277840c98996851b94a9043668"), looks := true }, kinds := [], alts := [], laidByText := true, laidKinds := [.data, .data, .data, .data, .pinned], laidTests := true, laidLooks := .later }
def ServerNoneUptoCardSaid : Prop := Claim7.holds Tryz.pinned (.plain (OpenSpec.upto serverNoneSpec)) serverNoneUptoCard
end Rows
end Go.Proofs.YtekmhpkomhjbpaaGreatDoor
