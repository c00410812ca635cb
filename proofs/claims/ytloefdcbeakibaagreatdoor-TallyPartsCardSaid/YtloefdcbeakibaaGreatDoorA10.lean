/- The closed facts of the row, limb by limb. -/
import Derived.JoinedOf
import Derived.HandedShaped
import Derived.Test.YtloefdcbeakibaaGreatDoorRows
set_option maxRecDepth 100000
namespace Go.Proofs.YtloefdcbeakibaaGreatDoor.tallyPartsDone
open Go.ChangeShapes Go.WideShapes

theorem fact1 : Rows.tallyPartsRow.wf (OpenSpec.ofChange Rows.tallyPartsSpec) = true := by kernel_rfl
theorem fact2 : laidOutB Tryz.prog = true := by kernel_rfl
theorem fact3 : mapsRowed Tryz.prog = true := by kernel_rfl
theorem fact4 : Tryz.f4.params.all (Program.readableRec Tryz.prog ·) = true := by kernel_rfl
theorem fact5 : namedTie Tryz.prog Rows.tallyPartsRow.named Rows.tallyPartsSpec.vars = true := by kernel_rfl
theorem fact6 : (Rows.tallyPartsRow.stops == []) = true := by kernel_rfl
theorem fact7 : (Tryz.prog.stops == []) = true := by kernel_rfl
theorem fact8 : (Rows.tallyPartsRow.knobs == []) = true := by kernel_rfl
theorem fact9 : (Tryz.prog.stopKnobs == []) = true := by kernel_rfl
theorem fact10 : (Rows.tallyPartsRow.inPlace == Tryz.prog.inPlace 4) = true := by kernel_rfl
theorem fact11 : (Rows.tallyPartsRow.unfollowed == Tryz.prog.unfollowed 4) = true := by kernel_rfl
theorem fact12 : (Rows.tallyPartsRow.recurses == Tryz.prog.recurses 4) = true := by kernel_rfl
theorem fact13 : (Rows.tallyPartsRow.named == Tryz.prog.varsNamed 4) = true := by kernel_rfl
theorem fact14 : (Rows.tallyPartsRow.maps == (Tryz.f4.params.toList ++ Rows.tallyPartsSpec.plain.varTypes Tryz.prog).any (Program.mapsRec Tryz.prog ·)) = true := by kernel_rfl
theorem fact15 : (Rows.tallyPartsRow.ifaces == (Tryz.f4.params.toList ++ Rows.tallyPartsSpec.plain.varTypes Tryz.prog).any (Program.ifacesRec Tryz.prog ·)) = true := by kernel_rfl
theorem fact16 : (Rows.tallyPartsRow.mapsOut == Program.mapsAmong Tryz.prog Tryz.f4.resultTypes.toList) = true := by kernel_rfl
theorem fact17 : (Rows.tallyPartsRow.loops == (Tryz.f4.params.toList ++ Rows.tallyPartsSpec.plain.varTypes Tryz.prog).any (Program.loopsFrom Tryz.prog ·)) = true := by kernel_rfl
theorem fact18 : (Rows.tallyPartsRow.wideKeys == (Tryz.f4.params.toList ++ Rows.tallyPartsSpec.plain.varTypes Tryz.prog ++ Tryz.f4.resultTypes.toList).any (Program.wideKeysFrom Tryz.prog ·)) = true := by kernel_rfl
theorem fact19 : Rows.tallyPartsSpec.vars.all (Program.varReadable Tryz.prog ·) = true := by kernel_rfl
theorem fact20 : Tryz.f4.resultTypes.all (fun t => Program.readableRec Tryz.prog t && decide (t < Tryz.prog.types.size)) = true := by kernel_rfl
theorem fact21 : (Rows.tallyPartsRow.ifacesOut == Tryz.f4.resultTypes.toList.any (Program.ifacesRec Tryz.prog ·)) = true := by kernel_rfl
theorem fact22 : (Rows.tallyPartsRow.loopsOut == Tryz.f4.resultTypes.toList.any (Program.loopsFrom Tryz.prog ·)) = true := by kernel_rfl
theorem fact23 : (Rows.tallyPartsRow.plainKeys == Tryz.prog.plainKeys) = true := by kernel_rfl
theorem fact24 : Rows.tallyPartsRow.shortTexts.isNone = true := by kernel_rfl
theorem fact25 : Tryz.prog.stopsHeard = true := by kernel_rfl
theorem fact26 : Tryz.prog.mayEnter = true := by kernel_rfl
theorem fact27 : (Rows.tallyPartsRow.lifted == Tryz.prog.liftsFinal) = true := by kernel_rfl
theorem fact28 : (Program.make Tryz.prog == some Rows.tallyPartsRow.make) = true := by kernel_rfl
theorem fact30 : (Rows.tallyPartsRow.pinned == Rows.tallyPartsRow.pinnedBy) = true := by kernel_rfl
theorem fact31 : (Rows.tallyPartsRow.veiled == (Tryz.f4.params.toList ++ Rows.tallyPartsSpec.plain.varTypes Tryz.prog ++ Tryz.f4.resultTypes.toList).any (Program.veiledRec Tryz.prog ·)) = true := by kernel_rfl
theorem fact32 : Rows.tallyPartsRow.veiledFits Tryz.prog Tryz.f4.params.toList (Tryz.f4.params.toList ++ Rows.tallyPartsSpec.plain.varTypes Tryz.prog ++ Tryz.f4.resultTypes.toList) = true := by kernel_rfl
theorem facts : joinedFacts Tryz.prog 4 Tryz.f4 Rows.tallyPartsSpec Rows.tallyPartsRow = true := by
  unfold joinedFacts
  simp only [Bool.and_eq_true]
  exact ⟨⟨⟨⟨⟨⟨⟨⟨⟨⟨⟨⟨⟨⟨⟨⟨⟨⟨⟨⟨⟨⟨⟨⟨⟨⟨⟨⟨⟨⟨⟨fact1, fact2⟩, fact3⟩, fact4⟩, fact5⟩, fact6⟩, fact7⟩, fact8⟩, fact9⟩, fact10⟩, fact11⟩, fact12⟩, fact13⟩, fact14⟩, fact15⟩, fact16⟩, fact17⟩, fact18⟩, fact19⟩, fact20⟩, fact21⟩, fact22⟩, fact23⟩, fact24⟩, fact25⟩, fact26⟩, fact27⟩, fact28⟩, (by kernel_rfl)⟩, fact30⟩, fact31⟩, fact32⟩
end Go.Proofs.YtloefdcbeakibaaGreatDoor.tallyPartsDone
