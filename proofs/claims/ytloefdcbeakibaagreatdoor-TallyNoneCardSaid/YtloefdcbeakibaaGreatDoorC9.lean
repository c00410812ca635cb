/- The closed facts of the row, limb by limb. -/
import Derived.JoinedOf
import Derived.HandedShaped
import Derived.Test.YtloefdcbeakibaaGreatDoorRows
set_option maxRecDepth 100000
namespace Go.Proofs.YtloefdcbeakibaaGreatDoor.tallyNoneDone
open Go.ChangeShapes Go.WideShapes

theorem fact1 : Rows.tallyNoneRow.wf (OpenSpec.ofChange Rows.tallyNoneSpec) = true := by kernel_rfl
theorem fact2 : laidOutB Tryz.prog = true := by kernel_rfl
theorem fact3 : mapsRowed Tryz.prog = true := by kernel_rfl
theorem fact4 : Tryz.f5.params.all (Program.readableRec Tryz.prog ·) = true := by kernel_rfl
theorem fact5 : namedTie Tryz.prog Rows.tallyNoneRow.named Rows.tallyNoneSpec.vars = true := by kernel_rfl
theorem fact6 : (Rows.tallyNoneRow.stops == []) = true := by kernel_rfl
theorem fact7 : (Tryz.prog.stops == []) = true := by kernel_rfl
theorem fact8 : (Rows.tallyNoneRow.knobs == []) = true := by kernel_rfl
theorem fact9 : (Tryz.prog.stopKnobs == []) = true := by kernel_rfl
theorem fact10 : (Rows.tallyNoneRow.inPlace == Tryz.prog.inPlace 5) = true := by kernel_rfl
theorem fact11 : (Rows.tallyNoneRow.unfollowed == Tryz.prog.unfollowed 5) = true := by kernel_rfl
theorem fact12 : (Rows.tallyNoneRow.recurses == Tryz.prog.recurses 5) = true := by kernel_rfl
theorem fact13 : (Rows.tallyNoneRow.named == Tryz.prog.varsNamed 5) = true := by kernel_rfl
theorem fact14 : (Rows.tallyNoneRow.maps == (Tryz.f5.params.toList ++ Rows.tallyNoneSpec.plain.varTypes Tryz.prog).any (Program.mapsRec Tryz.prog ·)) = true := by kernel_rfl
theorem fact15 : (Rows.tallyNoneRow.ifaces == (Tryz.f5.params.toList ++ Rows.tallyNoneSpec.plain.varTypes Tryz.prog).any (Program.ifacesRec Tryz.prog ·)) = true := by kernel_rfl
theorem fact16 : (Rows.tallyNoneRow.mapsOut == Program.mapsAmong Tryz.prog Tryz.f5.resultTypes.toList) = true := by kernel_rfl
theorem fact17 : (Rows.tallyNoneRow.loops == (Tryz.f5.params.toList ++ Rows.tallyNoneSpec.plain.varTypes Tryz.prog).any (Program.loopsFrom Tryz.prog ·)) = true := by kernel_rfl
theorem fact18 : (Rows.tallyNoneRow.wideKeys == (Tryz.f5.params.toList ++ Rows.tallyNoneSpec.plain.varTypes Tryz.prog ++ Tryz.f5.resultTypes.toList).any (Program.wideKeysFrom Tryz.prog ·)) = true := by kernel_rfl
theorem fact19 : Rows.tallyNoneSpec.vars.all (Program.varReadable Tryz.prog ·) = true := by kernel_rfl
theorem fact20 : Tryz.f5.resultTypes.all (fun t => Program.readableRec Tryz.prog t && decide (t < Tryz.prog.types.size)) = true := by kernel_rfl
theorem fact21 : (Rows.tallyNoneRow.ifacesOut == Tryz.f5.resultTypes.toList.any (Program.ifacesRec Tryz.prog ·)) = true := by kernel_rfl
theorem fact22 : (Rows.tallyNoneRow.loopsOut == Tryz.f5.resultTypes.toList.any (Program.loopsFrom Tryz.prog ·)) = true := by kernel_rfl
theorem fact23 : (Rows.tallyNoneRow.plainKeys == Tryz.prog.plainKeys) = true := by kernel_rfl
theorem fact24 : Rows.tallyNoneRow.shortTexts.isNone = true := by kernel_rfl
theorem fact25 : Tryz.prog.stopsHeard = true := by kernel_rfl
theorem fact26 : Tryz.prog.mayEnter = true := by kernel_rfl
theorem fact27 : (Rows.tallyNoneRow.lifted == Tryz.prog.liftsFinal) = true := by kernel_rfl
theorem fact28 : (Program.make Tryz.prog == some Rows.tallyNoneRow.make) = true := by kernel_rfl
theorem fact30 : (Rows.tallyNoneRow.pinned == Rows.tallyNoneRow.pinnedBy) = true := by kernel_rfl
theorem fact31 : (Rows.tallyNoneRow.veiled == (Tryz.f5.params.toList ++ Rows.tallyNoneSpec.plain.varTypes Tryz.prog ++ Tryz.f5.resultTypes.toList).any (Program.veiledRec Tryz.prog ·)) = true := by kernel_rfl
theorem fact32 : Rows.tallyNoneRow.veiledFits Tryz.prog Tryz.f5.params.toList (Tryz.f5.params.toList ++ Rows.tallyNoneSpec.plain.varTypes Tryz.prog ++ Tryz.f5.resultTypes.toList) = true := by kernel_rfl
theorem facts : joinedFacts Tryz.prog 5 Tryz.f5 Rows.tallyNoneSpec Rows.tallyNoneRow = true := by
  unfold joinedFacts
  simp only [Bool.and_eq_true]
  exact ⟨⟨⟨⟨⟨⟨⟨⟨⟨⟨⟨⟨⟨⟨⟨⟨⟨⟨⟨⟨⟨⟨⟨⟨⟨⟨⟨⟨⟨⟨⟨fact1, fact2⟩, fact3⟩, fact4⟩, fact5⟩, fact6⟩, fact7⟩, fact8⟩, fact9⟩, fact10⟩, fact11⟩, fact12⟩, fact13⟩, fact14⟩, fact15⟩, fact16⟩, fact17⟩, fact18⟩, fact19⟩, fact20⟩, fact21⟩, fact22⟩, fact23⟩, fact24⟩, fact25⟩, fact26⟩, fact27⟩, fact28⟩, (by kernel_rfl)⟩, fact30⟩, fact31⟩, fact32⟩
end Go.Proofs.YtloefdcbeakibaaGreatDoor.tallyNoneDone
