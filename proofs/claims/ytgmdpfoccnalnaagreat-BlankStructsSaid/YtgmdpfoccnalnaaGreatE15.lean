/- The closed facts of the row, limb by limb. -/
import Derived.JoinedOf
import Derived.HandedShaped
import Derived.Test.YtgmdpfoccnalnaaGreatRows
set_option maxRecDepth 100000
namespace Go.Proofs.YtgmdpfoccnalnaaGreat.blankStructsDone
open Go.ChangeShapes Go.WideShapes

theorem fact1 : Rows.blankStructsRow.wf (OpenSpec.ofChange Rows.blankStructsSpec) = true := by kernel_rfl
theorem fact2 : laidOutB Tryz.prog = true := by kernel_rfl
theorem fact3 : mapsRowed Tryz.prog = true := by kernel_rfl
theorem fact4 : Tryz.f9.params.all (Program.readableRec Tryz.prog ·) = true := by kernel_rfl
theorem fact5 : namedTie Tryz.prog Rows.blankStructsRow.named Rows.blankStructsSpec.vars = true := by kernel_rfl
theorem fact6 : (Rows.blankStructsRow.stops == []) = true := by kernel_rfl
theorem fact7 : (Tryz.prog.stops == []) = true := by kernel_rfl
theorem fact8 : (Rows.blankStructsRow.knobs == []) = true := by kernel_rfl
theorem fact9 : (Tryz.prog.stopKnobs == []) = true := by kernel_rfl
theorem fact10 : (Rows.blankStructsRow.inPlace == Tryz.prog.inPlace 9) = true := by kernel_rfl
theorem fact11 : (Rows.blankStructsRow.unfollowed == Tryz.prog.unfollowed 9) = true := by kernel_rfl
theorem fact12 : (Rows.blankStructsRow.recurses == Tryz.prog.recurses 9) = true := by kernel_rfl
theorem fact13 : (Rows.blankStructsRow.named == Tryz.prog.varsNamed 9) = true := by kernel_rfl
theorem fact14 : (Rows.blankStructsRow.maps == (Tryz.f9.params.toList ++ Rows.blankStructsSpec.plain.varTypes Tryz.prog).any (Program.mapsRec Tryz.prog ·)) = true := by kernel_rfl
theorem fact15 : (Rows.blankStructsRow.ifaces == (Tryz.f9.params.toList ++ Rows.blankStructsSpec.plain.varTypes Tryz.prog).any (Program.ifacesRec Tryz.prog ·)) = true := by kernel_rfl
theorem fact16 : (Rows.blankStructsRow.mapsOut == Program.mapsAmong Tryz.prog Tryz.f9.resultTypes.toList) = true := by kernel_rfl
theorem fact17 : (Rows.blankStructsRow.loops == (Tryz.f9.params.toList ++ Rows.blankStructsSpec.plain.varTypes Tryz.prog).any (Program.loopsFrom Tryz.prog ·)) = true := by kernel_rfl
theorem fact18 : (Rows.blankStructsRow.wideKeys == (Tryz.f9.params.toList ++ Rows.blankStructsSpec.plain.varTypes Tryz.prog ++ Tryz.f9.resultTypes.toList).any (Program.wideKeysFrom Tryz.prog ·)) = true := by kernel_rfl
theorem fact19 : Rows.blankStructsSpec.vars.all (Program.varReadable Tryz.prog ·) = true := by kernel_rfl
theorem fact20 : Tryz.f9.resultTypes.all (fun t => Program.readableRec Tryz.prog t && decide (t < Tryz.prog.types.size)) = true := by kernel_rfl
theorem fact21 : (Rows.blankStructsRow.ifacesOut == Tryz.f9.resultTypes.toList.any (Program.ifacesRec Tryz.prog ·)) = true := by kernel_rfl
theorem fact22 : (Rows.blankStructsRow.loopsOut == Tryz.f9.resultTypes.toList.any (Program.loopsFrom Tryz.prog ·)) = true := by kernel_rfl
theorem fact23 : (Rows.blankStructsRow.plainKeys == Tryz.prog.plainKeys) = true := by kernel_rfl
theorem fact24 : Rows.blankStructsRow.shortTexts.isNone = true := by kernel_rfl
theorem fact25 : Tryz.prog.stopsHeard = true := by kernel_rfl
theorem fact26 : Tryz.prog.mayEnter = true := by kernel_rfl
theorem fact27 : (Rows.blankStructsRow.lifted == Tryz.prog.liftsFinal) = true := by kernel_rfl
theorem fact28 : (Program.make Tryz.prog == some Rows.blankStructsRow.make) = true := by kernel_rfl
theorem fact30 : (Rows.blankStructsRow.pinned == Rows.blankStructsRow.pinnedBy) = true := by kernel_rfl
theorem fact31 : (Rows.blankStructsRow.veiled == (Tryz.f9.params.toList ++ Rows.blankStructsSpec.plain.varTypes Tryz.prog ++ Tryz.f9.resultTypes.toList).any (Program.veiledRec Tryz.prog ·)) = true := by kernel_rfl
theorem fact32 : Rows.blankStructsRow.veiledFits Tryz.prog Tryz.f9.params.toList (Tryz.f9.params.toList ++ Rows.blankStructsSpec.plain.varTypes Tryz.prog ++ Tryz.f9.resultTypes.toList) = true := by kernel_rfl
theorem facts : joinedFacts Tryz.prog 9 Tryz.f9 Rows.blankStructsSpec Rows.blankStructsRow = true := by
  unfold joinedFacts
  simp only [Bool.and_eq_true]
  exact ⟨⟨⟨⟨⟨⟨⟨⟨⟨⟨⟨⟨⟨⟨⟨⟨⟨⟨⟨⟨⟨⟨⟨⟨⟨⟨⟨⟨⟨⟨⟨fact1, fact2⟩, fact3⟩, fact4⟩, fact5⟩, fact6⟩, fact7⟩, fact8⟩, fact9⟩, fact10⟩, fact11⟩, fact12⟩, fact13⟩, fact14⟩, fact15⟩, fact16⟩, fact17⟩, fact18⟩, fact19⟩, fact20⟩, fact21⟩, fact22⟩, fact23⟩, fact24⟩, fact25⟩, fact26⟩, fact27⟩, fact28⟩, (by kernel_rfl)⟩, fact30⟩, fact31⟩, fact32⟩
end Go.Proofs.YtgmdpfoccnalnaaGreat.blankStructsDone
