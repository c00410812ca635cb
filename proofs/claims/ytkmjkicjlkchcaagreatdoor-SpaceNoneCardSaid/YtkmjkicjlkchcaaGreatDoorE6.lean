/- The closed facts of the row, limb by limb. -/
import Derived.JoinedOf
import Derived.HandedShaped
import Derived.Test.YtkmjkicjlkchcaaGreatDoorRows
set_option maxRecDepth 100000
namespace Go.Proofs.YtkmjkicjlkchcaaGreatDoor.spaceNoneDone
open Go.ChangeShapes Go.WideShapes

theorem fact1 : Rows.spaceNoneRow.wf (OpenSpec.ofChange Rows.spaceNoneSpec) = true := by kernel_rfl
theorem fact2a : (List.range Tryz.prog.types.size).all (rowFine Tryz.prog) = true := by kernel_rfl
theorem fact2b : Tryz.prog.globals.all (fun g => decide (g.type < Tryz.prog.types.size)) = true := by kernel_rfl
theorem fact2c : Tryz.prog.funcs.all (fun f => f.params.all fun t => decide (t < Tryz.prog.types.size)) = true := by kernel_rfl
theorem fact2 : laidOutB Tryz.prog = true := by
  unfold laidOutB
  rw [fact2a, fact2b, fact2c]
  rfl
theorem fact3 : mapsRowed Tryz.prog = true := by kernel_rfl
theorem fact4 : Tryz.f6.params.all (Program.readableRec Tryz.prog ·) = true := by kernel_rfl
theorem fact5 : namedTie Tryz.prog Rows.spaceNoneRow.named Rows.spaceNoneSpec.vars = true := by kernel_rfl
theorem fact6 : (Rows.spaceNoneRow.stops == []) = true := by kernel_rfl
theorem fact7 : (Tryz.prog.stops == []) = true := by kernel_rfl
theorem fact8 : (Rows.spaceNoneRow.knobs == []) = true := by kernel_rfl
theorem fact9 : (Tryz.prog.stopKnobs == []) = true := by kernel_rfl
theorem fact10 : (Rows.spaceNoneRow.inPlace == Tryz.prog.inPlace 6) = true := by kernel_rfl
theorem fact11 : (Rows.spaceNoneRow.unfollowed == Tryz.prog.unfollowed 6) = true := by kernel_rfl
theorem fact12 : (Rows.spaceNoneRow.recurses == Tryz.prog.recurses 6) = true := by kernel_rfl
theorem fact13 : (Rows.spaceNoneRow.named == Tryz.prog.varsNamed 6) = true := by kernel_rfl
theorem fact14 : (Rows.spaceNoneRow.maps == (Tryz.f6.params.toList ++ Rows.spaceNoneSpec.plain.varTypes Tryz.prog).any (Program.mapsRec Tryz.prog ·)) = true := by kernel_rfl
theorem fact15 : (Rows.spaceNoneRow.ifaces == (Tryz.f6.params.toList ++ Rows.spaceNoneSpec.plain.varTypes Tryz.prog).any (Program.ifacesRec Tryz.prog ·)) = true := by kernel_rfl
theorem fact16 : (Rows.spaceNoneRow.mapsOut == Program.mapsAmong Tryz.prog Tryz.f6.resultTypes.toList) = true := by kernel_rfl
theorem fact17 : (Rows.spaceNoneRow.loops == (Tryz.f6.params.toList ++ Rows.spaceNoneSpec.plain.varTypes Tryz.prog).any (Program.loopsFrom Tryz.prog ·)) = true := by kernel_rfl
theorem fact18 : (Rows.spaceNoneRow.wideKeys == (Tryz.f6.params.toList ++ Rows.spaceNoneSpec.plain.varTypes Tryz.prog ++ Tryz.f6.resultTypes.toList).any (Program.wideKeysFrom Tryz.prog ·)) = true := by kernel_rfl
theorem fact19 : Rows.spaceNoneSpec.vars.all (Program.varReadable Tryz.prog ·) = true := by kernel_rfl
theorem fact20 : Tryz.f6.resultTypes.all (fun t => Program.readableRec Tryz.prog t && decide (t < Tryz.prog.types.size)) = true := by kernel_rfl
theorem fact21 : (Rows.spaceNoneRow.ifacesOut == Tryz.f6.resultTypes.toList.any (Program.ifacesRec Tryz.prog ·)) = true := by kernel_rfl
theorem fact22 : (Rows.spaceNoneRow.loopsOut == Tryz.f6.resultTypes.toList.any (Program.loopsFrom Tryz.prog ·)) = true := by kernel_rfl
theorem fact23 : (Rows.spaceNoneRow.plainKeys == Tryz.prog.plainKeys) = true := by kernel_rfl
theorem fact24 : Rows.spaceNoneRow.shortTexts.isNone = true := by kernel_rfl
theorem fact25 : Tryz.prog.stopsHeard = true := by kernel_rfl
theorem fact26 : Tryz.prog.mayEnter = true := by kernel_rfl
theorem fact27 : (Rows.spaceNoneRow.lifted == Tryz.prog.liftsFinal) = true := by kernel_rfl
theorem fact28 : (Program.make Tryz.prog == some Rows.spaceNoneRow.make) = true := by kernel_rfl
theorem fact30 : (Rows.spaceNoneRow.pinned == Rows.spaceNoneRow.pinnedBy) = true := by kernel_rfl
theorem fact31 : (Rows.spaceNoneRow.veiled == (Tryz.f6.params.toList ++ Rows.spaceNoneSpec.plain.varTypes Tryz.prog ++ Tryz.f6.resultTypes.toList).any (Program.veiledRec Tryz.prog ·)) = true := by kernel_rfl
theorem fact32 : Rows.spaceNoneRow.veiledFits Tryz.prog Tryz.f6.params.toList (Tryz.f6.params.toList ++ Rows.spaceNoneSpec.plain.varTypes Tryz.prog ++ Tryz.f6.resultTypes.toList) = true := by kernel_rfl
theorem facts : joinedFacts Tryz.prog 6 Tryz.f6 Rows.spaceNoneSpec Rows.spaceNoneRow = true := by
  unfold joinedFacts
  simp only [Bool.and_eq_true]
  exact ⟨⟨⟨⟨⟨⟨⟨⟨⟨⟨⟨⟨⟨⟨⟨⟨⟨⟨⟨⟨⟨⟨⟨⟨⟨⟨⟨⟨⟨⟨⟨fact1, fact2⟩, fact3⟩, fact4⟩, fact5⟩, fact6⟩, fact7⟩, fact8⟩, fact9⟩, fact10⟩, fact11⟩, fact12⟩, fact13⟩, fact14⟩, fact15⟩, fact16⟩, fact17⟩, fact18⟩, fact19⟩, fact20⟩, fact21⟩, fact22⟩, fact23⟩, fact24⟩, fact25⟩, fact26⟩, fact27⟩, fact28⟩, (by kernel_rfl)⟩, fact30⟩, fact31⟩, fact32⟩
end Go.Proofs.YtkmjkicjlkchcaaGreatDoor.spaceNoneDone
