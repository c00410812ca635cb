/- The closed facts of the row, limb by limb. -/
import Derived.JoinedOf
import Derived.HandedShaped
import Derived.Test.YtpkbclagmkgpkaaGreatDoorRows
set_option maxRecDepth 100000
namespace Go.Proofs.YtpkbclagmkgpkaaGreatDoor.deskReadsDone
open Go.ChangeShapes Go.WideShapes

theorem fact1 : Rows.deskReadsRow.wf (OpenSpec.ofChange Rows.deskReadsSpec) = true := by kernel_rfl
theorem fact2a : (List.range Tryz.prog.types.size).all (rowFine Tryz.prog) = true := by kernel_rfl
theorem fact2b : Tryz.prog.globals.all (fun g => decide (g.type < Tryz.prog.types.size)) = true := by kernel_rfl
theorem fact2c : Tryz.prog.funcs.all (fun f => f.params.all fun t => decide (t < Tryz.prog.types.size)) = true := by kernel_rfl
theorem fact2 : laidOutB Tryz.prog = true := by
  unfold laidOutB
  rw [fact2a, fact2b, fact2c]
  rfl
theorem fact3 : mapsRowed Tryz.prog = true := by kernel_rfl
theorem fact4 : Tryz.f3.params.all (Program.readableRec Tryz.prog ·) = true := by kernel_rfl
theorem fact5 : namedTie Tryz.prog Rows.deskReadsRow.named Rows.deskReadsSpec.vars = true := by kernel_rfl
theorem fact6 : (Rows.deskReadsRow.stops == []) = true := by kernel_rfl
theorem fact7 : (Tryz.prog.stops == []) = true := by kernel_rfl
theorem fact8 : (Rows.deskReadsRow.knobs == []) = true := by kernel_rfl
theorem fact9 : (Tryz.prog.stopKnobs == []) = true := by kernel_rfl
theorem fact10 : (Rows.deskReadsRow.inPlace == Tryz.prog.inPlace 3) = true := by kernel_rfl
theorem fact11 : (Rows.deskReadsRow.unfollowed == Tryz.prog.unfollowed 3) = true := by kernel_rfl
theorem fact12 : (Rows.deskReadsRow.recurses == Tryz.prog.recurses 3) = true := by kernel_rfl
theorem fact13 : (Rows.deskReadsRow.named == Tryz.prog.varsNamed 3) = true := by kernel_rfl
theorem fact14 : (Rows.deskReadsRow.maps == (Tryz.f3.params.toList ++ Rows.deskReadsSpec.plain.varTypes Tryz.prog).any (Program.mapsRec Tryz.prog ·)) = true := by kernel_rfl
theorem fact15 : (Rows.deskReadsRow.ifaces == (Tryz.f3.params.toList ++ Rows.deskReadsSpec.plain.varTypes Tryz.prog).any (Program.ifacesRec Tryz.prog ·)) = true := by kernel_rfl
theorem fact16 : (Rows.deskReadsRow.mapsOut == Program.mapsAmong Tryz.prog Tryz.f3.resultTypes.toList) = true := by kernel_rfl
theorem fact17 : (Rows.deskReadsRow.loops == (Tryz.f3.params.toList ++ Rows.deskReadsSpec.plain.varTypes Tryz.prog).any (Program.loopsFrom Tryz.prog ·)) = true := by kernel_rfl
theorem fact18 : (Rows.deskReadsRow.wideKeys == (Tryz.f3.params.toList ++ Rows.deskReadsSpec.plain.varTypes Tryz.prog ++ Tryz.f3.resultTypes.toList).any (Program.wideKeysFrom Tryz.prog ·)) = true := by kernel_rfl
theorem fact19 : Rows.deskReadsSpec.vars.all (Program.varReadable Tryz.prog ·) = true := by kernel_rfl
theorem fact20 : Tryz.f3.resultTypes.all (fun t => Program.readableRec Tryz.prog t && decide (t < Tryz.prog.types.size)) = true := by kernel_rfl
theorem fact21 : (Rows.deskReadsRow.ifacesOut == Tryz.f3.resultTypes.toList.any (Program.ifacesRec Tryz.prog ·)) = true := by kernel_rfl
theorem fact22 : (Rows.deskReadsRow.loopsOut == Tryz.f3.resultTypes.toList.any (Program.loopsFrom Tryz.prog ·)) = true := by kernel_rfl
theorem fact23 : (Rows.deskReadsRow.plainKeys == Tryz.prog.plainKeys) = true := by kernel_rfl
theorem fact24 : Rows.deskReadsRow.shortTexts.isNone = true := by kernel_rfl
theorem fact25 : Tryz.prog.stopsHeard = true := by kernel_rfl
theorem fact26 : Tryz.prog.mayEnter = true := by kernel_rfl
theorem fact27 : (Rows.deskReadsRow.lifted == Tryz.prog.liftsFinal) = true := by kernel_rfl
theorem fact28 : (Program.make Tryz.prog == some Rows.deskReadsRow.make) = true := by kernel_rfl
theorem fact30 : (Rows.deskReadsRow.pinned == Rows.deskReadsRow.pinnedBy) = true := by kernel_rfl
theorem fact31 : (Rows.deskReadsRow.veiled == (Tryz.f3.params.toList ++ Rows.deskReadsSpec.plain.varTypes Tryz.prog ++ Tryz.f3.resultTypes.toList).any (Program.veiledRec Tryz.prog ·)) = true := by kernel_rfl
theorem fact32 : Rows.deskReadsRow.veiledFits Tryz.prog Tryz.f3.params.toList (Tryz.f3.params.toList ++ Rows.deskReadsSpec.plain.varTypes Tryz.prog ++ Tryz.f3.resultTypes.toList) = true := by kernel_rfl
theorem facts : joinedFacts Tryz.prog 3 Tryz.f3 Rows.deskReadsSpec Rows.deskReadsRow = true := by
  unfold joinedFacts
  simp only [Bool.and_eq_true]
  exact ⟨⟨⟨⟨⟨⟨⟨⟨⟨⟨⟨⟨⟨⟨⟨⟨⟨⟨⟨⟨⟨⟨⟨⟨⟨⟨⟨⟨⟨⟨⟨fact1, fact2⟩, fact3⟩, fact4⟩, fact5⟩, fact6⟩, fact7⟩, fact8⟩, fact9⟩, fact10⟩, fact11⟩, fact12⟩, fact13⟩, fact14⟩, fact15⟩, fact16⟩, fact17⟩, fact18⟩, fact19⟩, fact20⟩, fact21⟩, fact22⟩, fact23⟩, fact24⟩, fact25⟩, fact26⟩, fact27⟩, fact28⟩, (by kernel_rfl)⟩, fact30⟩, fact31⟩, fact32⟩
end Go.Proofs.YtpkbclagmkgpkaaGreatDoor.deskReadsDone
