/- The law TallyNone answers true at every input, and its arguments read behind the call as they read before. The tables of unicode/utf8, of strconv and of math/bits that the row lists are as the program's text lays them. There are no other conditions. -/
import Derived.Test.YtloefdcbeakibaaGreatDoorC5
import Derived.Test.YtloefdcbeakibaaGreatDoorC7
import Derived.Test.YtloefdcbeakibaaGreatDoorC8
import Derived.Test.YtloefdcbeakibaaGreatDoorC9
set_option linter.unusedSimpArgs false
set_option linter.unusedVariables false
set_option maxRecDepth 100000
namespace Go.Proofs.YtloefdcbeakibaaGreatDoor.tallyNoneDone
open Go.Sy Go.RowKit Go.ChangeShapes Go.WideShapes Go.ChangeAt

theorem lifted (os : Os) (started : os.Started) (H : Type) (enc : TypeId × Value → H) :
    ReturnsInHanded {} Tryz.checked os 5 .any (fun w args => (Rows.tallyNoneSpec.pre enc Tryz.prog Tryz.f5 [] false w args ∧ laidMetH Tryz.prog Rows.tallyNoneRow.laid w) ∧ sizedMet enc Tryz.prog Tryz.f5 (OpenSpec.ofChange Rows.tallyNoneSpec) false w args)
      (Rows.tallyNoneSpec.post enc Tryz.prog Tryz.f5 false true false false) := by
  refine handed_laid_shaped (C := Tryz.checked) (Y := fun w => laidMetH Tryz.prog Rows.tallyNoneRow.laid w) (fun _ _ hh h => h.of_heap hh) own started (by kernel_rfl) Tryz.func5
    (ChangeSpec.witness_shaped (enc := enc) (C := Tryz.checked) (os := os) (X := fun w _ => laidMetH Tryz.prog Rows.tallyNoneRow.laid w) false (World.laidAll Tryz.prog os Rows.tallyNoneRow.laid) #[.agg #[.int .i64 0, .int .i64 0, .int .i64 0, .int .i64 0, .int .i64 0, .string ⟨#[]⟩, .int .i64 0, .string ⟨#[]⟩], .agg #[.int .i64 0, .int .i64 0, .string ⟨#[]⟩, .bool false], .int .i64 0] 8 (World.laidAll_os _ _ _)
      (World.shaped_of_ZipB (by kernel_rfl) (by kernel_rfl)) (by kernel_rfl) (by kernel_rfl) (by kernel_rfl)
      (by rw [MakeChecks.laidMetH_plain _ _ _ (by kernel_rfl)]; exact laidMet_laidAll _ (by kernel_rfl) (by kernel_rfl))) ?_
  intro W base args ds gs before hval hW hL hsh
  rw [MakeChecks.laidMetH_plain _ _ _ (by kernel_rfl)] at hL
  have hblk := pow_blk hsh hL (by simp only [Rows.tallyNoneRow, List.mem_cons]; first | exact .inl rfl | exact .inr (.inl rfl) | exact .inr (.inr (.inl rfl)) | exact .inr (.inr (.inr (.inl rfl))) | exact .inr (.inr (.inr (.inr (.inl rfl)))) | exact .inr (.inr (.inr (.inr (.inr (.inl rfl))))))
  refine law_callW (P := Tryz.prog) (f := 5) (s := Rows.tallyNoneSpec) (tb := 4) W hblk (congrArg Array.toList Tryz.params5) (by kernel_rfl) Tryz.underlying4 rfl ?_ opensN fact2 ?_ ?_ enc base args ds gs before hval hW
  · intro H ds h
    match ds, h with
    | [a, b, c], _ => rfl
  · intro t ht
    simp only [List.mem_cons, List.not_mem_nil, or_false] at ht
    rcases ht with rfl | rfl | rfl <;> exact ⟨by kernel_rfl, of_decide_eq_true (by kernel_rfl)⟩
  · rintro ⟨x, o, n, u⟩ _
    exact tallyNone_W x o n

theorem said : Rows.TallyNoneSaid :=
  OpenClaim.holds_of_wide 5 Tryz.f5 rfl rfl rfl rfl rfl rfl rfl ⟨rfl, rfl, rfl, rfl, rfl⟩ rfl rfl rfl rfl rfl (by kernel_rfl) Tryz.func5 facts
    (of_decide_eq_true (by kernel_rfl)) (by unfold Func.isWrapper; first | (rw [if_pos (by decide +kernel)]; kernel_rfl) | (rw [if_neg (by decide +kernel)]; exact ⟨rfl, rfl⟩))
    (fun os started H enc _ => lifted os started H enc)

/-- No parameter wants a stand-in; the program's own looks are off. -/
theorem plain (f : FuncId) (fn : Func) (hf : Tryz.pinned.checked.prog.funcNamed "concourse/concourselaw49.TallyNone" = some f) (hfn : Tryz.pinned.checked.prog.funcs[f]? = some fn) :
    true = Tryz.pinned.checked.prog.looks [] ∧ ∀ (j : Nat) t, fn.params[j]? = some t → Tryz.pinned.checked.prog.wantsStandIn t = false := by
  obtain rfl : f = 5 := Option.some.inj ((show Tryz.prog.funcNamed "concourse/concourselaw49.TallyNone" = some 5 by kernel_rfl).symm.trans hf) |>.symm
  obtain rfl : fn = Tryz.f5 := (Option.some.inj (Tryz.func5.symm.trans hfn)).symm
  refine ⟨by kernel_rfl, fun j t ht => ?_⟩
  rw [Tryz.params5] at ht
  have hm : t ∈ [36, 39, 3] := by simpa using Array.mem_of_getElem? ht
  have hall : ([36, 39, 3].all fun u => !Tryz.prog.wantsStandIn u) = true := by kernel_rfl
  exact (show Tryz.prog.wantsStandIn t = false by simpa using List.all_eq_true.1 hall t hm)

/-- THE STATEMENT: THE CARD. -/
theorem proved : Rows.TallyNoneCardSaid :=
  Claim7.holds_tied_plain_at .later [] _ _ _ _ said (fun _ h => by cases h) (by kernel_rfl) (fun _ h => by cases h) tallyNone_row_tie rfl ⟨rfl, rfl⟩ (by kernel_rfl) rfl plain (goes_none noGo _ rfl)
#print axioms proved
end Go.Proofs.YtloefdcbeakibaaGreatDoor.tallyNoneDone
