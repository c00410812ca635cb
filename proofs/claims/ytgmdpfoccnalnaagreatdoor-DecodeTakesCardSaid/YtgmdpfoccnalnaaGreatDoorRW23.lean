/- The law DecodeTakes answers true at every input, and its arguments read behind the call as they read before. The two tables of unicode/utf8 are as the program's text lays them. There are no other conditions. -/
import Derived.Test.YtgmdpfoccnalnaaGreatDoorE8
set_option linter.unusedSimpArgs false
set_option linter.unusedVariables false
set_option maxRecDepth 100000
namespace Go.Proofs.YtgmdpfoccnalnaaGreatDoor.decodeTakesDone
open Go.Sy Go.RowKit Go.ChangeShapes Go.WideShapes Go.ChangeAt

structure AskV where
  name : List UInt8
  v : Val
def AskV.c (x : AskV) : List AV := .s x.name :: Val.c x.v
theorem opAskV : OpensT Tryz.prog 46 AskV.c (fun _ => True) :=
  opens_struct (α := List UInt8 × Val × Unit) (fun p => (⟨p.1, p.2.1⟩ : AskV)) Tryz.underlying46 (by kernel_rfl)
    (opensF_cons (sz := 1) rfl (by kernel_rfl) (opens_string Tryz.underlying9) (opensF_cons (sz := 5) rfl (by kernel_rfl) opVal opensF_nil)) (fun _ => rfl) (fun _ _ => trivial)
theorem opens : OpensA Tryz.prog [22, 22, 46] (fun p : List Dcl × List Dcl × AskV × Unit => [SL 5 Dcl.c p.1, SL 5 Dcl.c p.2.1, .agg (AskV.c p.2.2.1)]) (fun p => (p.1.length ≤ maxLen ∧ ∀ i, i < p.1.length → True) ∧ (p.2.1.length ≤ maxLen ∧ ∀ i, i < p.2.1.length → True) ∧ True ∧ True) :=
  opensA_cons opDcls (opensA_cons opDcls (opensA_cons (opensV_struct Tryz.underlying46 opAskV) opensA_nil))

theorem lifted (os : Os) (started : os.Started) (H : Type) (enc : TypeId × Value → H) :
    ReturnsInHanded {} Tryz.checked os 5 .any (fun w args => (Rows.decodeTakesSpec.pre enc Tryz.prog Tryz.f5 [] false w args ∧ laidMetH Tryz.prog Rows.decodeTakesRow.laid w) ∧ sizedMet enc Tryz.prog Tryz.f5 (OpenSpec.ofChange Rows.decodeTakesSpec) false w args)
      (Rows.decodeTakesSpec.post enc Tryz.prog Tryz.f5 false true false false) := by
  refine handed_laid_shaped (C := Tryz.checked) (Y := fun w => laidMetH Tryz.prog Rows.decodeTakesRow.laid w) (fun _ _ hh h => h.of_heap hh) own started (by kernel_rfl) Tryz.func5
    (ChangeSpec.witness_shaped (enc := enc) (C := Tryz.checked) (os := os) (X := fun w _ => laidMetH Tryz.prog Rows.decodeTakesRow.laid w) false (World.laidAll Tryz.prog os Rows.decodeTakesRow.laid) #[.slice none 0 0, .slice none 0 0, .agg #[.string ⟨#[]⟩, .int .i64 0, .int .i64 0, .string ⟨#[]⟩, .slice none 0 0, .slice none 0 0]] 8 (World.laidAll_os _ _ _)
      (World.shaped_of_ZipB (by kernel_rfl) (by kernel_rfl)) (by kernel_rfl) (by kernel_rfl) (by kernel_rfl)
      (by rw [MakeChecks.laidMetH_plain _ _ _ (by kernel_rfl)]; exact laidMet_laidAll _ (by kernel_rfl) (by kernel_rfl))) ?_
  intro W base args ds gs before hval hW hL hsh
  rw [MakeChecks.laidMetH_plain _ _ _ (by kernel_rfl)] at hL
  obtain ⟨m, hk⟩ := known hsh hL (by simp [Rows.decodeTakesRow]) (by simp [Rows.decodeTakesRow])
  refine law_callK (P := Tryz.prog) (f := 5) (s := Rows.decodeTakesSpec) (tb := 4) (cs := [glbA m, tabA]) W (congrArg Array.toList Tryz.params5) (by kernel_rfl) Tryz.underlying4 rfl ?_ opens laidOut ?_ rfl hk ?_ enc base args ds gs before hval hW
  · intro H ds h
    match ds, h with
    | [a, b, c], _ => rfl
  · intro t ht
    simp only [List.mem_cons, List.not_mem_nil, or_false] at ht
    rcases ht with rfl | rfl | rfl <;> exact ⟨by kernel_rfl, of_decide_eq_true (by kernel_rfl)⟩
  · intro p hp
    exact decodeTakes_A m p.1 p.2.1 p.2.2.1.v p.2.2.1.name

theorem said : Rows.DecodeTakesSaid :=
  OpenClaim.holds_of_wide 5 Tryz.f5 rfl rfl rfl rfl rfl rfl rfl ⟨rfl, rfl, rfl, rfl, rfl⟩ rfl rfl rfl rfl rfl (by kernel_rfl) Tryz.func5 facts
    (of_decide_eq_true (by kernel_rfl)) (by unfold Func.isWrapper; first | (rw [if_pos (by decide +kernel)]; kernel_rfl) | (rw [if_neg (by decide +kernel)]; exact ⟨rfl, rfl⟩))
    (fun os started H enc _ => lifted os started H enc)

/-- No parameter wants a stand-in; the program's own looks are off. -/
theorem plain (f : FuncId) (fn : Func) (hf : Tryz.pinned.checked.prog.funcNamed "concourse/concourselaw18.DecodeTakes" = some f) (hfn : Tryz.pinned.checked.prog.funcs[f]? = some fn) :
    true = Tryz.pinned.checked.prog.looks [] ∧ ∀ (j : Nat) t, fn.params[j]? = some t → Tryz.pinned.checked.prog.wantsStandIn t = false := by
  obtain rfl : f = 5 := Option.some.inj ((show Tryz.prog.funcNamed "concourse/concourselaw18.DecodeTakes" = some 5 by kernel_rfl).symm.trans hf) |>.symm
  obtain rfl : fn = Tryz.f5 := (Option.some.inj (Tryz.func5.symm.trans hfn)).symm
  refine ⟨by kernel_rfl, fun j t ht => ?_⟩
  rw [Tryz.params5] at ht
  have hm : t ∈ [22, 22, 46] := by simpa using Array.mem_of_getElem? ht
  have hall : ([22, 22, 46].all fun u => !Tryz.prog.wantsStandIn u) = true := by kernel_rfl
  exact (show Tryz.prog.wantsStandIn t = false by simpa using List.all_eq_true.1 hall t hm)

/-- THE STATEMENT: THE CARD. -/
theorem proved : Rows.DecodeTakesCardSaid :=
  Claim7.holds_tied_plain_at .later [] _ _ _ _ said (fun _ h => by cases h) (by kernel_rfl) (fun _ h => by cases h) decodeTakes_row_tie rfl ⟨rfl, rfl⟩ (by kernel_rfl) rfl plain (by kernel_rfl)
#print axioms proved
end Go.Proofs.YtgmdpfoccnalnaaGreatDoor.decodeTakesDone
