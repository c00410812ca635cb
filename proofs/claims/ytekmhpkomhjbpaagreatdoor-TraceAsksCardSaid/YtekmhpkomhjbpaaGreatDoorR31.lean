/- The law TraceAsks answers true at every input, and its arguments read behind the call as they read before. The two tables of unicode/utf8 are as the program's text lays them. There are no other conditions. -/
import Derived.Test.YtekmhpkomhjbpaaGreatDoorE5
import Derived.Test.YtekmhpkomhjbpaaGreatDoorE10
import Derived.Test.YtekmhpkomhjbpaaGreatDoorE11
set_option linter.unusedSimpArgs false
set_option linter.unusedVariables false
set_option maxRecDepth 100000
namespace Go.Proofs.YtekmhpkomhjbpaaGreatDoor.traceAsksDone
open Go.Sy Go.RowKit Go.ChangeShapes Go.WideShapes Go.ChangeAt

theorem opNte : OpensT Tryz.prog 41 Nte.c (fun x => x.body.length ≤ maxLen) :=
  opens_struct (α := Int × Int × Int × List UInt8 × Int × List UInt8 × Unit) (fun p => (⟨p.1, p.2.1, p.2.2.1, p.2.2.2.1, p.2.2.2.2.1, p.2.2.2.2.2.1⟩ : Nte)) Tryz.underlying41 (by kernel_rfl)
    (opensF_cons (sz := 1) rfl (by kernel_rfl) (opens_int Tryz.underlying3) (opensF_cons (sz := 1) rfl (by kernel_rfl) (opens_int Tryz.underlying3) (opensF_cons (sz := 1) rfl (by kernel_rfl) (opens_int Tryz.underlying3)
      (opensF_cons (sz := 1) rfl (by kernel_rfl) (opens_string Tryz.underlying9) (opensF_cons (sz := 1) rfl (by kernel_rfl) (opens_int Tryz.underlying33) (opensF_cons (sz := 1) rfl (by kernel_rfl) (opens_string Tryz.underlying9) opensF_nil)))))) (fun _ => rfl) (fun _ h => h.2.2.2.1)
theorem opRw : OpensT Tryz.prog 43 Rw.c (fun x => x.note.body.length ≤ maxLen) :=
  opens_struct (α := Int × Int × Nte × Unit) (fun p => (⟨p.1, p.2.1, p.2.2.1⟩ : Rw)) Tryz.underlying43 (by kernel_rfl)
    (opensF_cons (sz := 1) rfl (by kernel_rfl) (opens_int Tryz.underlying3) (opensF_cons (sz := 1) rfl (by kernel_rfl) (opens_int Tryz.underlying3) (opensF_cons (sz := 6) rfl (by kernel_rfl) opNte opensF_nil))) (fun _ => rfl) (fun _ h => h.2.2.1)
theorem opens : OpensA Tryz.prog [22, 3] (fun p : List Rw × Int × Unit => [SL 8 Rw.c p.1, I64 p.2.1]) (fun p => (p.1.length ≤ maxLen ∧ ∀ i, i < p.1.length → (p.1.getD i default).note.body.length ≤ maxLen) ∧ (Lit.int .i64 p.2.1).wf = true ∧ True) :=
  opensA_cons (opensV_slice (esz := 8) (cells := Rw.c) Tryz.underlying22 (by kernel_rfl) (of_decide_eq_true rfl) (fun _ => rfl) opRw) (opensA_cons (opensV_int Tryz.underlying3) opensA_nil)

theorem lifted (os : Os) (started : os.Started) (H : Type) (enc : TypeId × Value → H) :
    ReturnsInHanded {} Tryz.checked os 3 .any (fun w args => (Rows.traceAsksSpec.pre enc Tryz.prog Tryz.f3 [] false w args ∧ laidMetH Tryz.prog Rows.traceAsksRow.laid w) ∧ sizedMet enc Tryz.prog Tryz.f3 (OpenSpec.ofChange Rows.traceAsksSpec) false w args)
      (Rows.traceAsksSpec.post enc Tryz.prog Tryz.f3 false true false false) := by
  refine handed_laid_shaped (C := Tryz.checked) (Y := fun w => laidMetH Tryz.prog Rows.traceAsksRow.laid w) (fun _ _ hh h => h.of_heap hh) own started (by kernel_rfl) Tryz.func3
    (ChangeSpec.witness_shaped (enc := enc) (C := Tryz.checked) (os := os) (X := fun w _ => laidMetH Tryz.prog Rows.traceAsksRow.laid w) false (World.laidAll Tryz.prog os Rows.traceAsksRow.laid) #[.slice none 0 0, .int .i64 0] 8 (World.laidAll_os _ _ _)
      (World.shaped_of_ZipB (by kernel_rfl) (by kernel_rfl)) (by kernel_rfl) (by kernel_rfl) (by kernel_rfl)
      (by rw [MakeChecks.laidMetH_plain _ _ _ (by kernel_rfl)]; exact laidMet_laidAll _ (by kernel_rfl) (by kernel_rfl))) ?_
  intro W base args ds gs before hval hW hL hsh
  refine law_call (P := Tryz.prog) (f := 3) (s := Rows.traceAsksSpec) (tb := 4) (congrArg Array.toList Tryz.params3) (by kernel_rfl) Tryz.underlying4 rfl ?_ opens fact2 ?_ ?_ enc W base args ds gs before hval hW
  · intro H ds h
    match ds, h with
    | [a, b], _ => rfl
  · intro t ht
    simp only [List.mem_cons, List.not_mem_nil, or_false] at ht
    rcases ht with rfl | rfl <;> exact ⟨by kernel_rfl, of_decide_eq_true (by kernel_rfl)⟩
  · rintro ⟨l, o, u⟩ ⟨⟨h1, h2⟩, _⟩
    exact traceAsks_c l h2 h1 o

theorem said : Rows.TraceAsksSaid :=
  OpenClaim.holds_of_wide 3 Tryz.f3 rfl rfl rfl rfl rfl rfl rfl ⟨rfl, rfl, rfl, rfl, rfl⟩ rfl rfl rfl rfl rfl (by kernel_rfl) Tryz.func3 facts
    (of_decide_eq_true (by kernel_rfl)) (by unfold Func.isWrapper; first | (rw [if_pos (by decide +kernel)]; kernel_rfl) | (rw [if_neg (by decide +kernel)]; exact ⟨rfl, rfl⟩))
    (fun os started H enc _ => lifted os started H enc)

/-- No parameter wants a stand-in; the program's own looks are off. -/
theorem plain (f : FuncId) (fn : Func) (hf : Tryz.pinned.checked.prog.funcNamed "concourse/concourselaw45.TraceAsks" = some f) (hfn : Tryz.pinned.checked.prog.funcs[f]? = some fn) :
    true = Tryz.pinned.checked.prog.looks [] ∧ ∀ (j : Nat) t, fn.params[j]? = some t → Tryz.pinned.checked.prog.wantsStandIn t = false := by
  obtain rfl : f = 3 := Option.some.inj ((show Tryz.prog.funcNamed "concourse/concourselaw45.TraceAsks" = some 3 by kernel_rfl).symm.trans hf) |>.symm
  obtain rfl : fn = Tryz.f3 := (Option.some.inj (Tryz.func3.symm.trans hfn)).symm
  refine ⟨by kernel_rfl, fun j t ht => ?_⟩
  rw [Tryz.params3] at ht
  have hm : t ∈ [22, 3] := by simpa using Array.mem_of_getElem? ht
  have hall : ([22, 3].all fun u => !Tryz.prog.wantsStandIn u) = true := by kernel_rfl
  exact (show Tryz.prog.wantsStandIn t = false by simpa using List.all_eq_true.1 hall t hm)

/-- THE STATEMENT: THE CARD. -/
theorem proved : Rows.TraceAsksCardSaid :=
  Claim7.holds_tied_plain_at .later [] _ _ _ _ said (fun _ h => by cases h) (by kernel_rfl) (fun _ h => by cases h) traceAsks_row_tie rfl ⟨rfl, rfl⟩ (by kernel_rfl) rfl plain (goes_none noGo _ rfl)
#print axioms proved
end Go.Proofs.YtekmhpkomhjbpaaGreatDoor.traceAsksDone
