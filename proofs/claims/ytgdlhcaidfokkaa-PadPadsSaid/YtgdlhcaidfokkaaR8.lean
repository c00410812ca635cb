/- The law PadPads answers true at every input, and its arguments read behind the call as they read before. There are no conditions. -/
import Derived.Test.YtgdlhcaidfokkaaSy14
import Derived.Test.YtgdlhcaidfokkaaT12
import Derived.Test.YtgdlhcaidfokkaaRows
set_option linter.unusedSimpArgs false
set_option linter.unusedVariables false
namespace Go.Proofs.Ytgdlhcaidfokkaa.padPadsDone
open Go.Sy Go.RowKit Go.ChangeShapes Go.WideShapes Go.ChangeAt

theorem own : ownKnob Try.prog.godebug = none := by kernel_rfl
theorem laidOut : laidOutB Try.prog = true := by kernel_rfl

theorem opens : OpensA Try.prog [9, 3] (fun p : List UInt8 × Int × Unit => [.s p.1, I64 p.2.1]) (fun p => p.1.length ≤ maxLen ∧ (Lit.int .i64 p.2.1).wf = true ∧ True) :=
  opensA_cons (opensV_string Try.underlying9) (opensA_cons (opensV_int Try.underlying3) opensA_nil)

set_option maxRecDepth 100000 in
theorem lifted (os : Os) (started : os.Started) (H : Type) (enc : TypeId × Value → H) :
    ReturnsInHanded {} Try.checked os 8 .any (Rows.padPadsSpec.pre6 enc Try.prog Try.f8 Rows.padPadsRow.domain false) (Rows.padPadsSpec.post enc Try.prog Try.f8 false true false false) := by
  refine returnsInHanded_of_change (C := Try.checked) own started (by kernel_rfl) Try.func8
    (ChangeSpec.witness6 (enc := enc) (C := Try.checked) false ⟨#[], #[.string ⟨#[]⟩, .int .i64 0], []⟩ 8 (by kernel_rfl) (by kernel_rfl) (by kernel_rfl) (by kernel_rfl)) ?_
  intro W base args ds gs before hval hW _ _
  refine law_call (P := Try.prog) (f := 8) (s := Rows.padPadsSpec) (tb := 4) (congrArg Array.toList Try.params8) (by kernel_rfl) Try.underlying4 rfl ?_ opens laidOut ?_ ?_ enc W base args ds gs before hval hW
  · intro H ds h
    match ds, h with
    | [a, b], _ => rfl
  · intro t ht
    simp only [List.mem_cons, List.not_mem_nil, or_false] at ht
    rcases ht with rfl | rfl <;> exact ⟨by kernel_rfl, of_decide_eq_true (by kernel_rfl)⟩
  · intro p hp
    exact law07_p p.1 p.2.1

theorem over : Rows.padPadsRow.holds Try.pinned (OpenSpec.ofChange Rows.padPadsSpec) :=
  OpenClaim.holds_of_wide 8 Try.f8 rfl rfl rfl rfl rfl rfl rfl ⟨rfl, rfl, rfl, rfl, rfl⟩ rfl rfl rfl rfl rfl (by kernel_rfl) Try.func8 (by kernel_rfl)
    (of_decide_eq_true (by kernel_rfl)) (by unfold Func.isWrapper; first | (rw [if_pos (by decide +kernel)]; kernel_rfl) | (rw [if_neg (by decide +kernel)]; exact ⟨rfl, rfl⟩))
    (fun os started H enc _ => lifted os started H enc)

/-- THE STATEMENT. -/
theorem proved : Rows.PadPadsSaid := over
#print axioms proved
end Go.Proofs.Ytgdlhcaidfokkaa.padPadsDone
