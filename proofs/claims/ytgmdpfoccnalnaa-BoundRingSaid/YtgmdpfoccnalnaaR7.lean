/- The law BoundRing answers true at every input, and its arguments read behind the call as they read before. There are no conditions. -/
import Derived.Test.YtgmdpfoccnalnaaE3
import Derived.Test.YtgmdpfoccnalnaaE8
import Derived.Test.YtgmdpfoccnalnaaRows
set_option linter.unusedSimpArgs false
set_option linter.unusedVariables false
namespace Go.Proofs.Ytgmdpfoccnalnaa.boundRingDone
open Go.Sy Go.RowKit Go.ChangeShapes Go.WideShapes Go.ChangeAt

theorem own : ownKnob Try.prog.godebug = none := by kernel_rfl
theorem laidOut : laidOutB Try.prog = true := by kernel_rfl

theorem opens : OpensA Try.prog [22, 22, 3] (fun p : List Int × List Int × Int × Unit => [SL 1 (fun x => [I64 x]) p.1, SL 1 (fun x => [I64 x]) p.2.1, I64 p.2.2.1]) (fun p => (p.1.length ≤ maxLen ∧ ∀ i, i < p.1.length → (Lit.int .i64 (p.1.getD i default)).wf = true) ∧ (p.2.1.length ≤ maxLen ∧ ∀ i, i < p.2.1.length → (Lit.int .i64 (p.2.1.getD i default)).wf = true) ∧ (Lit.int .i64 p.2.2.1).wf = true ∧ True) :=
  opensA_cons (opensV_slice Try.underlying22 (by kernel_rfl) Nat.one_pos (fun _ => rfl) (opens_int Try.underlying3)) (opensA_cons (opensV_slice Try.underlying22 (by kernel_rfl) Nat.one_pos (fun _ => rfl) (opens_int Try.underlying3)) (opensA_cons (opensV_int Try.underlying3) opensA_nil))

set_option maxRecDepth 100000 in
theorem lifted (os : Os) (started : os.Started) (H : Type) (enc : TypeId × Value → H) :
    ReturnsInHanded {} Try.checked os 3 .any (Rows.boundRingSpec.pre6 enc Try.prog Try.f3 Rows.boundRingRow.domain false) (Rows.boundRingSpec.post enc Try.prog Try.f3 false true false false) := by
  refine returnsInHanded_of_change (C := Try.checked) own started (by kernel_rfl) Try.func3
    (ChangeSpec.witness6 (enc := enc) (C := Try.checked) false ⟨#[], #[.slice none 0 0, .slice none 0 0, .int .i64 0], []⟩ 8 (by kernel_rfl) (by kernel_rfl) (by kernel_rfl) (by kernel_rfl)) ?_
  intro W base args ds gs before hval hW _ _
  refine law_call (P := Try.prog) (f := 3) (s := Rows.boundRingSpec) (tb := 4) (congrArg Array.toList Try.params3) (by kernel_rfl) Try.underlying4 rfl ?_ opens laidOut ?_ ?_ enc W base args ds gs before hval hW
  · intro H ds h
    match ds, h with
    | [a, b, c], _ => rfl
  · intro t ht
    simp only [List.mem_cons, List.not_mem_nil, or_false] at ht
    rcases ht with rfl | rfl | rfl <;> exact ⟨by kernel_rfl, of_decide_eq_true (by kernel_rfl)⟩
  · intro p hp
    exact ring_c p.1 p.2.1 p.2.2.1

theorem over : Rows.boundRingRow.holds Try.pinned (OpenSpec.ofChange Rows.boundRingSpec) :=
  OpenClaim.holds_of_wide 3 Try.f3 rfl rfl rfl rfl rfl rfl rfl ⟨rfl, rfl, rfl, rfl, rfl⟩ rfl rfl rfl rfl rfl (by kernel_rfl) Try.func3 (by kernel_rfl)
    (of_decide_eq_true (by kernel_rfl)) (by unfold Func.isWrapper; first | (rw [if_pos (by decide +kernel)]; kernel_rfl) | (rw [if_neg (by decide +kernel)]; exact ⟨rfl, rfl⟩))
    (fun os started H enc _ => lifted os started H enc)

/-- THE STATEMENT. -/
theorem proved : Rows.BoundRingSaid := over
#print axioms proved
end Go.Proofs.Ytgmdpfoccnalnaa.boundRingDone
