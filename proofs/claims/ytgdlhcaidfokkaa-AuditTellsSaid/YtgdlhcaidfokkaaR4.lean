/- The law AuditTells answers true at every input, and its arguments read behind the call as they read before. There are no conditions. -/
import Derived.Test.YtgdlhcaidfokkaaSy14
import Derived.Test.YtgdlhcaidfokkaaT9
import Derived.Test.YtgdlhcaidfokkaaRows
set_option linter.unusedSimpArgs false
set_option linter.unusedVariables false
namespace Go.Proofs.Ytgdlhcaidfokkaa.auditTellsDone
open Go.Sy Go.RowKit Go.ChangeShapes Go.WideShapes Go.ChangeAt

theorem own : ownKnob Try.prog.godebug = none := by kernel_rfl
theorem laidOut : laidOutB Try.prog = true := by kernel_rfl

theorem opConf : OpensT Try.prog 30 (fun p : Int × Int × Int × Int × Int × Int × Int × Int × Int × Unit => [I64 p.1, I64 p.2.1, I64 p.2.2.1, I64 p.2.2.2.1, I64 p.2.2.2.2.1, I64 p.2.2.2.2.2.1, I64 p.2.2.2.2.2.2.1, I64 p.2.2.2.2.2.2.2.1, I64 p.2.2.2.2.2.2.2.2.1]) (fun _ => True) :=
  opens_struct (α := Int × Int × Int × Int × Int × Int × Int × Int × Int × Unit) id Try.underlying30 (by kernel_rfl) (opensF_cons (sz := 1) rfl (by kernel_rfl) (opens_int Try.underlying3) (opensF_cons (sz := 1) rfl (by kernel_rfl) (opens_int Try.underlying3) (opensF_cons (sz := 1) rfl (by kernel_rfl) (opens_int Try.underlying3) (opensF_cons (sz := 1) rfl (by kernel_rfl) (opens_int Try.underlying3) (opensF_cons (sz := 1) rfl (by kernel_rfl) (opens_int Try.underlying3) (opensF_cons (sz := 1) rfl (by kernel_rfl) (opens_int Try.underlying3) (opensF_cons (sz := 1) rfl (by kernel_rfl) (opens_int Try.underlying3) (opensF_cons (sz := 1) rfl (by kernel_rfl) (opens_int Try.underlying3) (opensF_cons (sz := 1) rfl (by kernel_rfl) (opens_int Try.underlying3) opensF_nil))))))))) (fun _ => rfl) (ok2 := fun _ => True) (fun _ _ => trivial)

theorem opView : OpensT Try.prog 37 Vw.cells (fun _ => True) :=
  opens_struct (α := (Int × Int × Int × Int × Int × Int × Int × Int × Int × Unit) × Int × Int × Int × Int × Int × Int × Int × Int × Int × Int × Unit) (fun p => ⟨p.1.1, p.1.2.1, p.1.2.2.1, p.1.2.2.2.1, p.1.2.2.2.2.1, p.1.2.2.2.2.2.1, p.1.2.2.2.2.2.2.1, p.1.2.2.2.2.2.2.2.1, p.1.2.2.2.2.2.2.2.2.1, p.2.1, p.2.2.1, p.2.2.2.1, p.2.2.2.2.1, p.2.2.2.2.2.1, p.2.2.2.2.2.2.1, p.2.2.2.2.2.2.2.1, p.2.2.2.2.2.2.2.2.1, p.2.2.2.2.2.2.2.2.2.1, p.2.2.2.2.2.2.2.2.2.2.1⟩) Try.underlying37 (by kernel_rfl)
    (opensF_cons (sz := 9) rfl (by kernel_rfl) opConf (opensF_cons (sz := 1) rfl (by kernel_rfl) (opens_int Try.underlying3) (opensF_cons (sz := 1) rfl (by kernel_rfl) (opens_int Try.underlying3) (opensF_cons (sz := 1) rfl (by kernel_rfl) (opens_int Try.underlying3) (opensF_cons (sz := 1) rfl (by kernel_rfl) (opens_int Try.underlying3) (opensF_cons (sz := 1) rfl (by kernel_rfl) (opens_int Try.underlying3) (opensF_cons (sz := 1) rfl (by kernel_rfl) (opens_int Try.underlying3) (opensF_cons (sz := 1) rfl (by kernel_rfl) (opens_int Try.underlying3) (opensF_cons (sz := 1) rfl (by kernel_rfl) (opens_int Try.underlying3) (opensF_cons (sz := 1) rfl (by kernel_rfl) (opens_int Try.underlying3) (opensF_cons (sz := 1) rfl (by kernel_rfl) (opens_int Try.underlying3) opensF_nil)))))))))))
    (fun _ => rfl) (fun _ _ => trivial)

theorem opens : OpensA Try.prog [3, 27] (fun p : Int × List Vw × Unit => [I64 p.1, SL 19 Vw.cells p.2.1]) (fun p => (Lit.int .i64 p.1).wf = true ∧ (p.2.1.length ≤ maxLen ∧ ∀ i, i < p.2.1.length → True) ∧ True) :=
  opensA_cons (opensV_int Try.underlying3) (opensA_cons (opensV_slice (esz := 19) (cells := Vw.cells) (ok := fun _ => True) Try.underlying27 (by kernel_rfl) (of_decide_eq_true rfl) (fun _ => rfl) opView) opensA_nil)

set_option maxRecDepth 100000 in
theorem lifted (os : Os) (started : os.Started) (H : Type) (enc : TypeId × Value → H) :
    ReturnsInHanded {} Try.checked os 4 .any (Rows.auditTellsSpec.pre6 enc Try.prog Try.f4 Rows.auditTellsRow.domain false) (Rows.auditTellsSpec.post enc Try.prog Try.f4 false true false false) := by
  refine returnsInHanded_of_change (C := Try.checked) own started (by kernel_rfl) Try.func4
    (ChangeSpec.witness6 (enc := enc) (C := Try.checked) false ⟨#[], #[.int .i64 0, .slice none 0 0], []⟩ 8 (by kernel_rfl) (by kernel_rfl) (by kernel_rfl) (by kernel_rfl)) ?_
  intro W base args ds gs before hval hW _ _
  refine law_call (P := Try.prog) (f := 4) (s := Rows.auditTellsSpec) (tb := 4) (congrArg Array.toList Try.params4) (by kernel_rfl) Try.underlying4 rfl ?_ opens laidOut ?_ ?_ enc W base args ds gs before hval hW
  · intro H ds h
    match ds, h with
    | [a, b], _ => rfl
  · intro t ht
    simp only [List.mem_cons, List.not_mem_nil, or_false] at ht
    rcases ht with rfl | rfl <;> exact ⟨by kernel_rfl, of_decide_eq_true (by kernel_rfl)⟩
  · intro p hp
    exact law48_c p.1 p.2.1 (Nat.le_trans hp.2.1.1 (by decide))

theorem over : Rows.auditTellsRow.holds Try.pinned (OpenSpec.ofChange Rows.auditTellsSpec) :=
  OpenClaim.holds_of_wide 4 Try.f4 rfl rfl rfl rfl rfl rfl rfl ⟨rfl, rfl, rfl, rfl, rfl⟩ rfl rfl rfl rfl rfl (by kernel_rfl) Try.func4 (by kernel_rfl)
    (of_decide_eq_true (by kernel_rfl)) (by unfold Func.isWrapper; first | (rw [if_pos (by decide +kernel)]; kernel_rfl) | (rw [if_neg (by decide +kernel)]; exact ⟨rfl, rfl⟩))
    (fun os started H enc _ => lifted os started H enc)

/-- THE STATEMENT. -/
theorem proved : Rows.AuditTellsSaid := over
#print axioms proved
end Go.Proofs.Ytgdlhcaidfokkaa.auditTellsDone
