/- The law OpsFits answers true at every input, and its arguments read behind the call as they read before. There are no conditions. -/
import Derived.Test.YtgmdpfoccnalnaaE7
import Derived.Test.YtgmdpfoccnalnaaE11
import Derived.Test.YtgmdpfoccnalnaaRows
set_option linter.unusedSimpArgs false
set_option linter.unusedVariables false
set_option maxRecDepth 100000
namespace Go.Proofs.Ytgmdpfoccnalnaa.opsFitsDone
open Go.Sy Go.RowKit Go.ChangeShapes Go.WideShapes Go.ChangeAt

theorem own : ownKnob Try.prog.godebug = none := by kernel_rfl
theorem laidOut : laidOutB Try.prog = true := by kernel_rfl

theorem bTy : ∀ N, OpensB N Try.prog 71 Ty.c (fun _ => True)
  | 0 => OpensB.zero
  | N + 1 =>
    opensB_struct (α := Int × List UInt8 × List Ty × Unit) (fun p => (⟨p.1, p.2.1, p.2.2.1⟩ : Ty)) Try.underlying71 (by kernel_rfl)
      (opensFB_cons (sz := 1) rfl (by kernel_rfl) ((opens_int Try.underlying3).toB N) (opensFB_cons (sz := 1) rfl (by kernel_rfl) ((opens_string Try.underlying9).toB N)
        (opensFB_cons (sz := 1) rfl (by kernel_rfl) ((opensB_slice (esz := 3) (cells := Ty.c) (ok := fun _ => True) Try.underlying44 (by kernel_rfl) (of_decide_eq_true rfl) (fun _ => rfl) (bTy N)).mono (Nat.le_succ N)) opensFB_nil)))
      (fun x G ys h => by
        obtain ⟨k, nm, o, u⟩ := x
        simp only [List.cons_append, List.nil_append, Ty.c, RepIL] at h ⊢
        obtain ⟨z1, t1, e1, g1, h1, z2, t2, e2, g2, h2, z3, t3, e3, g3, h3, e4⟩ := h
        exact ⟨z1, t1, e1, g1, h1, z2, t2, e2, g2, h2, z3, t3, e3, repI_rows (fun i hi => (Ty.rows_eq _ i hi).symm) g3, h3, e4⟩) (fun _ _ => trivial)
theorem opTy : OpensT Try.prog 71 Ty.c (fun _ => True) := OpensT.ofB bTy
theorem opFld : OpensT Try.prog 73 Fld.c (fun _ => True) :=
  opens_struct (α := Int × List UInt8 × Ty × Unit) (fun p => (⟨p.1, p.2.1, p.2.2.1⟩ : Fld)) Try.underlying73 (by kernel_rfl)
    (opensF_cons (sz := 1) rfl (by kernel_rfl) (opens_int Try.underlying3) (opensF_cons (sz := 1) rfl (by kernel_rfl) (opens_string Try.underlying9) (opensF_cons (sz := 3) rfl (by kernel_rfl) opTy opensF_nil))) (fun _ => rfl) (fun _ _ => trivial)
theorem opMth : OpensT Try.prog 39 Mth.c (fun _ => True) :=
  opens_struct (α := Int × List UInt8 × List UInt8 × List UInt8 × Bool × Unit) (fun p => (⟨p.1, p.2.1, p.2.2.1, p.2.2.2.1, p.2.2.2.2.1⟩ : Mth)) Try.underlying39 (by kernel_rfl)
    (opensF_cons (sz := 1) rfl (by kernel_rfl) (opens_int Try.underlying3) (opensF_cons (sz := 1) rfl (by kernel_rfl) (opens_string Try.underlying9) (opensF_cons (sz := 1) rfl (by kernel_rfl) (opens_string Try.underlying9)
      (opensF_cons (sz := 1) rfl (by kernel_rfl) (opens_string Try.underlying9) (opensF_cons (sz := 1) rfl (by kernel_rfl) (opens_bool Try.underlying4) opensF_nil))))) (fun _ => rfl) (fun _ _ => trivial)
theorem opDcl : OpensT Try.prog 68 Dcl.c (fun _ => True) :=
  opens_struct (α := Int × List UInt8 × List Fld × List Mth × Int × Unit) (fun p => (⟨p.1, p.2.1, p.2.2.1, p.2.2.2.1, p.2.2.2.2.1⟩ : Dcl)) Try.underlying68 (by kernel_rfl)
    (opensF_cons (sz := 1) rfl (by kernel_rfl) (opens_int Try.underlying3) (opensF_cons (sz := 1) rfl (by kernel_rfl) (opens_string Try.underlying9)
      (opensF_cons (sz := 1) rfl (by kernel_rfl) (opens_slice (esz := 5) (cells := Fld.c) (ok := fun _ => True) Try.underlying65 (by kernel_rfl) (of_decide_eq_true rfl) (fun _ => rfl) opFld)
      (opensF_cons (sz := 1) rfl (by kernel_rfl) (opens_slice (esz := 5) (cells := Mth.c) (ok := fun _ => True) Try.underlying66 (by kernel_rfl) (of_decide_eq_true rfl) (fun _ => rfl) opMth)
      (opensF_cons (sz := 1) rfl (by kernel_rfl) (opens_int Try.underlying3) opensF_nil))))) (fun _ => rfl) (fun _ _ => trivial)

theorem opens : OpensA Try.prog [37, 39, 3] (fun p : List Dcl × Mth × Int × Unit => [SL 5 Dcl.c p.1, .agg (Mth.c p.2.1), I64 p.2.2.1]) (fun p => (p.1.length ≤ maxLen ∧ ∀ i, i < p.1.length → True) ∧ True ∧ (Lit.int .i64 p.2.2.1).wf = true ∧ True) :=
  opensA_cons (opensV_slice (esz := 5) (cells := Dcl.c) (ok := fun _ => True) Try.underlying37 (by kernel_rfl) (of_decide_eq_true rfl) (fun _ => rfl) opDcl) (opensA_cons (opensV_struct Try.underlying39 opMth) (opensA_cons (opensV_int Try.underlying3) opensA_nil))

set_option maxRecDepth 100000 in
theorem lifted (os : Os) (started : os.Started) (H : Type) (enc : TypeId × Value → H) :
    ReturnsInHanded {} Try.checked os 4 .any (Rows.opsFitsSpec.pre6 enc Try.prog Try.f4 Rows.opsFitsRow.domain false) (Rows.opsFitsSpec.post enc Try.prog Try.f4 false true false false) := by
  refine returnsInHanded_of_change (C := Try.checked) own started (by kernel_rfl) Try.func4
    (ChangeSpec.witness6 (enc := enc) (C := Try.checked) false ⟨#[], #[.slice none 0 0, .agg #[.int .i64 0, .string ⟨#[]⟩, .string ⟨#[]⟩, .string ⟨#[]⟩, .bool false], .int .i64 0], []⟩ 8 (by kernel_rfl) (by kernel_rfl) (by kernel_rfl) (by kernel_rfl)) ?_
  intro W base args ds gs before hval hW _ _
  refine law_call (P := Try.prog) (f := 4) (s := Rows.opsFitsSpec) (tb := 4) (congrArg Array.toList Try.params4) (by kernel_rfl) Try.underlying4 rfl ?_ opens laidOut ?_ ?_ enc W base args ds gs before hval hW
  · intro H ds h
    match ds, h with
    | [a, b, c], _ => rfl
  · intro t ht
    simp only [List.mem_cons, List.not_mem_nil, or_false] at ht
    rcases ht with rfl | rfl | rfl <;> exact ⟨by kernel_rfl, of_decide_eq_true (by kernel_rfl)⟩
  · intro p hp
    exact opsFits_c p.1 p.2.1 p.2.2.1

theorem over : Rows.opsFitsRow.holds Try.pinned (OpenSpec.ofChange Rows.opsFitsSpec) :=
  OpenClaim.holds_of_wide 4 Try.f4 rfl rfl rfl rfl rfl rfl rfl ⟨rfl, rfl, rfl, rfl, rfl⟩ rfl rfl rfl rfl rfl (by kernel_rfl) Try.func4 (by kernel_rfl)
    (of_decide_eq_true (by kernel_rfl)) (by unfold Func.isWrapper; first | (rw [if_pos (by decide +kernel)]; kernel_rfl) | (rw [if_neg (by decide +kernel)]; exact ⟨rfl, rfl⟩))
    (fun os started H enc _ => lifted os started H enc)

/-- THE STATEMENT. -/
theorem proved : Rows.OpsFitsSaid := over
#print axioms proved
end Go.Proofs.Ytgmdpfoccnalnaa.opsFitsDone
