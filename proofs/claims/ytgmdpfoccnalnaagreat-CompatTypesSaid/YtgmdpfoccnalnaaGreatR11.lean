/- The law CompatTypes answers true at every input, and its arguments read behind the call as they read before. There are no conditions. -/
import Derived.Test.YtgmdpfoccnalnaaGreatE7
import Derived.Test.YtgmdpfoccnalnaaGreatE14
import Derived.HandedShaped
import Derived.Shelf.Vars
import Derived.Test.YtgmdpfoccnalnaaGreatRows
set_option linter.unusedSimpArgs false
set_option linter.unusedVariables false
set_option maxRecDepth 100000
namespace Go.Proofs.YtgmdpfoccnalnaaGreat.compatTypesDone
open Go.Sy Go.RowKit Go.ChangeShapes Go.WideShapes Go.ChangeAt

theorem own : ownKnob Tryz.prog.godebug = none := by kernel_rfl
theorem laidOut : laidOutB Tryz.prog = true := fact2

theorem bTy : ∀ N, OpensB N Tryz.prog 63 Ty.c (fun _ => True)
  | 0 => OpensB.zero
  | N + 1 =>
    opensB_struct (α := Int × List UInt8 × List Ty × Unit) (fun p => (⟨p.1, p.2.1, p.2.2.1⟩ : Ty)) Tryz.underlying63 (by kernel_rfl)
      (opensFB_cons (sz := 1) rfl (by kernel_rfl) ((opens_int Tryz.underlying3).toB N) (opensFB_cons (sz := 1) rfl (by kernel_rfl) ((opens_string Tryz.underlying9).toB N)
        (opensFB_cons (sz := 1) rfl (by kernel_rfl) ((opensB_slice (esz := 3) (cells := Ty.c) (ok := fun _ => True) Tryz.underlying61 (by kernel_rfl) (of_decide_eq_true rfl) (fun _ => rfl) (bTy N)).mono (Nat.le_succ N)) opensFB_nil)))
      (fun x G ys h => by
        obtain ⟨k, nm, o, u⟩ := x
        simp only [List.cons_append, List.nil_append, Ty.c, RepIL] at h ⊢
        obtain ⟨z1, t1, e1, g1, h1, z2, t2, e2, g2, h2, z3, t3, e3, g3, h3, e4⟩ := h
        exact ⟨z1, t1, e1, g1, h1, z2, t2, e2, g2, h2, z3, t3, e3, repI_rows (fun i hi => (Ty.rows_eq _ i hi).symm) g3, h3, e4⟩) (fun _ _ => trivial)
theorem opTy : OpensT Tryz.prog 63 Ty.c (fun _ => True) := OpensT.ofB bTy

theorem opens : OpensA Tryz.prog [63, 63] (fun p : Ty × Ty × Unit => [.agg (Ty.c p.1), .agg (Ty.c p.2.1)]) (fun p => True ∧ True ∧ True) :=
  opensA_cons (opensV_struct Tryz.underlying63 opTy) (opensA_cons (opensV_struct Tryz.underlying63 opTy) opensA_nil)

set_option maxRecDepth 100000 in
theorem lifted (os : Os) (started : os.Started) (H : Type) (enc : TypeId × Value → H) :
    ReturnsInHanded {} Tryz.checked os 8 .any (Rows.compatTypesSpec.pre6 enc Tryz.prog Tryz.f8 Rows.compatTypesRow.domain false) (Rows.compatTypesSpec.post enc Tryz.prog Tryz.f8 false true false false) := by
  refine returnsInHanded_of_change_shaped (C := Tryz.checked) own started (by kernel_rfl) Tryz.func8
    (ChangeSpec.witness6 (enc := enc) (C := Tryz.checked) false ⟨#[], #[.agg #[.int .i64 0, .string ⟨#[]⟩, .slice none 0 0], .agg #[.int .i64 0, .string ⟨#[]⟩, .slice none 0 0]], []⟩ 8 (by kernel_rfl) (by kernel_rfl) (by kernel_rfl) (by kernel_rfl)) ?_
  intro W base args ds gs before hval hW _ _ hsh _
  obtain ⟨m, hm⟩ : ∃ m, W.cell? ⟨0, 0, none⟩ = some (.int .i64 m) :=
    Go.Proofs.cell_of_shapedOpen_int (zero := #[.int .i64 0]) (t := 3) hsh (of_decide_eq_true (by kernel_rfl)) (by kernel_rfl) rfl (by kernel_rfl) (by kernel_rfl) Tryz.underlying3
  refine law_callK (P := Tryz.prog) (f := 8) (s := Rows.compatTypesSpec) (tb := 4) (cs := [glbA m]) W (congrArg Array.toList Tryz.params8) (by kernel_rfl) Tryz.underlying4 rfl ?_ opens laidOut ?_ rfl ?_ ?_ enc base args ds gs before hval hW
  · intro H ds h
    match ds, h with
    | [a, b], _ => rfl
  · intro t ht
    simp only [List.mem_cons, List.not_mem_nil, or_false] at ht
    rcases ht with rfl | rfl <;> exact ⟨by kernel_rfl, of_decide_eq_true (by kernel_rfl)⟩
  · intro A hA
    simp only [List.mem_singleton] at hA
    subst hA
    exact hm
  · intro p hp
    exact compatTypes_A m p.1 p.2.1

theorem over : Rows.compatTypesRow.holds Tryz.pinned (OpenSpec.ofChange Rows.compatTypesSpec) :=
  OpenClaim.holds_of_wide 8 Tryz.f8 rfl rfl rfl rfl rfl rfl rfl ⟨rfl, rfl, rfl, rfl, rfl⟩ rfl rfl rfl rfl rfl (by kernel_rfl) Tryz.func8 facts
    (of_decide_eq_true (by kernel_rfl)) (by unfold Func.isWrapper; first | (rw [if_pos (by decide +kernel)]; kernel_rfl) | (rw [if_neg (by decide +kernel)]; exact ⟨rfl, rfl⟩))
    (fun os started H enc _ => lifted os started H enc)

/-- THE STATEMENT. -/
theorem proved : Rows.CompatTypesSaid := over
#print axioms proved
end Go.Proofs.YtgmdpfoccnalnaaGreat.compatTypesDone
