/- The law BlankStructs answers true at every input, and its arguments read behind the call as they read before. There are no conditions. -/
import Derived.Test.YtgmdpfoccnalnaaGreatE5
import Derived.Test.YtgmdpfoccnalnaaGreatE14
import Derived.Test.YtgmdpfoccnalnaaGreatE15
import Derived.HandedShaped
import Derived.Shelf.Vars
import Derived.Test.YtgmdpfoccnalnaaGreatRows
set_option linter.unusedSimpArgs false
set_option linter.unusedVariables false
set_option maxRecDepth 100000
namespace Go.Proofs.YtgmdpfoccnalnaaGreat.blankStructsDone
open Go.Sy Go.RowKit Go.ChangeShapes Go.WideShapes Go.ChangeAt

theorem own : ownKnob Tryz.prog.godebug = none := by kernel_rfl
theorem laidOut : laidOutB Tryz.prog = true := fact2

theorem bTy : ∀ N, OpensB N Tryz.prog 63 Ty.c (fun _ => True)
  | 0 => OpensB.zero
  | N + 1 =>
    opensB_struct (α := Int × List UInt8 × List Ty × Unit) (fun p => (⟨p.1, p.2.1, p.2.2.1⟩ : Ty)) Tryz.underlying63 (by kernel_rfl)
      (opensFB_cons (sz := 1) rfl (by kernel_rfl) ((opens_int Tryz.underlying3).toB N) (opensFB_cons (sz := 1) rfl (by kernel_rfl) ((opens_string Tryz.underlying9).toB N)
        (opensFB_cons (sz := 1) rfl (by kernel_rfl) ((opensB_slice (esz := 3) (cells := Ty.c) (ok := fun _ => True) Tryz.underlying61 (by kernel_rfl) (of_decide_eq_true rfl) (fun _ => rfl) (bTy N)).mono (Nat.le_succ N)) opensFB_nil)))
      (fun x G ys h => by
        obtain ⟨k, nm, o, u⟩ := x
        simp only [List.cons_append, List.nil_append, Ty.c, RepIL] at h ⊢
        obtain ⟨z1, t1, e1, g1, h1, z2, t2, e2, g2, h2, z3, t3, e3, g3, h3, e4⟩ := h
        exact ⟨z1, t1, e1, g1, h1, z2, t2, e2, g2, h2, z3, t3, e3, repI_rows (fun i hi => (Ty.rows_eq _ i hi).symm) g3, h3, e4⟩) (fun _ _ => trivial)
theorem opTy : OpensT Tryz.prog 63 Ty.c (fun _ => True) := OpensT.ofB bTy
theorem opFld : OpensT Tryz.prog 65 Fld.c (fun _ => True) :=
  opens_struct (α := Int × List UInt8 × Ty × Unit) (fun p => (⟨p.1, p.2.1, p.2.2.1⟩ : Fld)) Tryz.underlying65 (by kernel_rfl)
    (opensF_cons (sz := 1) rfl (by kernel_rfl) (opens_int Tryz.underlying3) (opensF_cons (sz := 1) rfl (by kernel_rfl) (opens_string Tryz.underlying9) (opensF_cons (sz := 3) rfl (by kernel_rfl) opTy opensF_nil))) (fun _ => rfl) (fun _ _ => trivial)
theorem opMth : OpensT Tryz.prog 92 Mth.c (fun _ => True) :=
  opens_struct (α := Int × List UInt8 × List UInt8 × List UInt8 × Bool × Unit) (fun p => (⟨p.1, p.2.1, p.2.2.1, p.2.2.2.1, p.2.2.2.2.1⟩ : Mth)) Tryz.underlying92 (by kernel_rfl)
    (opensF_cons (sz := 1) rfl (by kernel_rfl) (opens_int Tryz.underlying3) (opensF_cons (sz := 1) rfl (by kernel_rfl) (opens_string Tryz.underlying9) (opensF_cons (sz := 1) rfl (by kernel_rfl) (opens_string Tryz.underlying9)
      (opensF_cons (sz := 1) rfl (by kernel_rfl) (opens_string Tryz.underlying9) (opensF_cons (sz := 1) rfl (by kernel_rfl) (opens_bool Tryz.underlying4) opensF_nil))))) (fun _ => rfl) (fun _ _ => trivial)
theorem opDcl : OpensT Tryz.prog 60 Dcl.c (fun _ => True) :=
  opens_struct (α := Int × List UInt8 × List Fld × List Mth × Int × Unit) (fun p => (⟨p.1, p.2.1, p.2.2.1, p.2.2.2.1, p.2.2.2.2.1⟩ : Dcl)) Tryz.underlying60 (by kernel_rfl)
    (opensF_cons (sz := 1) rfl (by kernel_rfl) (opens_int Tryz.underlying3) (opensF_cons (sz := 1) rfl (by kernel_rfl) (opens_string Tryz.underlying9)
      (opensF_cons (sz := 1) rfl (by kernel_rfl) (opens_slice (esz := 5) (cells := Fld.c) (ok := fun _ => True) Tryz.underlying56 (by kernel_rfl) (of_decide_eq_true rfl) (fun _ => rfl) opFld)
      (opensF_cons (sz := 1) rfl (by kernel_rfl) (opens_slice (esz := 5) (cells := Mth.c) (ok := fun _ => True) Tryz.underlying58 (by kernel_rfl) (of_decide_eq_true rfl) (fun _ => rfl) opMth)
      (opensF_cons (sz := 1) rfl (by kernel_rfl) (opens_int Tryz.underlying3) opensF_nil))))) (fun _ => rfl) (fun _ _ => trivial)

theorem opens : OpensA Tryz.prog [53, 9] (fun p : List Dcl × List UInt8 × Unit => [SL 5 Dcl.c p.1, .s p.2.1]) (fun p => (p.1.length ≤ maxLen ∧ ∀ i, i < p.1.length → True) ∧ p.2.1.length ≤ maxLen ∧ True) :=
  opensA_cons (opensV_slice (esz := 5) (cells := Dcl.c) (ok := fun _ => True) Tryz.underlying53 (by kernel_rfl) (of_decide_eq_true rfl) (fun _ => rfl) opDcl) (opensA_cons (opensV_string Tryz.underlying9) opensA_nil)

set_option maxRecDepth 100000 in
theorem lifted (os : Os) (started : os.Started) (H : Type) (enc : TypeId × Value → H) :
    ReturnsInHanded {} Tryz.checked os 9 .any (Rows.blankStructsSpec.pre6 enc Tryz.prog Tryz.f9 Rows.blankStructsRow.domain false) (Rows.blankStructsSpec.post enc Tryz.prog Tryz.f9 false true false false) := by
  refine returnsInHanded_of_change_shaped (C := Tryz.checked) own started (by kernel_rfl) Tryz.func9
    (ChangeSpec.witness6 (enc := enc) (C := Tryz.checked) false ⟨#[], #[.slice none 0 0, .string ⟨#[]⟩], []⟩ 8 (by kernel_rfl) (by kernel_rfl) (by kernel_rfl) (by kernel_rfl)) ?_
  intro W base args ds gs before hval hW _ _ hsh _
  obtain ⟨m, hm⟩ : ∃ m, W.cell? ⟨0, 0, none⟩ = some (.int .i64 m) :=
    Go.Proofs.cell_of_shapedOpen_int (zero := #[.int .i64 0]) (t := 3) hsh (of_decide_eq_true (by kernel_rfl)) (by kernel_rfl) rfl (by kernel_rfl) (by kernel_rfl) Tryz.underlying3
  refine law_callK (P := Tryz.prog) (f := 9) (s := Rows.blankStructsSpec) (tb := 4) (cs := [glbA m]) W (congrArg Array.toList Tryz.params9) (by kernel_rfl) Tryz.underlying4 rfl ?_ opens laidOut ?_ rfl ?_ ?_ enc base args ds gs before hval hW
  · intro H ds h
    match ds, h with
    | [a, b], _ => rfl
  · intro t ht
    simp only [List.mem_cons, List.not_mem_nil, or_false] at ht
    rcases ht with rfl | rfl <;> exact ⟨by kernel_rfl, of_decide_eq_true (by kernel_rfl)⟩
  · intro A hA
    simp only [List.mem_singleton] at hA
    subst hA
    exact hm
  · intro p hp
    exact blankStructs_A m p.1 p.2.1

theorem over : Rows.blankStructsRow.holds Tryz.pinned (OpenSpec.ofChange Rows.blankStructsSpec) :=
  OpenClaim.holds_of_wide 9 Tryz.f9 rfl rfl rfl rfl rfl rfl rfl ⟨rfl, rfl, rfl, rfl, rfl⟩ rfl rfl rfl rfl rfl (by kernel_rfl) Tryz.func9 facts
    (of_decide_eq_true (by kernel_rfl)) (by unfold Func.isWrapper; first | (rw [if_pos (by decide +kernel)]; kernel_rfl) | (rw [if_neg (by decide +kernel)]; exact ⟨rfl, rfl⟩))
    (fun os started H enc _ => lifted os started H enc)

/-- THE STATEMENT. -/
theorem proved : Rows.BlankStructsSaid := over
#print axioms proved
end Go.Proofs.YtgmdpfoccnalnaaGreat.blankStructsDone
