/- The law DescOwn answers true at every input, and its arguments read behind the call as they read before. There are no conditions. -/
import Derived.Test.YtgmdpfoccnalnaaGreatE7
import Derived.Test.YtgmdpfoccnalnaaGreatE14
import Derived.HandedShaped
import Derived.Shelf.Vars
import Derived.Test.YtgmdpfoccnalnaaGreatRows
set_option linter.unusedSimpArgs false
set_option linter.unusedVariables false
set_option maxRecDepth 100000
namespace Go.Proofs.YtgmdpfoccnalnaaGreat.descOwnDone
open Go.Sy Go.RowKit Go.ChangeShapes Go.WideShapes Go.ChangeAt

theorem own : ownKnob Tryz.prog.godebug = none := by kernel_rfl
theorem laidOut : laidOutB Tryz.prog = true := fact2

theorem opens : OpensA Tryz.prog [9] (fun p : List UInt8 × Unit => [.s p.1]) (fun p => p.1.length ≤ maxLen ∧ True) :=
  opensA_cons (opensV_string Tryz.underlying9) opensA_nil

set_option maxRecDepth 100000 in
theorem lifted (os : Os) (started : os.Started) (H : Type) (enc : TypeId × Value → H) :
    ReturnsInHanded {} Tryz.checked os 4 .any (Rows.descOwnSpec.pre6 enc Tryz.prog Tryz.f4 Rows.descOwnRow.domain false) (Rows.descOwnSpec.post enc Tryz.prog Tryz.f4 false true false false) := by
  refine returnsInHanded_of_change_shaped (C := Tryz.checked) own started (by kernel_rfl) Tryz.func4
    (ChangeSpec.witness6 (enc := enc) (C := Tryz.checked) false ⟨#[], #[.string ⟨#[]⟩], []⟩ 8 (by kernel_rfl) (by kernel_rfl) (by kernel_rfl) (by kernel_rfl)) ?_
  intro W base args ds gs before hval hW _ _ hsh _
  obtain ⟨m, hm⟩ : ∃ m, W.cell? ⟨0, 0, none⟩ = some (.int .i64 m) :=
    Go.Proofs.cell_of_shapedOpen_int (zero := #[.int .i64 0]) (t := 3) hsh (of_decide_eq_true (by kernel_rfl)) (by kernel_rfl) rfl (by kernel_rfl) (by kernel_rfl) Tryz.underlying3
  refine law_callK (P := Tryz.prog) (f := 4) (s := Rows.descOwnSpec) (tb := 4) (cs := [glbA m]) W (congrArg Array.toList Tryz.params4) (by kernel_rfl) Tryz.underlying4 rfl ?_ opens laidOut ?_ rfl ?_ ?_ enc base args ds gs before hval hW
  · intro H ds h
    match ds, h with
    | [a], _ => rfl
  · intro t ht
    simp only [List.mem_cons, List.not_mem_nil, or_false] at ht
    subst ht; exact ⟨by kernel_rfl, of_decide_eq_true (by kernel_rfl)⟩
  · intro A hA
    simp only [List.mem_singleton] at hA
    subst hA
    exact hm
  · intro p hp
    exact descOwn_A m p.1

theorem over : Rows.descOwnRow.holds Tryz.pinned (OpenSpec.ofChange Rows.descOwnSpec) :=
  OpenClaim.holds_of_wide 4 Tryz.f4 rfl rfl rfl rfl rfl rfl rfl ⟨rfl, rfl, rfl, rfl, rfl⟩ rfl rfl rfl rfl rfl (by kernel_rfl) Tryz.func4 facts
    (of_decide_eq_true (by kernel_rfl)) (by unfold Func.isWrapper; first | (rw [if_pos (by decide +kernel)]; kernel_rfl) | (rw [if_neg (by decide +kernel)]; exact ⟨rfl, rfl⟩))
    (fun os started H enc _ => lifted os started H enc)

/-- THE STATEMENT. -/
theorem proved : Rows.DescOwnSaid := over
#print axioms proved
end Go.Proofs.YtgmdpfoccnalnaaGreat.descOwnDone
