/- The law SwapKeeps answers true at every input, and its arguments read behind the call as they read before. There are no conditions. -/
import Derived.Test.YtgdlhcaidfokkaaSy31
import Derived.Test.YtgdlhcaidfokkaaWE
import Derived.SizedLaws
import Derived.Test.YtgdlhcaidfokkaaRows
set_option linter.unusedSimpArgs false
set_option linter.unusedVariables false
namespace Go.Proofs.Ytgdlhcaidfokkaa.swapKeepsDone
open Go.Sy Go.RowKit Go.ChangeShapes Go.WideShapes Go.ChangeAt

theorem own : ownKnob Try.prog.godebug = none := by kernel_rfl
theorem laidOut : laidOutB Try.prog = true := by kernel_rfl

theorem opEv : OpensS Try.prog 62 Ev.cells (fun e => e.b.length ≤ reachBytes) :=
  opensS_struct (α := Int × Int × Int × List UInt8 × Unit) (fun p => ⟨p.1, p.2.1, p.2.2.1, p.2.2.2.1⟩) Try.underlying62 (by kernel_rfl)
    (opensFS_cons (sz := 1) rfl (by kernel_rfl) (opens_int Try.underlying3).toS (opensFS_cons (sz := 1) rfl (by kernel_rfl) (opens_int Try.underlying3).toS (opensFS_cons (sz := 1) rfl (by kernel_rfl) (opens_int Try.underlying60).toS (opensFS_cons (sz := 1) rfl (by kernel_rfl) (opensS_string Try.underlying9) opensFS_nil))))
    (fun _ => rfl) (fun _ h => h.2.2.2.1)

theorem opSw : OpensS Try.prog 115 Sw.cells (fun e => e.b.length ≤ reachBytes) :=
  opensS_struct (α := Int × Int × List UInt8 × Unit) (fun p => ⟨p.1, p.2.1, p.2.2.1⟩) Try.underlying115 (by kernel_rfl)
    (opensFS_cons (sz := 1) rfl (by kernel_rfl) (opens_int Try.underlying3).toS (opensFS_cons (sz := 1) rfl (by kernel_rfl) (opens_int Try.underlying3).toS (opensFS_cons (sz := 1) rfl (by kernel_rfl) (opensS_string Try.underlying9) opensFS_nil)))
    (fun _ => rfl) (fun _ h => h.2.2.1)

theorem opens : OpensAS Try.prog [49, 50] (fun p : List Ev × List Sw × Unit => [SL 4 Ev.cells p.1, SL 3 Sw.cells p.2.1]) (fun p => (p.1.length ≤ maxLen ∧ ∀ i, i < p.1.length → (p.1.getD i default).b.length ≤ reachBytes) ∧ (p.2.1.length ≤ maxLen ∧ ∀ i, i < p.2.1.length → (p.2.1.getD i default).b.length ≤ reachBytes) ∧ True) :=
  opensAS_cons (opensVS_slice (esz := 4) (cells := Ev.cells) (ok := fun e : Ev => e.b.length ≤ reachBytes) Try.underlying49 (by kernel_rfl) (of_decide_eq_true rfl) (fun _ => rfl) opEv)
    (opensAS_cons (opensVS_slice (esz := 3) (cells := Sw.cells) (ok := fun e : Sw => e.b.length ≤ reachBytes) Try.underlying50 (by kernel_rfl) (of_decide_eq_true rfl) (fun _ => rfl) opSw) opensAS_nil)

set_option maxRecDepth 100000 in
theorem lifted (os : Os) (started : os.Started) (H : Type) (enc : TypeId × Value → H) :
    ReturnsInHanded {} Try.checked os 6 .any (Rows.swapKeepsSpec.pre6 enc Try.prog Try.f6 Rows.swapKeepsRow.domain false) (Rows.swapKeepsSpec.post enc Try.prog Try.f6 false true false false) := by
  refine returnsInHanded_of_change_sized (C := Try.checked) own started (by kernel_rfl) Try.func6
    (ChangeSpec.witness6 (enc := enc) (C := Try.checked) false ⟨#[], #[.slice none 0 0, .slice none 0 0], []⟩ 8 (by kernel_rfl) (by kernel_rfl) (by kernel_rfl) (by kernel_rfl)) ?_
  intro W base args ds gs before hval hW _ hsz _
  refine law_callS (P := Try.prog) (f := 6) (s := Rows.swapKeepsSpec) (tb := 4) (congrArg Array.toList Try.params6) (by kernel_rfl) Try.underlying4 rfl ?_ opens laidOut ?_ ?_ enc W base args ds gs before hval hW hsz
  · intro H ds h
    match ds, h with
    | [a, b], _ => rfl
  · intro t ht
    simp only [List.mem_cons, List.not_mem_nil, or_false] at ht
    rcases ht with rfl | rfl <;> exact ⟨by kernel_rfl, of_decide_eq_true (by kernel_rfl)⟩
  · intro p hp
    have conv : ∀ {α : Type} [Inhabited α] (l : List α) (f : α → Nat), (∀ i, i < l.length → f (l.getD i default) ≤ reachBytes) → ∀ e ∈ l, f e ≤ 140737488351232 := fun l f h e he => by
      obtain ⟨i, hi, rfl⟩ := List.mem_iff_getElem.1 he
      have := h i hi
      have e1 : l.getD i default = l[i] := by simp [List.getD, List.getElem?_eq_getElem hi]
      rw [e1] at this
      exact this
    exact keep47_p p.1 p.2.1 (Nat.le_trans hp.1.1 (by decide)) (conv p.1 (fun e => e.b.length) hp.1.2) (Nat.le_trans hp.2.1.1 (by decide)) (conv p.2.1 (fun e => e.b.length) hp.2.1.2)

theorem over : Rows.swapKeepsRow.holds Try.pinned (OpenSpec.ofChange Rows.swapKeepsSpec) :=
  OpenClaim.holds_of_wide 6 Try.f6 rfl rfl rfl rfl rfl rfl rfl ⟨rfl, rfl, rfl, rfl, rfl⟩ rfl rfl rfl rfl rfl (by kernel_rfl) Try.func6 (by kernel_rfl)
    (of_decide_eq_true (by kernel_rfl)) (by unfold Func.isWrapper; first | (rw [if_pos (by decide +kernel)]; kernel_rfl) | (rw [if_neg (by decide +kernel)]; exact ⟨rfl, rfl⟩))
    (fun os started H enc _ => lifted os started H enc)

/-- THE STATEMENT. -/
theorem proved : Rows.SwapKeepsSaid := over
#print axioms proved
end Go.Proofs.Ytgdlhcaidfokkaa.swapKeepsDone
