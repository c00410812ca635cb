/- The law BoundOf answers true at every input, and its arguments read behind the call as they read before. There are no conditions. -/
import Derived.Test.YtgmdpfoccnalnaaGreatE2
import Derived.Test.YtgmdpfoccnalnaaGreatE10
import Derived.Test.YtgmdpfoccnalnaaGreatE11
import Derived.SizedLaws
import Derived.Test.YtgmdpfoccnalnaaGreatRows
set_option linter.unusedSimpArgs false
set_option linter.unusedVariables false
set_option maxRecDepth 100000
namespace Go.Proofs.YtgmdpfoccnalnaaGreat.boundOfDone
open Go.Sy Go.RowKit Go.ChangeShapes Go.WideShapes Go.ChangeAt

theorem own : ownKnob Tryz.prog.godebug = none := by kernel_rfl
theorem laidOut : laidOutB Tryz.prog = true := fact2

theorem opNte : OpensT Tryz.prog 28 Nte.c (fun x => x.body.length ≤ maxLen) :=
  opens_struct (α := Int × Int × Int × List UInt8 × Int × List UInt8 × Unit) (fun p => (⟨p.1, p.2.1, p.2.2.1, p.2.2.2.1, p.2.2.2.2.1, p.2.2.2.2.2.1⟩ : Nte)) Tryz.underlying28 (by kernel_rfl)
    (opensF_cons (sz := 1) rfl (by kernel_rfl) (opens_int Tryz.underlying3) (opensF_cons (sz := 1) rfl (by kernel_rfl) (opens_int Tryz.underlying3) (opensF_cons (sz := 1) rfl (by kernel_rfl) (opens_int Tryz.underlying3)
      (opensF_cons (sz := 1) rfl (by kernel_rfl) (opens_string Tryz.underlying9) (opensF_cons (sz := 1) rfl (by kernel_rfl) (opens_int Tryz.underlying26) (opensF_cons (sz := 1) rfl (by kernel_rfl) (opens_string Tryz.underlying9) opensF_nil)))))) (fun _ => rfl) (fun _ h => h.2.2.2.1)
theorem opRw : OpensT Tryz.prog 30 Rw.c (fun x => x.note.body.length ≤ maxLen) :=
  opens_struct (α := Int × Int × Nte × Unit) (fun p => (⟨p.1, p.2.1, p.2.2.1⟩ : Rw)) Tryz.underlying30 (by kernel_rfl)
    (opensF_cons (sz := 1) rfl (by kernel_rfl) (opens_int Tryz.underlying3) (opensF_cons (sz := 1) rfl (by kernel_rfl) (opens_int Tryz.underlying3) (opensF_cons (sz := 6) rfl (by kernel_rfl) opNte opensF_nil))) (fun _ => rfl) (fun _ h => h.2.2.1)
theorem opWt : OpensT Tryz.prog 39 Wt.c (fun _ => True) :=
  opens_struct (α := Int × Int × Int × Int × Int × Bool × Bool × Unit) (fun p => (⟨p.1, p.2.1, p.2.2.1, p.2.2.2.1, p.2.2.2.2.1, p.2.2.2.2.2.1, p.2.2.2.2.2.2.1⟩ : Wt)) Tryz.underlying39 (by kernel_rfl)
    (opensF_cons (sz := 1) rfl (by kernel_rfl) (opens_int Tryz.underlying3) (opensF_cons (sz := 1) rfl (by kernel_rfl) (opens_int Tryz.underlying3) (opensF_cons (sz := 1) rfl (by kernel_rfl) (opens_int Tryz.underlying3)
      (opensF_cons (sz := 1) rfl (by kernel_rfl) (opens_int Tryz.underlying3) (opensF_cons (sz := 1) rfl (by kernel_rfl) (opens_int Tryz.underlying3) (opensF_cons (sz := 1) rfl (by kernel_rfl) (opens_bool Tryz.underlying4)
        (opensF_cons (sz := 1) rfl (by kernel_rfl) (opens_bool Tryz.underlying4) opensF_nil))))))) (fun _ => rfl) (fun _ _ => trivial)
theorem opens : OpensAS Tryz.prog [22, 23] (fun p : List Rw × List Wt × Unit => [SL 8 Rw.c p.1, SL 7 Wt.c p.2.1])
    (fun p => (p.1.length ≤ maxLen ∧ ∀ i, i < p.1.length → (p.1.getD i default).note.body.length ≤ maxLen) ∧ ((p.2.1.length ≤ maxLen ∧ ∀ i, i < p.2.1.length → True) ∧ p.2.1.length * Tryz.prog.bytesOf 39 ≤ reachBytes) ∧ True) :=
  opensAS_cons (opensV_slice (esz := 8) (cells := Rw.c) Tryz.underlying22 (by kernel_rfl) (of_decide_eq_true rfl) (fun _ => rfl) opRw).sized
    (opensAS_cons (opensVS_slice Tryz.underlying23 (opensV_slice (esz := 7) (cells := Wt.c) Tryz.underlying23 (by kernel_rfl) (of_decide_eq_true rfl) (fun _ => rfl) opWt)) opensAS_nil)
theorem bytes39 : Tryz.prog.bytesOf 39 = 48 := by kernel_rfl

set_option maxRecDepth 100000 in
theorem lifted (os : Os) (started : os.Started) (H : Type) (enc : TypeId × Value → H) :
    ReturnsInHanded {} Tryz.checked os 3 .any (Rows.boundOfSpec.pre6 enc Tryz.prog Tryz.f3 Rows.boundOfRow.domain false) (Rows.boundOfSpec.post enc Tryz.prog Tryz.f3 false true false false) := by
  refine returnsInHanded_of_change_sized (C := Tryz.checked) own started (by kernel_rfl) Tryz.func3
    (ChangeSpec.witness6 (enc := enc) (C := Tryz.checked) false ⟨#[], #[.slice none 0 0, .slice none 0 0], []⟩ 8 (by kernel_rfl) (by kernel_rfl) (by kernel_rfl) (by kernel_rfl)) ?_
  intro W base args ds gs before hval hW _ hsz _
  refine law_callS (P := Tryz.prog) (f := 3) (s := Rows.boundOfSpec) (tb := 4) (congrArg Array.toList Tryz.params3) (by kernel_rfl) Tryz.underlying4 rfl ?_ opens laidOut ?_ ?_ enc W base args ds gs before hval hW hsz
  · intro H ds h
    match ds, h with
    | [a, b], _ => rfl
  · intro t ht
    simp only [List.mem_cons, List.not_mem_nil, or_false] at ht
    rcases ht with rfl | rfl <;> exact ⟨by kernel_rfl, of_decide_eq_true (by kernel_rfl)⟩
  · rintro ⟨l, w, u⟩ ⟨⟨h1, h2⟩, ⟨⟨h3, _⟩, h4⟩, _⟩
    refine law3_c plain_law l (fun x hx => ?_) w ?_ h1
    · obtain ⟨i, hi, rfl⟩ := List.mem_iff_getElem.1 hx
      have := h2 i hi
      rw [List.getD_eq_getElem?_getD, List.getElem?_eq_getElem hi] at this
      exact this
    · rw [bytes39] at h4
      simp only [reachBytes] at h4
      omega

theorem over : Rows.boundOfRow.holds Tryz.pinned (OpenSpec.ofChange Rows.boundOfSpec) :=
  OpenClaim.holds_of_wide 3 Tryz.f3 rfl rfl rfl rfl rfl rfl rfl ⟨rfl, rfl, rfl, rfl, rfl⟩ rfl rfl rfl rfl rfl (by kernel_rfl) Tryz.func3 facts
    (of_decide_eq_true (by kernel_rfl)) (by unfold Func.isWrapper; first | (rw [if_pos (by decide +kernel)]; kernel_rfl) | (rw [if_neg (by decide +kernel)]; exact ⟨rfl, rfl⟩))
    (fun os started H enc _ => lifted os started H enc)

/-- THE STATEMENT. -/
theorem proved : Rows.BoundOfSaid := over
#print axioms proved
end Go.Proofs.YtgmdpfoccnalnaaGreat.boundOfDone
