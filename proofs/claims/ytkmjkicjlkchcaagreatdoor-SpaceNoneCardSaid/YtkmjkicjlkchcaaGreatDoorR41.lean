/- The law SpaceNone answers true at every input, and its arguments read behind the call as they read before. The variables that the row lists are as the program's text lays them. There are no other conditions. -/
import Derived.Test.YtkmjkicjlkchcaaGreatDoorE3
import Derived.Test.YtkmjkicjlkchcaaGreatDoorE5
import Derived.Test.YtkmjkicjlkchcaaGreatDoorE6
set_option linter.unusedSimpArgs false
set_option linter.unusedVariables false
set_option maxRecDepth 100000
namespace Go.Proofs.YtkmjkicjlkchcaaGreatDoor.spaceNoneDone
open Go.E Go.RowKit Go.ChangeShapes Go.WideShapes Go.ChangeAt

theorem opFrame : OpensT Tryz.prog 31 (fun x : Int × Int × List UInt8 => [I64 x.1, I64 x.2.1, .s x.2.2]) (fun x => x.2.2.length ≤ maxLen) :=
  opens_struct (α := Int × Int × List UInt8 × Unit) (fun p => (p.1, p.2.1, p.2.2.1)) Tryz.underlying31 (by kernel_rfl)
    (opensF_cons (sz := 1) rfl (by kernel_rfl) (opens_int Tryz.underlying3) (opensF_cons (sz := 1) rfl (by kernel_rfl) (opens_int Tryz.underlying3) (opensF_cons (sz := 1) rfl (by kernel_rfl) (opens_string Tryz.underlying9) opensF_nil))) (fun _ => rfl) (fun _ h => h.2.2.1)
theorem opStep : OpensT Tryz.prog 33 (fun x : (Int × Int × List UInt8) × Int × Int => [I64 x.1.1, I64 x.1.2.1, .s x.1.2.2, I64 x.2.1, I64 x.2.2]) (fun x => x.1.2.2.length ≤ maxLen) :=
  opens_struct (α := (Int × Int × List UInt8) × Int × Int × Unit) (fun p => (p.1, p.2.1, p.2.2.1)) Tryz.underlying33 (by kernel_rfl)
    (opensF_cons (sz := 3) rfl (by kernel_rfl) opFrame (opensF_cons (sz := 1) rfl (by kernel_rfl) (opens_int Tryz.underlying3) (opensF_cons (sz := 1) rfl (by kernel_rfl) (opens_int Tryz.underlying3) opensF_nil))) (fun _ => rfl) (fun _ h => h.1)
def cfOf (p : Int × Int × Int × Int × Int × Int × Int × Int × Int × Unit) : Nat → Int
  | 0 => p.1
  | 1 => p.2.1
  | 2 => p.2.2.1
  | 3 => p.2.2.2.1
  | 4 => p.2.2.2.2.1
  | 5 => p.2.2.2.2.2.1
  | 6 => p.2.2.2.2.2.2.1
  | 7 => p.2.2.2.2.2.2.2.1
  | _ => p.2.2.2.2.2.2.2.2.1
theorem opConf : OpensT Tryz.prog 24 cfC (fun _ => True) :=
  opens_struct cfOf Tryz.underlying24 (by kernel_rfl)
    (opensF_cons (sz := 1) rfl (by kernel_rfl) (opens_int Tryz.underlying3) (opensF_cons (sz := 1) rfl (by kernel_rfl) (opens_int Tryz.underlying3) (opensF_cons (sz := 1) rfl (by kernel_rfl) (opens_int Tryz.underlying3) (opensF_cons (sz := 1) rfl (by kernel_rfl) (opens_int Tryz.underlying3)
      (opensF_cons (sz := 1) rfl (by kernel_rfl) (opens_int Tryz.underlying3) (opensF_cons (sz := 1) rfl (by kernel_rfl) (opens_int Tryz.underlying3) (opensF_cons (sz := 1) rfl (by kernel_rfl) (opens_int Tryz.underlying3) (opensF_cons (sz := 1) rfl (by kernel_rfl) (opens_int Tryz.underlying3)
        (opensF_cons (sz := 1) rfl (by kernel_rfl) (opens_int Tryz.underlying3) opensF_nil))))))))) (fun _ => rfl) (fun _ _ => trivial)
theorem opens : OpensA Tryz.prog [33, 24] (fun p : ((Int × Int × List UInt8) × Int × Int) × (Nat → Int) × Unit => [.agg [I64 p.1.1.1, I64 p.1.1.2.1, .s p.1.1.2.2, I64 p.1.2.1, I64 p.1.2.2], .agg (cfC p.2.1)]) (fun p => p.1.1.2.2.length ≤ maxLen ∧ True ∧ True) :=
  opensA_cons (opensV_struct Tryz.underlying33 opStep) (opensA_cons (opensV_struct Tryz.underlying24 opConf) opensA_nil)

theorem lifted (os : Os) (started : os.Started) (H : Type) (enc : TypeId × Value → H) :
    ReturnsInHanded {} Tryz.checked os 6 .any (fun w args => (Rows.spaceNoneSpec.pre enc Tryz.prog Tryz.f6 [] false w args ∧ laidMetH Tryz.prog Rows.spaceNoneRow.laid w) ∧ sizedMet enc Tryz.prog Tryz.f6 (OpenSpec.ofChange Rows.spaceNoneSpec) false w args)
      (Rows.spaceNoneSpec.post enc Tryz.prog Tryz.f6 false true false false) := by
  refine handed_laid_shaped (C := Tryz.checked) (Y := fun w => laidMetH Tryz.prog Rows.spaceNoneRow.laid w) (fun _ _ hh h => h.of_heap hh) own started (by kernel_rfl) Tryz.func6
    (ChangeSpec.witness_shaped (enc := enc) (C := Tryz.checked) (os := os) (X := fun w _ => laidMetH Tryz.prog Rows.spaceNoneRow.laid w) false (World.laidAll Tryz.prog os Rows.spaceNoneRow.laid) #[.agg #[.int .i64 0, .int .i64 0, .string ⟨#[]⟩, .int .i64 0, .int .i64 0], .agg #[.int .i64 0, .int .i64 0, .int .i64 0, .int .i64 0, .int .i64 0, .int .i64 0, .int .i64 0, .int .i64 0, .int .i64 0]] 8 (World.laidAll_os _ _ _)
      (World.shaped_of_ZipB (by kernel_rfl) (by kernel_rfl)) (by kernel_rfl) (by kernel_rfl) (by kernel_rfl)
      (by rw [MakeChecks.laidMetH_plain _ _ _ (by kernel_rfl)]; exact laidMet_laidAll _ (by kernel_rfl) (by kernel_rfl))) ?_
  intro W base args ds gs before hval hW hL hsh
  refine law_call (P := Tryz.prog) (f := 6) (s := Rows.spaceNoneSpec) (tb := 4) (C := fun W => ∃ m, W.cell? ⟨5, 0, none⟩ = some (.int .i64 m)) (congrArg Array.toList Tryz.params6) (by kernel_rfl) Tryz.underlying4 rfl ?_ opens fact2 ?_ ?_ enc W base args ds gs before hval hW
    (Go.Proofs.cell_of_shapedOpen_int (zero := #[.int .i64 0]) (t := 3) hsh (of_decide_eq_true (by kernel_rfl)) (by kernel_rfl) rfl (by kernel_rfl) (by kernel_rfl) Tryz.underlying3)
  · intro H ds h
    match ds, h with
    | [a, b], _ => rfl
  · intro t ht
    simp only [List.mem_cons, List.not_mem_nil, or_false] at ht
    rcases ht with rfl | rfl <;> exact ⟨by kernel_rfl, of_decide_eq_true (by kernel_rfl)⟩
  · rintro W ⟨⟨⟨kd, fl, b⟩, a, n⟩, c, u⟩ ⟨hb, -, -⟩ ⟨m, hm⟩
    obtain ⟨r, rfl, hF⟩ := law_d (Kn := fun b o => if b = 5 ∧ o = 0 then some (.int .i64 m) else none) (m := m) rfl kd fl a n b hb c
    refine ⟨_, fun b o v hv => ?_, hF⟩
    split at hv
    · rename_i h; obtain ⟨rfl, rfl⟩ := h; rw [hm]; exact hv
    · cases hv

theorem said : Rows.SpaceNoneSaid :=
  OpenClaim.holds_of_wide 6 Tryz.f6 rfl rfl rfl rfl rfl rfl rfl ⟨rfl, rfl, rfl, rfl, rfl⟩ rfl rfl rfl rfl rfl (by kernel_rfl) Tryz.func6 facts
    (of_decide_eq_true (by kernel_rfl)) (by unfold Func.isWrapper; first | (rw [if_pos (by decide +kernel)]; kernel_rfl) | (rw [if_neg (by decide +kernel)]; exact ⟨rfl, rfl⟩))
    (fun os started H enc _ => lifted os started H enc)

/-- No parameter wants a stand-in; the program's own looks are off. -/
theorem plain (f : FuncId) (fn : Func) (hf : Tryz.pinned.checked.prog.funcNamed "concourse/concourselaw36.SpaceNone" = some f) (hfn : Tryz.pinned.checked.prog.funcs[f]? = some fn) :
    true = Tryz.pinned.checked.prog.looks [] ∧ ∀ (j : Nat) t, fn.params[j]? = some t → Tryz.pinned.checked.prog.wantsStandIn t = false := by
  obtain rfl : f = 6 := Option.some.inj ((show Tryz.prog.funcNamed "concourse/concourselaw36.SpaceNone" = some 6 by kernel_rfl).symm.trans hf) |>.symm
  obtain rfl : fn = Tryz.f6 := (Option.some.inj (Tryz.func6.symm.trans hfn)).symm
  refine ⟨by kernel_rfl, fun j t ht => ?_⟩
  rw [Tryz.params6] at ht
  have hm : t ∈ [33, 24] := by simpa using Array.mem_of_getElem? ht
  have hall : ([33, 24].all fun u => !Tryz.prog.wantsStandIn u) = true := by kernel_rfl
  exact (show Tryz.prog.wantsStandIn t = false by simpa using List.all_eq_true.1 hall t hm)

/-- THE STATEMENT: THE CARD. -/
theorem proved : Rows.SpaceNoneCardSaid :=
  Claim7.holds_tied_plain_at .later [] _ _ _ _ said (fun _ h => by cases h) (by kernel_rfl) (fun _ h => by cases h) spaceNone_row_tie rfl ⟨rfl, rfl⟩ (by kernel_rfl) rfl plain (goes_none noGo _ rfl)
#print axioms proved
end Go.Proofs.YtkmjkicjlkchcaaGreatDoor.spaceNoneDone
