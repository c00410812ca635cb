/- The two schemas of the example: what is asked of these. -/
import Derived.Test.YtgmdpfoccnalnaaGreatE13
import Derived.JoinedOf
import Derived.HandedShaped
import Derived.Test.YtgmdpfoccnalnaaGreatRows
set_option linter.unusedSimpArgs false
set_option linter.unusedVariables false
set_option maxRecDepth 100000
namespace Go.Proofs
open Go.Sy Go.Lib

theorem fewT0 {k : Int} {nm : List UInt8} : FewT ⟨k, nm, []⟩ := .mk (Nat.zero_le _) (fun i hi => absurd hi (Nat.not_lt_zero _))
theorem fewT_A : FewT fA.ty := fewT0
theorem fewT_B : FewT fB.ty := .mk (by show 1 ≤ 1000; decide) (fun i hi => by
  obtain rfl : i = 0 := by have : i < 1 := hi; omega
  exact fewT0)
theorem fewL1 : FewL sc1 := ⟨by decide, fun i hi => by
  obtain rfl : i = 0 := by have : i < 1 := hi; omega
  refine ⟨⟨by decide, fun j hj => ?_⟩, by decide⟩
  obtain rfl : j = 0 := by have : j < 1 := hj; omega
  exact fewT_A⟩
theorem fewL2 : FewL sc2 := ⟨by decide, fun i hi => by
  obtain rfl : i = 0 := by have : i < 1 := hi; omega
  refine ⟨⟨by decide, fun j hj => ?_⟩, by decide⟩
  have hj2 : j < 2 := hj
  rcases j with _ | _ | j
  · exact fewT_A
  · exact fewT_B
  · omega⟩
theorem prep1 : Prep sc1 := ⟨fewL1, fun i hi => by
  obtain rfl : i = 0 := by have : i < 1 := hi; omega
  decide, fun i hi => by
  obtain rfl : i = 0 := by have : i < 1 := hi; omega
  rfl⟩
theorem prep2 : Prep sc2 := ⟨fewL2, fun i hi => by
  obtain rfl : i = 0 := by have : i < 1 := hi; omega
  decide, fun i hi => by
  obtain rfl : i = 0 := by have : i < 1 := hi; omega
  rfl⟩
theorem tyOK0 (l : List Dcl) (b : Bool) {k : Int} (hk : k = 2 ∨ k = 4) : TyOK l b ⟨k, [], []⟩ := by
  refine .mk ?_ (fun _ => rfl) (fun h => ?_) (fun h => ?_) (fun h => ?_) (fun i hi => absurd hi (Nat.not_lt_zero _))
  · rcases hk with rfl | rfl <;> rfl
  all_goals (simp only [] at h; omega)
theorem tyOK9 (l : List Dcl) : TyOK l false ⟨9, [], [⟨4, [], []⟩]⟩ := by
  refine .mk rfl (fun _ => rfl) (fun h => ?_) (fun _ => rfl) (fun h => ?_) (fun i hi => ?_)
  · simp only [] at h; omega
  · simp only [] at h; omega
  · obtain rfl : i = 0 := by have : i < 1 := hi; omega
    exact tyOK0 l true (.inr rfl)
theorem well1 : WellL sc1 := fun i hi => by
  obtain rfl : i = 0 := by have : i < 1 := hi; omega
  refine ⟨rfl, .inl rfl, ⟨fun f hf => ?_, fun f hf _ => ?_⟩, ⟨(fun m hm => by cases hm), (fun m hm => by cases hm)⟩, by decide, by decide, fun h => by rcases h with h | h <;> exact absurd h (by decide)⟩
  · obtain rfl : f = fA := List.mem_singleton.1 hf
    decide
  · obtain rfl : f = fA := List.mem_singleton.1 hf
    exact ⟨tyOK0 _ _ (.inl rfl), by decide⟩
theorem well2 : WellL sc2 := fun i hi => by
  obtain rfl : i = 0 := by have : i < 1 := hi; omega
  have hm : ∀ f : Fld, f ∈ [fA, fB] → f = fA ∨ f = fB := fun f hf => by simpa using hf
  refine ⟨rfl, .inl rfl, ⟨fun f hf => ?_, fun f hf _ => ?_⟩, ⟨(fun m hm => by cases hm), (fun m hm => by cases hm)⟩, by decide, by decide, fun h => by rcases h with h | h <;> exact absurd h (by decide)⟩
  · rcases hm f hf with rfl | rfl <;> decide
  · rcases hm f hf with rfl | rfl
    · exact ⟨tyOK0 _ _ (.inl rfl), by decide⟩
    · exact ⟨tyOK9 _, fun h => absurd h (by decide)⟩
theorem fin1 : FinL sc1 := fun i hi => by
  obtain rfl : i = 0 := by have : i < 1 := hi; omega
  decide
theorem fin2 : FinL sc2 := fun i hi => by
  obtain rfl : i = 0 := by have : i < 1 := hi; omega
  decide

theorem SrtOf.ofSelf {F : List Fld} (h : F.Pairwise (fun a b => a.tag < b.tag)) : SrtOf F F := by
  refine ⟨rfl, PermOn.refl _ _ _, fun i j _ hij hj => ?_⟩
  simp only []
  rcases Nat.eq_or_lt_of_le hij with rfl | hlt
  · exact Int.le_refl _
  · have hi : i < F.length := by omega
    rw [getD_at hi, getD_at hj]
    exact Int.le_of_lt (List.pairwise_iff_getElem.1 h i j hi hj hlt)
theorem rows1 : RowsOK sc1 [[fA]] := ⟨rfl, fun i hi => by
  obtain rfl : i = 0 := by have : i < 1 := hi; omega
  exact SrtOf.ofSelf (by decide)⟩
theorem rows2 : RowsOK sc2 [[fA, fB]] := ⟨rfl, fun i hi => by
  obtain rfl : i = 0 := by have : i < 1 := hi; omega
  exact SrtOf.ofSelf (by decide)⟩
theorem rowsU1 : rowsU sc1 [80] = [fA] := by rw [← rowsU_eq well1 rows1]; rfl
theorem rowsU2 : rowsU sc2 [80] = [fA, fB] := by rw [← rowsU_eq well2 rows2]; rfl

theorem fine12 : ∀ d, d ∈ sc1 → Fine sc1 sc2 d := fun d hd => by
  obtain rfl := List.mem_singleton.1 hd
  refine ⟨by decide, by decide, fun f hf => ?_, rfl, fun f hf => ?_⟩
  · simp only [rowsU1, rowsU2] at hf ⊢
    obtain rfl := List.mem_singleton.1 hf
    have h1 : hasJ [fA, fB] fA.tag = true := by decide
    have h2 : fldJ [fA, fB] fA.tag = fA := by rfl
    rw [rowE, if_pos h1, h2, sameT_true.2 rfl]; rfl
  · simp only [rowsU1, rowsU2] at hf ⊢
    have hm : f = fA ∨ f = fB := by simpa using hf
    rcases hm with rfl | rfl <;> decide
theorem fine21 : ∀ d, d ∈ sc2 → Fine sc2 sc1 d := fun d hd => by
  obtain rfl := List.mem_singleton.1 hd
  refine ⟨by decide, by decide, fun f hf => ?_, rfl, fun f hf => ?_⟩
  · simp only [rowsU1, rowsU2] at hf ⊢
    have hm : f = fA ∨ f = fB := by simpa using hf
    rcases hm with rfl | rfl
    · have h1 : hasJ [fA] fA.tag = true := by decide
      have h2 : fldJ [fA] fA.tag = fA := by rfl
      rw [rowE, if_pos h1, h2, sameT_true.2 rfl]; rfl
    · have h1 : hasJ [fA] fB.tag = false := by decide
      rw [rowE, h1, if_neg (by decide), if_pos (by decide)]
  · simp only [rowsU1, rowsU2] at hf ⊢
    obtain rfl := List.mem_singleton.1 hf
    decide
theorem gone21 : goneF (rowsU sc1 [80]) (rowsU sc2 [80]) = [2] := by rw [rowsU1, rowsU2]; decide
end Go.Proofs

/- The law's own example: read, checked both ways. -/
set_option linter.unusedSimpArgs false
set_option linter.unusedVariables false
set_option maxRecDepth 100000
namespace Go.Proofs
open Go.Sy Go.Lib

theorem hfo1 : ∀ nm, (rowsU sc1 nm).length ≤ 1000 ∧ ∀ f, f ∈ rowsU sc1 nm → FewT f.ty := fun nm => fewU prep1 well1 ⟨_, rows1⟩
theorem hfo2 : ∀ nm, (rowsU sc2 nm).length ≤ 1000 ∧ ∀ f, f ∈ rowsU sc2 nm → FewT f.ty := fun nm => fewU prep2 well2 ⟨_, rows2⟩

theorem awake_A (m : Int) : FnA Tryz.prog 43 [] [glbA m] (fun r cs' => r = B true ∧ cs' = [glbA m]) := by
  refine FnA.intro Tryz.tabOK Tryz.wide_ Tryz.func43 rfl (by decide) rfl (fun X => ?_)
  repeat (first | refine sc rfl ?_ | refine so rfl ?_ | refine sb rfl ?_)
  refine O_callA [0] (Read_A m tx1 sc1 (.inl par1) fewL1 ⟨well1, fin1⟩) (by rfl) (by rfl) (by rfl) (by rfl) (by rfl) ?_
  rintro r cs' ⟨b1, rfl, rfl⟩
  repeat (first | refine sc rfl ?_ | refine so rfl ?_ | refine sb rfl ?_)
  first
    | refine O_callA [1] (Read_A m tx2 sc2 (.inl par2) fewL2 ⟨well2, fin2⟩) (by rfl) (by rfl) (by rfl) (by rfl) (by rfl) ?_
    | refine O_callA [2] (Read_A m tx2 sc2 (.inl par2) fewL2 ⟨well2, fin2⟩) (by rfl) (by rfl) (by rfl) (by rfl) (by rfl) ?_
  rintro r cs' ⟨b2, rfl, rfl⟩
  repeat (first | refine sc rfl ?_ | refine so rfl ?_ | refine sb rfl ?_)
  refine O_callA [4, 1] (Check_A b1 b2 sc1 sc2 fewL1 prep1 well1 prep2 well2 hfo1 (fun nm => (hfo2 nm).1) fine12) (by rfl) (by rfl) (by rfl) (by rfl) (by rfl) ?_
  rintro r cs' ⟨rfl, rfl⟩
  repeat (first | refine sc rfl ?_ | refine so rfl ?_ | refine sb rfl ?_)
  refine O_callA [1, 0] (Check_A b2 b1 sc2 sc1 fewL2 prep2 well2 prep1 well1 hfo2 (fun nm => (hfo1 nm).1) fine21) (by rfl) (by rfl) (by rfl) (by rfl) (by rfl) ?_
  rintro r cs' ⟨rfl, rfl⟩
  repeat (first | refine sc rfl ?_ | refine so rfl ?_ | refine sb rfl ?_)
  refine O_callA [0, 0] (Gone_A b2 b1 sc2 sc1 prep2 well2 prep1 well1 [80] (hfo2 _).1) (by rfl) (by rfl) (by rfl) (by rfl) (by rfl) ?_
  rintro r cs' ⟨rfl, rfl⟩
  rw [gone21]
  repeat (first | refine sc rfl ?_ | refine so rfl ?_ | refine sb rfl ?_)
  refine ⟨by decide, ?_⟩
  repeat (first | refine sc rfl ?_ | refine so rfl ?_ | refine sb rfl ?_)
  exact ⟨_, [_], _, rfl, pickA_perm (is := [3]) (As := [_]) rfl, rfl, rfl, rfl⟩
end Go.Proofs

/- The law CompatTypes: it answers true. -/
set_option linter.unusedSimpArgs false
set_option linter.unusedVariables false
set_option maxRecDepth 100000
namespace Go.Proofs
open Go.Sy Go.Lib

def ctF (a b : Ty) : List Fld := [⟨0, [], a⟩, ⟨0, [], b⟩]
def ctD (a b : Ty) : Dcl := ⟨0, [], ctF a b, [], 0⟩
theorem compatTypes_A (m : Int) (a b : Ty) : FnA Tryz.prog 8 [.agg (Ty.c a), .agg (Ty.c b)] [glbA m] (fun r cs' => r = B true ∧ cs' = [glbA m]) := by
  refine FnA.intro Tryz.tabOK Tryz.wide_ Tryz.func8 rfl (by decide) rfl (fun X => ?_)
  repeat (first | refine O_le _ (Le.lit 9 Fld.c (ctF a b) rfl rfl rfl (by intro j hj; match j, hj with | 0, _ => rfl | 1, _ => rfl)) ?_ | refine O_le _ (Le.agg 10 (Dcl.c (ctD a b)) rfl (.cons .refl (.cons .refl (.cons .refl (.cons .nil (.cons .refl .nil)))))) ?_ | refine O_le _ (Le.lit 11 Dcl.c ([ctD a b] : List Dcl) rfl rfl rfl (by intro j hj; match j, hj with | 0, _ => rfl)) ?_ | refine sc rfl ?_ | refine so rfl ?_ | refine sb rfl ?_)
  refine O_call (Great_c [ctD a b]) (by rfl) (by rfl) (by rfl) (by rfl) (fun r hr => ?_)
  obtain ⟨g, rfl, hg⟩ := hr
  cases g with
  | true =>
    repeat (first | refine sc rfl ?_ | refine so rfl ?_ | refine sb rfl ?_)
    refine C_true rfl rfl ?_
    repeat (first | refine sc rfl ?_ | refine so rfl ?_ | refine sb rfl ?_)
    first
      | refine O_callA [0] (awake_A m) (by rfl) (by rfl) (by rfl) (by rfl) (by rfl) ?_
      | refine O_callA [1] (awake_A m) (by rfl) (by rfl) (by rfl) (by rfl) (by rfl) ?_
      | refine O_callA [2] (awake_A m) (by rfl) (by rfl) (by rfl) (by rfl) (by rfl) ?_
      | refine O_callA [3] (awake_A m) (by rfl) (by rfl) (by rfl) (by rfl) (by rfl) ?_
      | refine O_callA [4] (awake_A m) (by rfl) (by rfl) (by rfl) (by rfl) (by rfl) ?_
    rintro r cs' ⟨rfl, rfl⟩
    repeat (first | refine sc rfl ?_ | refine so rfl ?_ | refine sb rfl ?_)
    first
      | exact ⟨_, [_], _, rfl, pickA_perm (is := [0]) (As := [_]) rfl, rfl, rfl, rfl⟩
      | exact ⟨_, [_], _, rfl, pickA_perm (is := [1]) (As := [_]) rfl, rfl, rfl, rfl⟩
      | exact ⟨_, [_], _, rfl, pickA_perm (is := [2]) (As := [_]) rfl, rfl, rfl, rfl⟩
      | exact ⟨_, [_], _, rfl, pickA_perm (is := [3]) (As := [_]) rfl, rfl, rfl, rfl⟩
      | exact ⟨_, [_], _, rfl, pickA_perm (is := [4]) (As := [_]) rfl, rfl, rfl, rfl⟩
  | false =>
    have hL := hg rfl
    have hFa : FewT a := (hL.1.2 0 (Nat.zero_lt_succ _)).f.2 0 (Nat.zero_lt_succ _)
    repeat (first | refine sc rfl ?_ | refine so rfl ?_ | refine sb rfl ?_)
    refine C_false rfl rfl ?_
    repeat (first | refine sc rfl ?_ | refine so rfl ?_ | refine sb rfl ?_)
    refine C_le _ (Le.freezebox 2 rfl rfl rfl) ?_
    refine C_le _ (Le.freezebox 3 rfl rfl rfl) ?_
    have hS := SameT_c _ a b (Nat.le_refl _) hFa
    have hT := CType_c _ a b (Nat.le_refl _) hFa
    have hU := CType_c _ a a (Nat.le_refl _) hFa
    rw [sameT_true.2 (rfl : a = a)] at hU
    generalize sameT a b = v at hS hT
    refine C_drawM PJ0 (fun L => [.abs (glbA m)]) rfl (by kernel_rfl) (fun L L' h => rfl) rfl ?_
    cases v
    all_goals
      repeat (refine sm rfl ⟨trivial, ?_⟩)
      refine SM (B _) rfl (fun L h1 h2 h3 => X_callA [] (FnP.toA hT []) rfl rfl rfl rfl rfl) ?_
      repeat (refine sm rfl ⟨trivial, ?_⟩)
      refine SM (B _) rfl (fun L h1 h2 h3 => X_callA [] (FnP.toA hS []) rfl rfl rfl rfl rfl) ?_
      repeat (refine sm rfl ⟨trivial, ?_⟩)
      refine SM (B true) rfl (fun L h1 h2 h3 => X_callA [] (FnP.toA hU []) rfl rfl rfl rfl rfl) ?_
      repeat (refine sm rfl ⟨trivial, ?_⟩)
      refine SM (B true) rfl (fun L h1 h2 h3 => X_callA [0] (awake_A m) rfl rfl rfl rfl rfl) ?_
      repeat (refine sm rfl ⟨trivial, ?_⟩)
      refine sm rfl ?_
      show SymC _ _ _ ⟨_, [.abs (glbA m)]⟩ _
      repeat (first | refine sc rfl ?_ | refine so rfl ?_ | refine sb rfl ?_)
      first
        | exact ⟨_, [_], _, rfl, pickA_perm (is := [0]) (As := [_]) rfl, rfl, rfl, rfl⟩
        | exact ⟨_, [_], _, rfl, pickA_perm (is := [1]) (As := [_]) rfl, rfl, rfl, rfl⟩
        | exact ⟨_, [_], _, rfl, pickA_perm (is := [2]) (As := [_]) rfl, rfl, rfl, rfl⟩
        | exact ⟨_, [_], _, rfl, pickA_perm (is := [3]) (As := [_]) rfl, rfl, rfl, rfl⟩
        | exact ⟨_, [_], _, rfl, pickA_perm (is := [4]) (As := [_]) rfl, rfl, rfl, rfl⟩
end Go.Proofs

/- The closed facts of the row, limb by limb. -/
set_option maxRecDepth 100000
namespace Go.Proofs.YtgmdpfoccnalnaaGreat.compatTypesDone
open Go.ChangeShapes Go.WideShapes

theorem fact1 : Rows.compatTypesRow.wf (OpenSpec.ofChange Rows.compatTypesSpec) = true := by kernel_rfl
theorem fact2 : laidOutB Tryz.prog = true := by kernel_rfl
theorem fact3 : mapsRowed Tryz.prog = true := by kernel_rfl
theorem fact4 : Tryz.f8.params.all (Program.readableRec Tryz.prog ·) = true := by kernel_rfl
theorem fact5 : namedTie Tryz.prog Rows.compatTypesRow.named Rows.compatTypesSpec.vars = true := by kernel_rfl
theorem fact6 : (Rows.compatTypesRow.stops == []) = true := by kernel_rfl
theorem fact7 : (Tryz.prog.stops == []) = true := by kernel_rfl
theorem fact8 : (Rows.compatTypesRow.knobs == []) = true := by kernel_rfl
theorem fact9 : (Tryz.prog.stopKnobs == []) = true := by kernel_rfl
theorem fact10 : (Rows.compatTypesRow.inPlace == Tryz.prog.inPlace 8) = true := by kernel_rfl
theorem fact11 : (Rows.compatTypesRow.unfollowed == Tryz.prog.unfollowed 8) = true := by kernel_rfl
theorem fact12 : (Rows.compatTypesRow.recurses == Tryz.prog.recurses 8) = true := by kernel_rfl
theorem fact13 : (Rows.compatTypesRow.named == Tryz.prog.varsNamed 8) = true := by kernel_rfl
theorem fact14 : (Rows.compatTypesRow.maps == (Tryz.f8.params.toList ++ Rows.compatTypesSpec.plain.varTypes Tryz.prog).any (Program.mapsRec Tryz.prog ·)) = true := by kernel_rfl
theorem fact15 : (Rows.compatTypesRow.ifaces == (Tryz.f8.params.toList ++ Rows.compatTypesSpec.plain.varTypes Tryz.prog).any (Program.ifacesRec Tryz.prog ·)) = true := by kernel_rfl
theorem fact16 : (Rows.compatTypesRow.mapsOut == Program.mapsAmong Tryz.prog Tryz.f8.resultTypes.toList) = true := by kernel_rfl
theorem fact17 : (Rows.compatTypesRow.loops == (Tryz.f8.params.toList ++ Rows.compatTypesSpec.plain.varTypes Tryz.prog).any (Program.loopsFrom Tryz.prog ·)) = true := by kernel_rfl
theorem fact18 : (Rows.compatTypesRow.wideKeys == (Tryz.f8.params.toList ++ Rows.compatTypesSpec.plain.varTypes Tryz.prog ++ Tryz.f8.resultTypes.toList).any (Program.wideKeysFrom Tryz.prog ·)) = true := by kernel_rfl
theorem fact19 : Rows.compatTypesSpec.vars.all (Program.varReadable Tryz.prog ·) = true := by kernel_rfl
theorem fact20 : Tryz.f8.resultTypes.all (fun t => Program.readableRec Tryz.prog t && decide (t < Tryz.prog.types.size)) = true := by kernel_rfl
theorem fact21 : (Rows.compatTypesRow.ifacesOut == Tryz.f8.resultTypes.toList.any (Program.ifacesRec Tryz.prog ·)) = true := by kernel_rfl
theorem fact22 : (Rows.compatTypesRow.loopsOut == Tryz.f8.resultTypes.toList.any (Program.loopsFrom Tryz.prog ·)) = true := by kernel_rfl
theorem fact23 : (Rows.compatTypesRow.plainKeys == Tryz.prog.plainKeys) = true := by kernel_rfl
theorem fact24 : Rows.compatTypesRow.shortTexts.isNone = true := by kernel_rfl
theorem fact25 : Tryz.prog.stopsHeard = true := by kernel_rfl
theorem fact26 : Tryz.prog.mayEnter = true := by kernel_rfl
theorem fact27 : (Rows.compatTypesRow.lifted == Tryz.prog.liftsFinal) = true := by kernel_rfl
theorem fact28 : (Program.make Tryz.prog == some Rows.compatTypesRow.make) = true := by kernel_rfl
theorem fact30 : (Rows.compatTypesRow.pinned == Rows.compatTypesRow.pinnedBy) = true := by kernel_rfl
theorem fact31 : (Rows.compatTypesRow.veiled == (Tryz.f8.params.toList ++ Rows.compatTypesSpec.plain.varTypes Tryz.prog ++ Tryz.f8.resultTypes.toList).any (Program.veiledRec Tryz.prog ·)) = true := by kernel_rfl
theorem fact32 : Rows.compatTypesRow.veiledFits Tryz.prog Tryz.f8.params.toList (Tryz.f8.params.toList ++ Rows.compatTypesSpec.plain.varTypes Tryz.prog ++ Tryz.f8.resultTypes.toList) = true := by kernel_rfl
theorem facts : joinedFacts Tryz.prog 8 Tryz.f8 Rows.compatTypesSpec Rows.compatTypesRow = true := by
  unfold joinedFacts
  simp only [Bool.and_eq_true]
  exact ⟨⟨⟨⟨⟨⟨⟨⟨⟨⟨⟨⟨⟨⟨⟨⟨⟨⟨⟨⟨⟨⟨⟨⟨⟨⟨⟨⟨⟨⟨⟨fact1, fact2⟩, fact3⟩, fact4⟩, fact5⟩, fact6⟩, fact7⟩, fact8⟩, fact9⟩, fact10⟩, fact11⟩, fact12⟩, fact13⟩, fact14⟩, fact15⟩, fact16⟩, fact17⟩, fact18⟩, fact19⟩, fact20⟩, fact21⟩, fact22⟩, fact23⟩, fact24⟩, fact25⟩, fact26⟩, fact27⟩, fact28⟩, (by kernel_rfl)⟩, fact30⟩, fact31⟩, fact32⟩
end Go.Proofs.YtgmdpfoccnalnaaGreat.compatTypesDone
