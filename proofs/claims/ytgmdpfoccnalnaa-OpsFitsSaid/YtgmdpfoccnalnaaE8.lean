/- The law's guard, and the answers of the document (printed by gen.py) -/
import Derived.Test.YtgmdpfoccnalnaaE7
set_option linter.unusedSimpArgs false
set_option linter.unusedVariables false
set_option maxRecDepth 100000
namespace Go.Proofs
open Go.Sy Go.Lib

noncomputable def Find_L1 (l : List Dcl) (nm : List UInt8) (s1 : Int) : Option ((Int) ⊕ ((Int) ⊕ (Unit))) :=
  cond (decide (s1 < (l.length : Int))) (chk ((0 : Int) ≤ s1 ∧ s1 < (l.length : Int)) (cond (((l.getD (Int.toNat s1) default).name) == nm) (some (Sum.inr ((Sum.inl s1)))) (some (Sum.inl (IntKind.i64.wrap (s1 + 1)))))) (some (Sum.inr ((Sum.inr ()))))
noncomputable def Find_F (l : List Dcl) (nm : List UInt8) : Option (Int) :=
  Option.bind (Iter (Find_L1 l nm) 0) (Sum.elim (fun c10 => some c10) (fun b6 => some (-1)))
theorem Find_w (l : List Dcl) (nm : List UInt8) (r : Int) (h : Find_F l nm = some r) : FnP Try.prog 49 [SL 5 Dcl.c l, .s nm] (· = I64 r) := by
  unfold Find_F at h
  refine FnP.intro Try.tabOK Try.wide_ Try.func49 rfl (by decide) rfl (fun X => ?_)
  refine sc rfl ?_
  refine sc rfl ?_
  iterate 1 (first | refine so rfl ?_ | refine sb rfl ?_)
  refine so rfl ?_
  refine sc rfl ?_
  refine sc rfl ?_
  refine sc rfl ?_
  iterate 1 (first | refine so rfl ?_ | refine sb rfl ?_)
  refine so rfl ?_
  obtain ⟨o2, ho2, h⟩ := bT h
  refine C_joinP ((fun b6 : Unit => (⟨[], []⟩ : St)) (match o2 with | (.inl b6) => default | (.inr b6) => b6)) (∃ b, o2 = (.inr b)) ?_ (fun s hs hp => ?_)
  · refine sc rfl ?_
    refine C_iter (fun s1 : Int => ⟨[(0, SL 5 Dcl.c l), (1, .s nm), (5, I64 s1)], []⟩) ho2 (Le.sub [] ⟨rfl, rfl, rfl, trivial⟩ rfl) (fun s1 y3 hy4 hr5 => ?_)
    unfold Find_L1 at hy4
    refine sc rfl ?_
    refine sc rfl ?_
    refine sc rfl ?_
    iterate 4 (first | refine so rfl ?_ | refine sb rfl ?_)
    refine so rfl ?_
    refine C_if rfl (fun hb7 => ?_) (fun hb7 => ?_)
    · replace hy4 := cT hb7 hy4
      refine sc rfl ?_
      refine sc rfl ?_
      refine sc rfl ?_
      refine sc rfl ?_
      refine sc rfl ?_
      iterate 2 (first | refine so rfl ?_ | refine sb rfl ?_)
      obtain ⟨g8, hy4⟩ := gT hy4
      refine so rfl (And.intro g8 ?_)
      iterate 4 (first | refine so rfl ?_ | refine sb rfl ?_)
      refine so rfl ?_
      refine C_if rfl (fun hb9 => ?_) (fun hb9 => ?_)
      · replace hy4 := cT hb9 hy4
        refine sc rfl ?_
        refine sc rfl ?_
        iterate 2 (first | refine so rfl ?_ | refine sb rfl ?_)
        refine so rfl ?_
        refine sc rfl ?_
        obtain rfl := Option.some.inj hy4
        have ho22 := hr5 _ rfl
        subst ho22
        obtain rfl := Option.some.inj h
        exact ⟨_, rfl, rfl, rfl⟩
      · replace hy4 := cF hb9 hy4
        refine sc rfl ?_
        refine sc rfl ?_
        iterate 3 (first | refine so rfl ?_ | refine sb rfl ?_)
        refine so rfl ?_
        obtain rfl := Option.some.inj hy4
        exact ⟨_, rfl, Le.sub [] ⟨rfl, rfl, rfl, trivial⟩ rfl⟩
    · replace hy4 := cF hb7 hy4
      refine sc rfl ?_
      obtain rfl := Option.some.inj hy4
      have ho22 := hr5 _ rfl
      subst ho22
      exact ⟨Le.sub [] trivial rfl, ⟨_, rfl⟩⟩
  obtain ⟨b6, rfl⟩ := hp
  refine C_le ⟨[], []⟩ hs ?_
  refine sc rfl ?_
  refine sc rfl ?_
  iterate 1 (first | refine so rfl ?_ | refine sb rfl ?_)
  refine so rfl ?_
  refine sc rfl ?_
  obtain rfl := Option.some.inj h
  exact ⟨_, rfl, rfl, rfl⟩
noncomputable def KindR_F (l : List Dcl) (nm : List UInt8) : Option (Int) :=
  Option.bind (Find_F l nm) (fun r1 => cond (decide (r1 < 0)) (some 0) (chk ((0 : Int) ≤ r1 ∧ r1 < (l.length : Int)) (some ((l.getD (Int.toNat r1) default).kind))))
theorem KindR_w (l : List Dcl) (nm : List UInt8) (r : Int) (h : KindR_F l nm = some r) : FnP Try.prog 37 [SL 5 Dcl.c l, .s nm] (· = I64 r) := by
  unfold KindR_F at h
  refine FnP.intro Try.tabOK Try.wide_ Try.func37 rfl (by decide) rfl (fun X => ?_)
  refine sc rfl ?_
  refine sc rfl ?_
  iterate 1 (first | refine so rfl ?_ | refine sb rfl ?_)
  refine so rfl ?_
  refine sc rfl ?_
  refine sc rfl ?_
  iterate 2 (first | refine so rfl ?_ | refine sb rfl ?_)
  obtain ⟨r1, hr2, h⟩ := bT h
  refine O_call (Find_w _ _ _ hr2) (by rfl) (by rfl) (by rfl) (by rfl) (fun q3 hq3 => ?_)
  subst hq3
  iterate 1 (first | refine so rfl ?_ | refine sb rfl ?_)
  refine so rfl ?_
  refine sc rfl ?_
  refine sc rfl ?_
  refine sc rfl ?_
  iterate 2 (first | refine so rfl ?_ | refine sb rfl ?_)
  refine so rfl ?_
  refine C_if rfl (fun hb4 => ?_) (fun hb4 => ?_)
  · replace h := cT hb4 h
    refine sc rfl ?_
    refine sc rfl ?_
    iterate 1 (first | refine so rfl ?_ | refine sb rfl ?_)
    refine so rfl ?_
    refine sc rfl ?_
    obtain rfl := Option.some.inj h
    exact ⟨_, rfl, rfl, rfl⟩
  · replace h := cF hb4 h
    refine sc rfl ?_
    refine sc rfl ?_
    refine sc rfl ?_
    iterate 2 (first | refine so rfl ?_ | refine sb rfl ?_)
    obtain ⟨g5, h⟩ := gT h
    refine so rfl (And.intro g5 ?_)
    iterate 3 (first | refine so rfl ?_ | refine sb rfl ?_)
    refine so rfl ?_
    refine sc rfl ?_
    obtain rfl := Option.some.inj h
    exact ⟨_, rfl, rfl, rfl⟩
noncomputable def FieldR_L1 (d : Dcl) (tag : Int) (s1 : Int) : Option ((Int) ⊕ ((Int) ⊕ (Unit))) :=
  cond (decide (s1 < (d.fields.length : Int))) (chk ((0 : Int) ≤ s1 ∧ s1 < (d.fields.length : Int)) (cond (((d.fields.getD (Int.toNat s1) default).tag) == tag) (some (Sum.inr ((Sum.inl s1)))) (some (Sum.inl (IntKind.i64.wrap (s1 + 1)))))) (some (Sum.inr ((Sum.inr ()))))
noncomputable def FieldR_F (d : Dcl) (tag : Int) : Option (Int) :=
  Option.bind (Iter (FieldR_L1 d tag) 0) (Sum.elim (fun c10 => some c10) (fun b6 => some (-1)))
theorem FieldR_w (d : Dcl) (tag : Int) (r : Int) (h : FieldR_F d tag = some r) : FnP Try.prog 67 [.agg (Dcl.c d), I64 tag] (· = I64 r) := by
  unfold FieldR_F at h
  refine FnP.intro Try.tabOK Try.wide_ Try.func67 rfl (by decide) rfl (fun X => ?_)
  refine sc rfl ?_
  refine sc rfl ?_
  iterate 2 (first | refine so rfl ?_ | refine sb rfl ?_)
  refine so rfl ?_
  refine sc rfl ?_
  refine sc rfl ?_
  refine sc rfl ?_
  iterate 1 (first | refine so rfl ?_ | refine sb rfl ?_)
  refine so rfl ?_
  obtain ⟨o2, ho2, h⟩ := bT h
  refine C_joinP ((fun b6 : Unit => (⟨[], []⟩ : St)) (match o2 with | (.inl b6) => default | (.inr b6) => b6)) (∃ b, o2 = (.inr b)) ?_ (fun s hs hp => ?_)
  · refine sc rfl ?_
    refine C_iter (fun s1 : Int => ⟨[(1, I64 tag), (2, .bp 2 0), (5, I64 s1)], [.box 2 68 [I64 d.kind, .s d.name, SL 5 Fld.c d.fields, SL 5 Mth.c d.methods, I64 d.fat]]⟩) ho2 (Le.sub [2] ⟨rfl, rfl, rfl, trivial⟩ rfl) (fun s1 y3 hy4 hr5 => ?_)
    unfold FieldR_L1 at hy4
    refine sc rfl ?_
    refine sc rfl ?_
    refine sc rfl ?_
    iterate 5 (first | refine so rfl ?_ | refine sb rfl ?_)
    refine so rfl ?_
    refine C_if rfl (fun hb7 => ?_) (fun hb7 => ?_)
    · replace hy4 := cT hb7 hy4
      refine sc rfl ?_
      refine sc rfl ?_
      refine sc rfl ?_
      refine sc rfl ?_
      refine sc rfl ?_
      iterate 3 (first | refine so rfl ?_ | refine sb rfl ?_)
      obtain ⟨g8, hy4⟩ := gT hy4
      refine so rfl (And.intro g8 ?_)
      iterate 4 (first | refine so rfl ?_ | refine sb rfl ?_)
      refine so rfl ?_
      refine C_if rfl (fun hb9 => ?_) (fun hb9 => ?_)
      · replace hy4 := cT hb9 hy4
        refine sc rfl ?_
        refine sc rfl ?_
        iterate 2 (first | refine so rfl ?_ | refine sb rfl ?_)
        refine so rfl ?_
        refine sc rfl ?_
        obtain rfl := Option.some.inj hy4
        have ho22 := hr5 _ rfl
        subst ho22
        obtain rfl := Option.some.inj h
        exact ⟨_, rfl, rfl, rfl⟩
      · replace hy4 := cF hb9 hy4
        refine sc rfl ?_
        refine sc rfl ?_
        iterate 3 (first | refine so rfl ?_ | refine sb rfl ?_)
        refine so rfl ?_
        obtain rfl := Option.some.inj hy4
        exact ⟨_, rfl, Le.sub [2] ⟨rfl, rfl, rfl, trivial⟩ rfl⟩
    · replace hy4 := cF hb7 hy4
      refine sc rfl ?_
      obtain rfl := Option.some.inj hy4
      have ho22 := hr5 _ rfl
      subst ho22
      exact ⟨Le.sub [] trivial rfl, ⟨_, rfl⟩⟩
  obtain ⟨b6, rfl⟩ := hp
  refine C_le ⟨[], []⟩ hs ?_
  refine sc rfl ?_
  refine sc rfl ?_
  iterate 1 (first | refine so rfl ?_ | refine sb rfl ?_)
  refine so rfl ?_
  refine sc rfl ?_
  obtain rfl := Option.some.inj h
  exact ⟨_, rfl, rfl, rfl⟩
noncomputable def RowR_F (l : List Dcl) (nm : List UInt8) (tag : Int) : Option (Fld × Bool) :=
  Option.bind (Find_F l nm) (fun r1 => cond (decide (r1 < 0)) (some ((⟨0, [], (⟨0, [], ([] : List Ty)⟩ : Ty)⟩ : Fld), false)) (chk ((0 : Int) ≤ r1 ∧ r1 < (l.length : Int)) (Option.bind (FieldR_F (l.getD (Int.toNat r1) default) tag) (fun r6 => cond (decide (r6 < 0)) (some ((⟨0, [], (⟨0, [], ([] : List Ty)⟩ : Ty)⟩ : Fld), false)) (chk ((0 : Int) ≤ r1 ∧ r1 < (l.length : Int)) (chk ((0 : Int) ≤ r6 ∧ r6 < (((l.getD (Int.toNat r1) default).fields).length : Int)) (some ((⟨(((l.getD (Int.toNat r1) default).fields).getD (Int.toNat r6) default).tag, (((l.getD (Int.toNat r1) default).fields).getD (Int.toNat r6) default).name, ((((l.getD (Int.toNat r1) default).fields).getD (Int.toNat r6) default).ty)⟩ : Fld), true))))))))
theorem RowR_w (l : List Dcl) (nm : List UInt8) (tag : Int) (r : Fld × Bool) (h : RowR_F l nm tag = some r) : FnP Try.prog 50 [SL 5 Dcl.c l, .s nm, I64 tag] (· = .tup [.agg (Fld.c r.1), B r.2]) := by
  unfold RowR_F at h
  refine FnP.intro Try.tabOK Try.wide_ Try.func50 rfl (by decide) rfl (fun X => ?_)
  refine sc rfl ?_
  refine sc rfl ?_
  iterate 2 (first | refine so rfl ?_ | refine sb rfl ?_)
  refine so rfl ?_
  refine sc rfl ?_
  refine sc rfl ?_
  iterate 2 (first | refine so rfl ?_ | refine sb rfl ?_)
  obtain ⟨r1, hr2, h⟩ := bT h
  refine O_call (Find_w _ _ _ hr2) (by rfl) (by rfl) (by rfl) (by rfl) (fun q3 hq3 => ?_)
  subst hq3
  iterate 1 (first | refine so rfl ?_ | refine sb rfl ?_)
  refine so rfl ?_
  refine sc rfl ?_
  refine sc rfl ?_
  refine sc rfl ?_
  iterate 2 (first | refine so rfl ?_ | refine sb rfl ?_)
  refine so rfl ?_
  refine C_if rfl (fun hb4 => ?_) (fun hb4 => ?_)
  · replace h := cT hb4 h
    refine sc rfl ?_
    refine sc rfl ?_
    iterate 1 (first | refine so rfl ?_ | refine sb rfl ?_)
    refine O_le _ (Le.agg 15 [I64 0, .s [], I64 0, .s [], .sl ([] : List Ty).length 3 (Ty.rows ([] : List Ty))] rfl (.cons .refl (.cons .refl (.cons .refl (.cons .refl (.cons .nil .nil)))))) ?_
    iterate 2 (first | refine so rfl ?_ | refine sb rfl ?_)
    refine so rfl ?_
    refine sc rfl ?_
    obtain rfl := Option.some.inj h
    exact ⟨_, rfl, rfl, rfl⟩
  · replace h := cF hb4 h
    refine sc rfl ?_
    refine sc rfl ?_
    refine sc rfl ?_
    iterate 2 (first | refine so rfl ?_ | refine sb rfl ?_)
    obtain ⟨g5, h⟩ := gT h
    refine so rfl (And.intro g5 ?_)
    iterate 1 (first | refine so rfl ?_ | refine sb rfl ?_)
    iterate 1 (first | refine so rfl ?_ | refine sb rfl ?_)
    obtain ⟨r6, hr7, h⟩ := bT h
    refine O_call (FieldR_w _ _ _ hr7) (by rfl) (by rfl) (by rfl) (by rfl) (fun q8 hq8 => ?_)
    subst hq8
    iterate 1 (first | refine so rfl ?_ | refine sb rfl ?_)
    refine so rfl ?_
    refine sc rfl ?_
    refine sc rfl ?_
    refine sc rfl ?_
    iterate 2 (first | refine so rfl ?_ | refine sb rfl ?_)
    refine so rfl ?_
    refine C_if rfl (fun hb9 => ?_) (fun hb9 => ?_)
    · replace h := cT hb9 h
      refine sc rfl ?_
      refine sc rfl ?_
      iterate 1 (first | refine so rfl ?_ | refine sb rfl ?_)
      refine O_le _ (Le.agg 24 [I64 0, .s [], I64 0, .s [], .sl ([] : List Ty).length 3 (Ty.rows ([] : List Ty))] rfl (.cons .refl (.cons .refl (.cons .refl (.cons .refl (.cons .nil .nil)))))) ?_
      iterate 2 (first | refine so rfl ?_ | refine sb rfl ?_)
      refine so rfl ?_
      refine sc rfl ?_
      obtain rfl := Option.some.inj h
      exact ⟨_, rfl, rfl, rfl⟩
    · replace h := cF hb9 h
      refine sc rfl ?_
      refine sc rfl ?_
      refine sc rfl ?_
      iterate 2 (first | refine so rfl ?_ | refine sb rfl ?_)
      obtain ⟨g10, h⟩ := gT h
      refine so rfl (And.intro g10 ?_)
      iterate 3 (first | refine so rfl ?_ | refine sb rfl ?_)
      obtain ⟨g11, h⟩ := gT h
      refine so rfl (And.intro g11 ?_)
      iterate 1 (first | refine so rfl ?_ | refine sb rfl ?_)
      iterate 2 (first | refine so rfl ?_ | refine sb rfl ?_)
      refine so rfl ?_
      refine sc rfl ?_
      obtain rfl := Option.some.inj h
      exact ⟨_, rfl, rfl, rfl⟩
noncomputable def RowsR_L13 (l : List Dcl) (nm : List UInt8) (r1 : Int) (s5 : Int × List Fld) (s13 : Int × Int) : Option ((Int × Int) ⊕ ((Int))) :=
  chk ((0 : Int) ≤ r1 ∧ r1 < (l.length : Int)) (cond (decide (s13.2 < (((l.getD (Int.toNat r1) default).fields).length : Int))) (chk ((0 : Int) ≤ r1 ∧ r1 < (l.length : Int)) (chk ((0 : Int) ≤ s13.2 ∧ s13.2 < (((l.getD (Int.toNat r1) default).fields).length : Int)) (cond (decide (s5.1 < ((((l.getD (Int.toNat r1) default).fields).getD (Int.toNat s13.2) default).tag))) (cond (decide (s13.1 < 0)) (some (Sum.inl (s13.2, IntKind.i64.wrap (s13.2 + 1)))) (chk ((0 : Int) ≤ r1 ∧ r1 < (l.length : Int)) (chk ((0 : Int) ≤ s13.1 ∧ s13.1 < (((l.getD (Int.toNat r1) default).fields).length : Int)) (Option.bind (α := Int) (cond (decide (((((l.getD (Int.toNat r1) default).fields).getD (Int.toNat s13.2) default).tag) < ((((l.getD (Int.toNat r1) default).fields).getD (Int.toNat s13.1) default).tag))) (some s13.2) (some s13.1)) (fun m27 => some (Sum.inl (m27, IntKind.i64.wrap (s13.2 + 1)))))))) (some (Sum.inl (s13.1, IntKind.i64.wrap (s13.2 + 1))))))) (some (Sum.inr (s13.1))))
noncomputable def RowsR_L5 (l : List Dcl) (nm : List UInt8) (r1 : Int) (s5 : Int × List Fld) : Option ((Int × List Fld) ⊕ ((List Fld) ⊕ (List Fld))) :=
  chk ((0 : Int) ≤ r1 ∧ r1 < (l.length : Int)) (cond (decide ((s5.2.length : Int) < (((l.getD (Int.toNat r1) default).fields).length : Int))) (Option.bind (Iter (RowsR_L13 l nm r1 s5) ((-1), 0)) (fun o14 => cond (decide (o14 < 0)) (some (Sum.inr ((Sum.inl s5.2)))) (chk ((0 : Int) ≤ r1 ∧ r1 < (l.length : Int)) (chk ((0 : Int) ≤ o14 ∧ o14 < (((l.getD (Int.toNat r1) default).fields).length : Int)) (chk (s5.2.length < 100000000000) (chk ((0 : Int) ≤ r1 ∧ r1 < (l.length : Int)) (chk ((0 : Int) ≤ o14 ∧ o14 < (((l.getD (Int.toNat r1) default).fields).length : Int)) (some (Sum.inl ((((l.getD (Int.toNat r1) default).fields).getD (Int.toNat o14) default).tag, s5.2 ++ [(⟨(((l.getD (Int.toNat r1) default).fields).getD (Int.toNat o14) default).tag, (((l.getD (Int.toNat r1) default).fields).getD (Int.toNat o14) default).name, ((((l.getD (Int.toNat r1) default).fields).getD (Int.toNat o14) default).ty)⟩ : Fld)])))))))))) (some (Sum.inr ((Sum.inr s5.2)))))
noncomputable def RowsR_F (l : List Dcl) (nm : List UInt8) : Option (List Fld) :=
  Option.bind (Find_F l nm) (fun r1 => cond (decide (r1 < 0)) (some ([] : List Fld)) (Option.bind (Iter (RowsR_L5 l nm r1) ((-1), ([] : List Fld))) (Sum.elim (fun c35 => some c35) (fun b10 => some b10))))
theorem RowsR_w (l : List Dcl) (nm : List UInt8) (r : List Fld) (h : RowsR_F l nm = some r) : FnP Try.prog 51 [SL 5 Dcl.c l, .s nm] (· = SL 5 Fld.c r) := by
  unfold RowsR_F at h
  refine FnP.intro Try.tabOK Try.wide_ Try.func51 rfl (by decide) rfl (fun X => ?_)
  refine sc rfl ?_
  refine sc rfl ?_
  iterate 1 (first | refine so rfl ?_ | refine sb rfl ?_)
  refine so rfl ?_
  refine sc rfl ?_
  refine sc rfl ?_
  iterate 1 (first | refine so rfl ?_ | refine sb rfl ?_)
  refine so rfl ?_
  refine sc rfl ?_
  refine sc rfl ?_
  iterate 2 (first | refine so rfl ?_ | refine sb rfl ?_)
  obtain ⟨r1, hr2, h⟩ := bT h
  refine O_call (Find_w _ _ _ hr2) (by rfl) (by rfl) (by rfl) (by rfl) (fun q3 hq3 => ?_)
  subst hq3
  iterate 1 (first | refine so rfl ?_ | refine sb rfl ?_)
  refine so rfl ?_
  refine sc rfl ?_
  refine sc rfl ?_
  refine sc rfl ?_
  iterate 2 (first | refine so rfl ?_ | refine sb rfl ?_)
  refine so rfl ?_
  refine C_if rfl (fun hb4 => ?_) (fun hb4 => ?_)
  · replace h := cT hb4 h
    refine sc rfl ?_
    refine sc rfl ?_
    iterate 2 (first | refine so rfl ?_ | refine sb rfl ?_)
    refine so rfl ?_
    refine C_le _ (Le.one 4 (SL 5 Fld.c []) rfl .nil) ?_
    refine sc rfl ?_
    obtain rfl := Option.some.inj h
    exact ⟨_, rfl, rfl, rfl⟩
  · replace h := cF hb4 h
    refine sc rfl ?_
    refine sc rfl ?_
    refine sc rfl ?_
    iterate 1 (first | refine so rfl ?_ | refine sb rfl ?_)
    refine so rfl ?_
    refine sc rfl ?_
    refine C_le _ (Le.nilvec Fld.c 5 79 73 5 rfl rfl rfl) ?_
    obtain ⟨o6, ho6, h⟩ := bT h
    refine C_joinP ((fun b10 : List Fld => (⟨[(5, .own 79)], [VEC 79 73 5 Fld.c b10]⟩ : St)) (match o6 with | (.inl b10) => default | (.inr b10) => b10)) (∃ b, o6 = (.inr b)) ?_ (fun s hs hp => ?_)
    · refine sc rfl ?_
      refine C_iter (fun s5 : Int × List Fld => ⟨[(0, SL 5 Dcl.c l), (5, .own 79), (6, I64 r1), (7, I64 s5.1)], [VEC 79 73 5 Fld.c s5.2]⟩) ho6 (Le.sub [79] ⟨rfl, rfl, rfl, rfl, trivial⟩ rfl) (fun s5 y7 hy8 hr9 => ?_)
      unfold RowsR_L5 at hy8
      refine sc rfl ?_
      refine sc rfl ?_
      refine sc rfl ?_
      iterate 4 (first | refine so rfl ?_ | refine sb rfl ?_)
      obtain ⟨g11, hy8⟩ := gT hy8
      refine so rfl (And.intro g11 ?_)
      iterate 4 (first | refine so rfl ?_ | refine sb rfl ?_)
      refine so rfl ?_
      refine C_if rfl (fun hb12 => ?_) (fun hb12 => ?_)
      · replace hy8 := cT hb12 hy8
        refine sc rfl ?_
        refine sc rfl ?_
        refine sc rfl ?_
        refine sc rfl ?_
        iterate 1 (first | refine so rfl ?_ | refine sb rfl ?_)
        refine so rfl ?_
        refine sc rfl ?_
        refine sc rfl ?_
        refine sc rfl ?_
        iterate 1 (first | refine so rfl ?_ | refine sb rfl ?_)
        refine so rfl ?_
        obtain ⟨o14, ho14, hy8⟩ := bT hy8
        refine C_joinP ⟨[(0, SL 5 Dcl.c l), (5, .own 79), (6, I64 r1), (8, I64 o14)], [VEC 79 73 5 Fld.c s5.2]⟩ True ?_ (fun s hs hp => ?_)
        · refine sc rfl ?_
          refine C_iter (fun s13 : Int × Int => ⟨[(0, SL 5 Dcl.c l), (5, .own 79), (6, I64 r1), (7, I64 s5.1), (8, I64 s13.1), (9, I64 s13.2)], [VEC 79 73 5 Fld.c s5.2]⟩) ho14 (Le.sub [79] ⟨rfl, rfl, rfl, rfl, rfl, rfl, trivial⟩ rfl) (fun s13 y15 hy16 hr17 => ?_)
          unfold RowsR_L13 at hy16
          refine sc rfl ?_
          refine sc rfl ?_
          refine sc rfl ?_
          iterate 3 (first | refine so rfl ?_ | refine sb rfl ?_)
          obtain ⟨g19, hy16⟩ := gT hy16
          refine so rfl (And.intro g19 ?_)
          iterate 4 (first | refine so rfl ?_ | refine sb rfl ?_)
          refine so rfl ?_
          refine C_if rfl (fun hb20 => ?_) (fun hb20 => ?_)
          · replace hy16 := cT hb20 hy16
            refine sc rfl ?_
            refine sc rfl ?_
            refine sc rfl ?_
            refine sc rfl ?_
            refine sc rfl ?_
            iterate 2 (first | refine so rfl ?_ | refine sb rfl ?_)
            obtain ⟨g21, hy16⟩ := gT hy16
            refine so rfl (And.intro g21 ?_)
            iterate 3 (first | refine so rfl ?_ | refine sb rfl ?_)
            obtain ⟨g22, hy16⟩ := gT hy16
            refine so rfl (And.intro g22 ?_)
            iterate 3 (first | refine so rfl ?_ | refine sb rfl ?_)
            refine so rfl ?_
            refine sc rfl ?_
            refine sc rfl ?_
            iterate 4 (first | refine so rfl ?_ | refine sb rfl ?_)
            refine O_case 48 rfl (fun hb23 => ?_) (fun hb23 => ?_)
            · replace hy16 := cT hb23 hy16
              iterate 3 (first | refine so rfl ?_ | refine sb rfl ?_)
              refine O_case 51 rfl (fun hb24 => ?_) (fun hb24 => ?_)
              · replace hy16 := cT hb24 hy16
                iterate 13 (first | refine so rfl ?_ | refine sb rfl ?_)
                refine so rfl ?_
                refine C_true rfl rfl ?_
                refine sc rfl ?_
                iterate 2 (first | refine so rfl ?_ | refine sb rfl ?_)
                refine so rfl ?_
                refine sc rfl ?_
                iterate 3 (first | refine so rfl ?_ | refine sb rfl ?_)
                refine so rfl ?_
                obtain rfl := Option.some.inj hy16
                exact ⟨_, rfl, Le.sub [79] ⟨rfl, rfl, rfl, rfl, rfl, rfl, trivial⟩ rfl⟩
              · replace hy16 := cF hb24 hy16
                iterate 3 (first | refine so rfl ?_ | refine sb rfl ?_)
                obtain ⟨g25, hy16⟩ := gT hy16
                refine so rfl (And.intro g25 ?_)
                iterate 3 (first | refine so rfl ?_ | refine sb rfl ?_)
                obtain ⟨g26, hy16⟩ := gT hy16
                refine so rfl (And.intro g26 ?_)
                iterate 5 (first | refine so rfl ?_ | refine sb rfl ?_)
                refine so rfl ?_
                obtain ⟨m27, hm27, hy16⟩ := bT hy16
                refine C_join ⟨[(0, SL 5 Dcl.c l), (5, .own 79), (6, I64 r1), (7, I64 s5.1), (8, I64 m27), (9, I64 s13.2), (49, I64 s13.1), (50, B (decide (s13.1 < 0))), (51, B false), (52, I64 ((((l.getD (Int.toNat r1) default).fields).getD (Int.toNat s13.2) default).tag)), (53, SL 5 Dcl.c l), (54, I64 r1), (55, .cp [I64 ((l.getD (Int.toNat r1) default).kind), .s ((l.getD (Int.toNat r1) default).name), SL 5 Fld.c ((l.getD (Int.toNat r1) default).fields), SL 5 Mth.c ((l.getD (Int.toNat r1) default).methods), I64 ((l.getD (Int.toNat r1) default).fat)]), (56, .cp [SL 5 Fld.c ((l.getD (Int.toNat r1) default).fields), SL 5 Mth.c ((l.getD (Int.toNat r1) default).methods), I64 ((l.getD (Int.toNat r1) default).fat)]), (57, SL 5 Fld.c ((l.getD (Int.toNat r1) default).fields)), (58, I64 s13.1), (59, .cp [I64 ((((l.getD (Int.toNat r1) default).fields).getD (Int.toNat s13.1) default).tag), .s ((((l.getD (Int.toNat r1) default).fields).getD (Int.toNat s13.1) default).name), I64 (((((l.getD (Int.toNat r1) default).fields).getD (Int.toNat s13.1) default).ty).kind), .s (((((l.getD (Int.toNat r1) default).fields).getD (Int.toNat s13.1) default).ty).name), .sl (((((l.getD (Int.toNat r1) default).fields).getD (Int.toNat s13.1) default).ty).of).length 3 (Ty.rows (((((l.getD (Int.toNat r1) default).fields).getD (Int.toNat s13.1) default).ty).of))]), (60, .cp [I64 ((((l.getD (Int.toNat r1) default).fields).getD (Int.toNat s13.1) default).tag), .s ((((l.getD (Int.toNat r1) default).fields).getD (Int.toNat s13.1) default).name), I64 (((((l.getD (Int.toNat r1) default).fields).getD (Int.toNat s13.1) default).ty).kind), .s (((((l.getD (Int.toNat r1) default).fields).getD (Int.toNat s13.1) default).ty).name), .sl (((((l.getD (Int.toNat r1) default).fields).getD (Int.toNat s13.1) default).ty).of).length 3 (Ty.rows (((((l.getD (Int.toNat r1) default).fields).getD (Int.toNat s13.1) default).ty).of))]), (61, I64 ((((l.getD (Int.toNat r1) default).fields).getD (Int.toNat s13.1) default).tag)), (62, B (decide (((((l.getD (Int.toNat r1) default).fields).getD (Int.toNat s13.2) default).tag) < ((((l.getD (Int.toNat r1) default).fields).getD (Int.toNat s13.1) default).tag)))), (63, B (decide (((((l.getD (Int.toNat r1) default).fields).getD (Int.toNat s13.2) default).tag) < ((((l.getD (Int.toNat r1) default).fields).getD (Int.toNat s13.1) default).tag))))], [VEC 79 73 5 Fld.c s5.2]⟩ ?_ (fun s hm27s => C_le _ hm27s ?_)
                · refine C_if rfl (fun hb28 => ?_) (fun hb28 => ?_)
                  · replace hm27 := cT hb28 hm27
                    refine sc rfl ?_
                    iterate 2 (first | refine so rfl ?_ | refine sb rfl ?_)
                    refine so rfl ?_
                    obtain rfl := Option.some.inj hm27
                    exact Le.sub [79] ⟨rfl, rfl, rfl, rfl, rfl, rfl, rfl, rfl, rfl, rfl, rfl, rfl, rfl, rfl, rfl, rfl, rfl, rfl, rfl, rfl, rfl, trivial⟩ rfl
                  · replace hm27 := cF hb28 hm27
                    refine sc rfl ?_
                    obtain rfl := Option.some.inj hm27
                    exact Le.sub [79] ⟨rfl, rfl, rfl, rfl, rfl, rfl, rfl, rfl, rfl, rfl, rfl, rfl, rfl, rfl, rfl, rfl, rfl, rfl, rfl, rfl, rfl, trivial⟩ rfl
                refine sc rfl ?_
                iterate 3 (first | refine so rfl ?_ | refine sb rfl ?_)
                refine so rfl ?_
                obtain rfl := Option.some.inj hy16
                exact ⟨_, rfl, Le.sub [79] ⟨rfl, rfl, rfl, rfl, rfl, rfl, trivial⟩ rfl⟩
            · replace hy16 := cF hb23 hy16
              iterate 16 (first | refine so rfl ?_ | refine sb rfl ?_)
              refine so rfl ?_
              refine C_false rfl rfl ?_
              refine sc rfl ?_
              refine sc rfl ?_
              iterate 3 (first | refine so rfl ?_ | refine sb rfl ?_)
              refine so rfl ?_
              obtain rfl := Option.some.inj hy16
              exact ⟨_, rfl, Le.sub [79] ⟨rfl, rfl, rfl, rfl, rfl, rfl, trivial⟩ rfl⟩
          · replace hy16 := cF hb20 hy16
            refine sc rfl ?_
            obtain rfl := Option.some.inj hy16
            have ho142 := hr17 _ rfl
            subst ho142
            exact ⟨Le.sub [79] ⟨rfl, rfl, rfl, rfl, trivial⟩ rfl, trivial⟩
        refine C_le ⟨[(0, SL 5 Dcl.c l), (5, .own 79), (6, I64 r1), (8, I64 o14)], [VEC 79 73 5 Fld.c s5.2]⟩ hs ?_
        refine sc rfl ?_
        refine sc rfl ?_
        refine sc rfl ?_
        iterate 2 (first | refine so rfl ?_ | refine sb rfl ?_)
        refine so rfl ?_
        refine C_if rfl (fun hb29 => ?_) (fun hb29 => ?_)
        · replace hy8 := cT hb29 hy8
          refine sc rfl ?_
          refine sc rfl ?_
          iterate 2 (first | refine so rfl ?_ | refine sb rfl ?_)
          refine so rfl ?_
          refine C_le _ (Le.freezeL 4 rfl rfl) ?_
          refine sc rfl ?_
          obtain rfl := Option.some.inj hy8
          have ho62 := hr9 _ rfl
          subst ho62
          obtain rfl := Option.some.inj h
          exact ⟨_, rfl, rfl, rfl⟩
        · replace hy8 := cF hb29 hy8
          refine sc rfl ?_
          refine sc rfl ?_
          refine sc rfl ?_
          iterate 3 (first | refine so rfl ?_ | refine sb rfl ?_)
          obtain ⟨g30, hy8⟩ := gT hy8
          refine so rfl (And.intro g30 ?_)
          iterate 3 (first | refine so rfl ?_ | refine sb rfl ?_)
          obtain ⟨g31, hy8⟩ := gT hy8
          refine so rfl (And.intro g31 ?_)
          iterate 1 (first | refine so rfl ?_ | refine sb rfl ?_)
          refine sb rfl ?_
          obtain ⟨g32, hy8⟩ := gT hy8
          refine O_push (by_ := 72) Fld.c s5.2 (⟨(((l.getD (Int.toNat r1) default).fields).getD (Int.toNat o14) default).tag, (((l.getD (Int.toNat r1) default).fields).getD (Int.toNat o14) default).name, ((((l.getD (Int.toNat r1) default).fields).getD (Int.toNat o14) default).ty)⟩ : Fld) [(0, SL 5 Dcl.c l), (6, I64 r1), (8, I64 o14)] rfl rfl rfl rfl rfl rfl rfl rfl rfl rfl ⟨rfl, rfl, rfl, trivial⟩ rfl rfl (by omega) (by simp only [maxLen]; omega) ?_
          iterate 1 (first | refine so rfl ?_ | refine sb rfl ?_)
          refine so rfl ?_
          refine sc rfl ?_
          iterate 2 (first | refine so rfl ?_ | refine sb rfl ?_)
          obtain ⟨g33, hy8⟩ := gT hy8
          refine so rfl (And.intro g33 ?_)
          iterate 3 (first | refine so rfl ?_ | refine sb rfl ?_)
          obtain ⟨g34, hy8⟩ := gT hy8
          refine so rfl (And.intro g34 ?_)
          iterate 3 (first | refine so rfl ?_ | refine sb rfl ?_)
          refine so rfl ?_
          obtain rfl := Option.some.inj hy8
          exact ⟨_, rfl, Le.sub [79] ⟨rfl, rfl, rfl, rfl, trivial⟩ rfl⟩
      · replace hy8 := cF hb12 hy8
        refine sc rfl ?_
        obtain rfl := Option.some.inj hy8
        have ho62 := hr9 _ rfl
        subst ho62
        exact ⟨Le.sub [79] ⟨rfl, trivial⟩ rfl, ⟨_, rfl⟩⟩
    obtain ⟨b10, rfl⟩ := hp
    refine C_le ⟨[(5, .own 79)], [VEC 79 73 5 Fld.c b10]⟩ hs ?_
    refine sc rfl ?_
    refine sc rfl ?_
    iterate 2 (first | refine so rfl ?_ | refine sb rfl ?_)
    refine so rfl ?_
    refine C_le _ (Le.freezeL 4 rfl rfl) ?_
    refine sc rfl ?_
    obtain rfl := Option.some.inj h
    exact ⟨_, rfl, rfl, rfl⟩
noncomputable def SameTy_L5 (rec : Ty → Ty → Option (Bool)) (a : Ty) (b : Ty) (m1 : Bool) (s5 : Int) : Option ((Int) ⊕ ((Bool) ⊕ (Unit))) :=
  cond (decide (s5 < (a.of.length : Int))) (chk ((0 : Int) ≤ s5 ∧ s5 < (a.of.length : Int)) (chk ((0 : Int) ≤ s5 ∧ s5 < (b.of.length : Int)) (Option.bind (rec (a.of.getD (Int.toNat s5) default) (b.of.getD (Int.toNat s5) default)) (fun r14 => cond (!r14) (some (Sum.inr ((Sum.inl false)))) (some (Sum.inl (IntKind.i64.wrap (s5 + 1)))))))) (some (Sum.inr ((Sum.inr ()))))
noncomputable def SameTy_F (rec : Ty → Ty → Option (Bool)) (a : Ty) (b : Ty) : Option (Bool) :=
  Option.bind (α := Bool) (cond (a.kind != b.kind) (some true) (cond (!(a.name == b.name)) (some true) (some ((a.of.length : Int) != (b.of.length : Int))))) (fun m1 => cond m1 (some false) (Option.bind (Iter (SameTy_L5 rec a b m1) 0) (Sum.elim (fun c17 => some c17) (fun b10 => some true))))
theorem SameTy_wb (rec : Ty → Ty → Option (Bool)) (a : Ty) (b : Ty) (r : Bool) (hrec : ∀ a b r, rec a b = some r → FnP Try.prog 33 [.agg (Ty.c a), .agg (Ty.c b)] (· = B r)) (h : SameTy_F rec a b = some r) : FnP Try.prog 33 [.agg (Ty.c a), .agg (Ty.c b)] (· = B r) := by
  unfold SameTy_F at h
  refine FnP.intro Try.tabOK Try.wide_ Try.func33 rfl (by decide) rfl (fun X => ?_)
  refine sc rfl ?_
  refine sc rfl ?_
  iterate 3 (first | refine so rfl ?_ | refine sb rfl ?_)
  refine so rfl ?_
  refine sc rfl ?_
  refine sc rfl ?_
  obtain ⟨m1, hm1, h⟩ := bT h
  refine C_join ⟨[(2, .bp 2 0), (3, .bp 3 0), (26, B m1)], [.box 2 71 [I64 a.kind, .s a.name, .sl a.of.length 3 (Ty.rows a.of)], .box 3 71 [I64 b.kind, .s b.name, .sl b.of.length 3 (Ty.rows b.of)]]⟩ ?_ (fun s hm1s => C_le _ hm1s ?_)
  · refine sc rfl ?_
    iterate 6 (first | refine so rfl ?_ | refine sb rfl ?_)
    refine O_case 11 rfl (fun hb2 => ?_) (fun hb2 => ?_)
    · replace hm1 := cT hb2 hm1
      iterate 15 (first | refine so rfl ?_ | refine sb rfl ?_)
      refine so rfl ?_
      obtain rfl := Option.some.inj hm1
      exact Le.sub [2, 3] ⟨rfl, rfl, rfl, trivial⟩ rfl
    · replace hm1 := cF hb2 hm1
      iterate 7 (first | refine so rfl ?_ | refine sb rfl ?_)
      refine O_case 18 rfl (fun hb3 => ?_) (fun hb3 => ?_)
      · replace hm1 := cT hb3 hm1
        iterate 8 (first | refine so rfl ?_ | refine sb rfl ?_)
        refine so rfl ?_
        obtain rfl := Option.some.inj hm1
        exact Le.sub [2, 3] ⟨rfl, rfl, rfl, trivial⟩ rfl
      · replace hm1 := cF hb3 hm1
        iterate 2 (first | refine so rfl ?_ | refine sb rfl ?_)
        refine O_le _ (Le.one 20 (SL 3 Ty.c a.of) rfl (.row (Ty.rows_eq _))) ?_
        iterate 3 (first | refine so rfl ?_ | refine sb rfl ?_)
        refine O_le _ (Le.one 23 (SL 3 Ty.c b.of) rfl (.row (Ty.rows_eq _))) ?_
        iterate 3 (first | refine so rfl ?_ | refine sb rfl ?_)
        refine so rfl ?_
        obtain rfl := Option.some.inj hm1
        exact Le.sub [2, 3] ⟨rfl, rfl, rfl, trivial⟩ rfl
  refine C_if rfl (fun hb4 => ?_) (fun hb4 => ?_)
  · replace h := cT hb4 h
    refine sc rfl ?_
    refine sc rfl ?_
    iterate 1 (first | refine so rfl ?_ | refine sb rfl ?_)
    refine so rfl ?_
    refine sc rfl ?_
    obtain rfl := Option.some.inj h
    exact ⟨_, rfl, rfl, rfl⟩
  · replace h := cF hb4 h
    refine sc rfl ?_
    refine sc rfl ?_
    refine sc rfl ?_
    refine sc rfl ?_
    iterate 1 (first | refine so rfl ?_ | refine sb rfl ?_)
    refine so rfl ?_
    obtain ⟨o6, ho6, h⟩ := bT h
    refine C_joinP ((fun b10 : Unit => (⟨[], []⟩ : St)) (match o6 with | (.inl b10) => default | (.inr b10) => b10)) (∃ b, o6 = (.inr b)) ?_ (fun s hs hp => ?_)
    · refine sc rfl ?_
      refine C_iter (fun s5 : Int => ⟨[(2, .bp 2 0), (3, .bp 3 0), (5, I64 s5)], [.box 2 71 [I64 a.kind, .s a.name, .sl a.of.length 3 (Ty.rows a.of)], .box 3 71 [I64 b.kind, .s b.name, .sl b.of.length 3 (Ty.rows b.of)]]⟩) ho6 (Le.sub [2, 3] ⟨rfl, rfl, rfl, trivial⟩ rfl) (fun s5 y7 hy8 hr9 => ?_)
      unfold SameTy_L5 at hy8
      refine sc rfl ?_
      refine sc rfl ?_
      refine sc rfl ?_
      iterate 3 (first | refine so rfl ?_ | refine sb rfl ?_)
      refine O_le _ (Le.one 29 (SL 3 Ty.c a.of) rfl (.row (Ty.rows_eq _))) ?_
      iterate 2 (first | refine so rfl ?_ | refine sb rfl ?_)
      refine so rfl ?_
      refine C_if rfl (fun hb11 => ?_) (fun hb11 => ?_)
      · replace hy8 := cT hb11 hy8
        refine sc rfl ?_
        refine sc rfl ?_
        refine sc rfl ?_
        refine sc rfl ?_
        refine C_drawD rfl (by kernel_rfl) ?_
        iterate 1 (first | refine sd rfl ?_ | refine sdb rfl ?_)
        refine sdw (SL 3 Ty.c a.of) rfl rfl rfl (.row (Ty.rows_eq _)) ?_
        iterate 1 (first | refine sd rfl ?_ | refine sdb rfl ?_)
        obtain ⟨g12, hy8⟩ := gT hy8
        refine sd rfl (And.intro g12 ?_)
        iterate 2 (first | refine sd rfl ?_ | refine sdb rfl ?_)
        refine sdw (SL 3 Ty.c b.of) rfl rfl rfl (.row (Ty.rows_eq _)) ?_
        iterate 1 (first | refine sd rfl ?_ | refine sdb rfl ?_)
        obtain ⟨g13, hy8⟩ := gT hy8
        refine sd rfl (And.intro g13 ?_)
        iterate 1 (first | refine sd rfl ?_ | refine sdb rfl ?_)
        obtain ⟨r14, hr15, hy8⟩ := bT hy8
        refine D_call (hrec _ _ _ hr15) rfl rfl rfl rfl ?_
        iterate 1 (first | refine sd rfl ?_ | refine sdb rfl ?_)
        refine sd rfl ?_
        refine C_if rfl (fun hb16 => ?_) (fun hb16 => ?_)
        · replace hy8 := cT hb16 hy8
          refine sc rfl ?_
          refine sc rfl ?_
          iterate 1 (first | refine so rfl ?_ | refine sb rfl ?_)
          refine so rfl ?_
          refine sc rfl ?_
          obtain rfl := Option.some.inj hy8
          have ho62 := hr9 _ rfl
          subst ho62
          obtain rfl := Option.some.inj h
          exact ⟨_, rfl, rfl, rfl⟩
        · replace hy8 := cF hb16 hy8
          refine sc rfl ?_
          refine sc rfl ?_
          iterate 3 (first | refine so rfl ?_ | refine sb rfl ?_)
          refine so rfl ?_
          obtain rfl := Option.some.inj hy8
          exact ⟨_, rfl, Le.sub [2, 3] ⟨rfl, rfl, rfl, trivial⟩ rfl⟩
      · replace hy8 := cF hb11 hy8
        refine sc rfl ?_
        obtain rfl := Option.some.inj hy8
        have ho62 := hr9 _ rfl
        subst ho62
        exact ⟨Le.sub [] trivial rfl, ⟨_, rfl⟩⟩
    obtain ⟨b10, rfl⟩ := hp
    refine C_le ⟨[], []⟩ hs ?_
    refine sc rfl ?_
    refine sc rfl ?_
    iterate 1 (first | refine so rfl ?_ | refine sb rfl ?_)
    refine so rfl ?_
    refine sc rfl ?_
    obtain rfl := Option.some.inj h
    exact ⟨_, rfl, rfl, rfl⟩
noncomputable def SameTy_X : Nat → Ty → Ty → Option (Bool)
  | 0 => fun _ _ => none
  | n + 1 => SameTy_F (SameTy_X n)
theorem SameTy_wn : ∀ (n : Nat) (a : Ty) (b : Ty) (r : Bool), SameTy_X n a b = some r → FnP Try.prog 33 [.agg (Ty.c a), .agg (Ty.c b)] (· = B r)
  | 0, _, _, _, h => by cases h
  | n + 1, a, b, r, h => SameTy_wb (SameTy_X n) a b r (fun a b r hr => SameTy_wn n a b r hr) h
theorem SameTy_w (a : Ty) (b : Ty) (r : Bool) (h : SameTy_X FU a b = some r) : FnP Try.prog 33 [.agg (Ty.c a), .agg (Ty.c b)] (· = B r) := SameTy_wn FU a b r h
noncomputable def Small_L4 (rec : Ty → Int → Option (Bool)) (t : Ty) (deep : Int) (m1 : Bool) (s4 : Int) : Option ((Int) ⊕ ((Bool) ⊕ (Unit))) :=
  cond (decide (s4 < (t.of.length : Int))) (chk ((0 : Int) ≤ s4 ∧ s4 < (t.of.length : Int)) (Option.bind (rec (t.of.getD (Int.toNat s4) default) (IntKind.i64.wrap ((IntKind.i64.wrap (deep + 1)) + (IntKind.i64.wrap (2 * s4))))) (fun r12 => cond (!r12) (some (Sum.inr ((Sum.inl false)))) (some (Sum.inl (IntKind.i64.wrap (s4 + 1))))))) (some (Sum.inr ((Sum.inr ()))))
noncomputable def Small_F (rec : Ty → Int → Option (Bool)) (t : Ty) (deep : Int) : Option (Bool) :=
  Option.bind (α := Bool) (cond (decide (20 < deep)) (some true) (some (decide (3 < (t.of.length : Int))))) (fun m1 => cond m1 (some false) (Option.bind (Iter (Small_L4 rec t deep m1) 0) (Sum.elim (fun c16 => some c16) (fun b9 => some true))))
theorem Small_wb (rec : Ty → Int → Option (Bool)) (t : Ty) (deep : Int) (r : Bool) (hrec : ∀ t deep r, rec t deep = some r → FnP Try.prog 29 [.agg (Ty.c t), I64 deep] (· = B r)) (h : Small_F rec t deep = some r) : FnP Try.prog 29 [.agg (Ty.c t), I64 deep] (· = B r) := by
  unfold Small_F at h
  refine FnP.intro Try.tabOK Try.wide_ Try.func29 rfl (by decide) rfl (fun X => ?_)
  refine sc rfl ?_
  refine sc rfl ?_
  iterate 2 (first | refine so rfl ?_ | refine sb rfl ?_)
  refine so rfl ?_
  refine sc rfl ?_
  refine sc rfl ?_
  obtain ⟨m1, hm1, h⟩ := bT h
  refine C_join ⟨[(1, I64 deep), (2, .bp 2 0), (13, B m1)], [.box 2 71 [I64 t.kind, .s t.name, .sl t.of.length 3 (Ty.rows t.of)]]⟩ ?_ (fun s hm1s => C_le _ hm1s ?_)
  · refine sc rfl ?_
    iterate 3 (first | refine so rfl ?_ | refine sb rfl ?_)
    refine O_case 8 rfl (fun hb2 => ?_) (fun hb2 => ?_)
    · replace hm1 := cT hb2 hm1
      iterate 5 (first | refine so rfl ?_ | refine sb rfl ?_)
      refine so rfl ?_
      obtain rfl := Option.some.inj hm1
      exact Le.sub [2] ⟨rfl, rfl, rfl, trivial⟩ rfl
    · replace hm1 := cF hb2 hm1
      iterate 2 (first | refine so rfl ?_ | refine sb rfl ?_)
      refine O_le _ (Le.one 10 (SL 3 Ty.c t.of) rfl (.row (Ty.rows_eq _))) ?_
      iterate 3 (first | refine so rfl ?_ | refine sb rfl ?_)
      refine so rfl ?_
      obtain rfl := Option.some.inj hm1
      exact Le.sub [2] ⟨rfl, rfl, rfl, trivial⟩ rfl
  refine C_if rfl (fun hb3 => ?_) (fun hb3 => ?_)
  · replace h := cT hb3 h
    refine sc rfl ?_
    refine sc rfl ?_
    iterate 1 (first | refine so rfl ?_ | refine sb rfl ?_)
    refine so rfl ?_
    refine sc rfl ?_
    obtain rfl := Option.some.inj h
    exact ⟨_, rfl, rfl, rfl⟩
  · replace h := cF hb3 h
    refine sc rfl ?_
    refine sc rfl ?_
    refine sc rfl ?_
    refine sc rfl ?_
    iterate 1 (first | refine so rfl ?_ | refine sb rfl ?_)
    refine so rfl ?_
    obtain ⟨o5, ho5, h⟩ := bT h
    refine C_joinP ((fun b9 : Unit => (⟨[], []⟩ : St)) (match o5 with | (.inl b9) => default | (.inr b9) => b9)) (∃ b, o5 = (.inr b)) ?_ (fun s hs hp => ?_)
    · refine sc rfl ?_
      refine C_iter (fun s4 : Int => ⟨[(1, I64 deep), (2, .bp 2 0), (5, I64 s4)], [.box 2 71 [I64 t.kind, .s t.name, .sl t.of.length 3 (Ty.rows t.of)]]⟩) ho5 (Le.sub [2] ⟨rfl, rfl, rfl, trivial⟩ rfl) (fun s4 y6 hy7 hr8 => ?_)
      unfold Small_L4 at hy7
      refine sc rfl ?_
      refine sc rfl ?_
      refine sc rfl ?_
      iterate 3 (first | refine so rfl ?_ | refine sb rfl ?_)
      refine O_le _ (Le.one 16 (SL 3 Ty.c t.of) rfl (.row (Ty.rows_eq _))) ?_
      iterate 2 (first | refine so rfl ?_ | refine sb rfl ?_)
      refine so rfl ?_
      refine C_if rfl (fun hb10 => ?_) (fun hb10 => ?_)
      · replace hy7 := cT hb10 hy7
        refine sc rfl ?_
        refine sc rfl ?_
        refine sc rfl ?_
        refine sc rfl ?_
        refine sc rfl ?_
        iterate 2 (first | refine so rfl ?_ | refine sb rfl ?_)
        refine O_le _ (Le.one 22 (SL 3 Ty.c t.of) rfl (.row (Ty.rows_eq _))) ?_
        iterate 1 (first | refine so rfl ?_ | refine sb rfl ?_)
        obtain ⟨g11, hy7⟩ := gT hy7
        refine so rfl (And.intro g11 ?_)
        iterate 1 (first | refine so rfl ?_ | refine sb rfl ?_)
        iterate 5 (first | refine so rfl ?_ | refine sb rfl ?_)
        obtain ⟨r12, hr13, hy7⟩ := bT hy7
        refine O_call (hrec _ _ _ hr13) (by rfl) (by rfl) (by rfl) (by rfl) (fun q14 hq14 => ?_)
        subst hq14
        iterate 1 (first | refine so rfl ?_ | refine sb rfl ?_)
        refine so rfl ?_
        refine C_if rfl (fun hb15 => ?_) (fun hb15 => ?_)
        · replace hy7 := cT hb15 hy7
          refine sc rfl ?_
          refine sc rfl ?_
          iterate 1 (first | refine so rfl ?_ | refine sb rfl ?_)
          refine so rfl ?_
          refine sc rfl ?_
          obtain rfl := Option.some.inj hy7
          have ho52 := hr8 _ rfl
          subst ho52
          obtain rfl := Option.some.inj h
          exact ⟨_, rfl, rfl, rfl⟩
        · replace hy7 := cF hb15 hy7
          refine sc rfl ?_
          refine sc rfl ?_
          iterate 3 (first | refine so rfl ?_ | refine sb rfl ?_)
          refine so rfl ?_
          obtain rfl := Option.some.inj hy7
          exact ⟨_, rfl, Le.sub [2] ⟨rfl, rfl, rfl, trivial⟩ rfl⟩
      · replace hy7 := cF hb10 hy7
        refine sc rfl ?_
        obtain rfl := Option.some.inj hy7
        have ho52 := hr8 _ rfl
        subst ho52
        exact ⟨Le.sub [] trivial rfl, ⟨_, rfl⟩⟩
    obtain ⟨b9, rfl⟩ := hp
    refine C_le ⟨[], []⟩ hs ?_
    refine sc rfl ?_
    refine sc rfl ?_
    iterate 1 (first | refine so rfl ?_ | refine sb rfl ?_)
    refine so rfl ?_
    refine sc rfl ?_
    obtain rfl := Option.some.inj h
    exact ⟨_, rfl, rfl, rfl⟩
noncomputable def Small_X : Nat → Ty → Int → Option (Bool)
  | 0 => fun _ _ => none
  | n + 1 => Small_F (Small_X n)
theorem Small_wn : ∀ (n : Nat) (t : Ty) (deep : Int) (r : Bool), Small_X n t deep = some r → FnP Try.prog 29 [.agg (Ty.c t), I64 deep] (· = B r)
  | 0, _, _, _, h => by cases h
  | n + 1, t, deep, r, h => Small_wb (Small_X n) t deep r (fun t deep r hr => Small_wn n t deep r hr) h
theorem Small_w (t : Ty) (deep : Int) (r : Bool) (h : Small_X FU t deep = some r) : FnP Try.prog 29 [.agg (Ty.c t), I64 deep] (· = B r) := Small_wn FU t deep r h
noncomputable def Great_L13 (l : List Dcl) (s1 : Int) (s13 : Int) : Option ((Int) ⊕ ((Bool) ⊕ (Unit))) :=
  chk ((0 : Int) ≤ s1 ∧ s1 < (l.length : Int)) (cond (decide (s13 < (((l.getD (Int.toNat s1) default).fields).length : Int))) (chk ((0 : Int) ≤ s1 ∧ s1 < (l.length : Int)) (chk ((0 : Int) ≤ s13 ∧ s13 < (((l.getD (Int.toNat s1) default).fields).length : Int)) (Option.bind (Small_X FU ((((l.getD (Int.toNat s1) default).fields).getD (Int.toNat s13) default).ty) 0) (fun r23 => cond (!r23) (some (Sum.inr ((Sum.inl true)))) (some (Sum.inl (IntKind.i64.wrap (s13 + 1)))))))) (some (Sum.inr ((Sum.inr ())))))
noncomputable def Great_L1 (l : List Dcl) (s1 : Int) : Option ((Int) ⊕ ((Bool) ⊕ (Unit))) :=
  cond (decide (s1 < (l.length : Int))) (cond (decide (20 < s1)) (some (Sum.inr ((Sum.inl true)))) (chk ((0 : Int) ≤ s1 ∧ s1 < (l.length : Int)) (cond (decide (30 < (((l.getD (Int.toNat s1) default).fields).length : Int))) (some (Sum.inr ((Sum.inl true)))) (chk ((0 : Int) ≤ s1 ∧ s1 < (l.length : Int)) (cond (decide (30 < (((l.getD (Int.toNat s1) default).methods).length : Int))) (some (Sum.inr ((Sum.inl true)))) (Option.bind (Iter (Great_L13 l s1) 0) (Sum.elim (fun c27 => some (Sum.inr ((Sum.inl c27)))) (fun b18 => some (Sum.inl (IntKind.i64.wrap (s1 + 1))))))))))) (some (Sum.inr ((Sum.inr ()))))
noncomputable def Great_F (l : List Dcl) : Option (Bool) :=
  Option.bind (Iter (Great_L1 l) 0) (Sum.elim (fun c28 => some c28) (fun b6 => some false))
theorem Great_w (l : List Dcl) (r : Bool) (h : Great_F l = some r) : FnP Try.prog 13 [SL 5 Dcl.c l] (· = B r) := by
  unfold Great_F at h
  refine FnP.intro Try.tabOK Try.wide_ Try.func13 rfl (by decide) rfl (fun X => ?_)
  refine sc rfl ?_
  refine sc rfl ?_
  iterate 1 (first | refine so rfl ?_ | refine sb rfl ?_)
  refine so rfl ?_
  refine sc rfl ?_
  refine sc rfl ?_
  refine sc rfl ?_
  iterate 1 (first | refine so rfl ?_ | refine sb rfl ?_)
  refine so rfl ?_
  obtain ⟨o2, ho2, h⟩ := bT h
  refine C_joinP ((fun b6 : Unit => (⟨[], []⟩ : St)) (match o2 with | (.inl b6) => default | (.inr b6) => b6)) (∃ b, o2 = (.inr b)) ?_ (fun s hs hp => ?_)
  · refine sc rfl ?_
    refine C_iter (fun s1 : Int => ⟨[(0, SL 5 Dcl.c l), (3, I64 s1)], []⟩) ho2 (Le.sub [] ⟨rfl, rfl, trivial⟩ rfl) (fun s1 y3 hy4 hr5 => ?_)
    unfold Great_L1 at hy4
    refine sc rfl ?_
    refine sc rfl ?_
    refine sc rfl ?_
    iterate 4 (first | refine so rfl ?_ | refine sb rfl ?_)
    refine so rfl ?_
    refine C_if rfl (fun hb7 => ?_) (fun hb7 => ?_)
    · replace hy4 := cT hb7 hy4
      refine sc rfl ?_
      refine sc rfl ?_
      refine sc rfl ?_
      refine sc rfl ?_
      refine sc rfl ?_
      refine sc rfl ?_
      iterate 3 (first | refine so rfl ?_ | refine sb rfl ?_)
      refine O_case 13 rfl (fun hb8 => ?_) (fun hb8 => ?_)
      · replace hy4 := cT hb8 hy4
        iterate 17 (first | refine so rfl ?_ | refine sb rfl ?_)
        refine so rfl ?_
        refine C_true rfl rfl ?_
        refine sc rfl ?_
        refine sc rfl ?_
        iterate 1 (first | refine so rfl ?_ | refine sb rfl ?_)
        refine so rfl ?_
        refine sc rfl ?_
        obtain rfl := Option.some.inj hy4
        have ho22 := hr5 _ rfl
        subst ho22
        obtain rfl := Option.some.inj h
        exact ⟨_, rfl, rfl, rfl⟩
      · replace hy4 := cF hb8 hy4
        iterate 2 (first | refine so rfl ?_ | refine sb rfl ?_)
        obtain ⟨g9, hy4⟩ := gT hy4
        refine so rfl (And.intro g9 ?_)
        iterate 6 (first | refine so rfl ?_ | refine sb rfl ?_)
        refine O_case 22 rfl (fun hb10 => ?_) (fun hb10 => ?_)
        · replace hy4 := cT hb10 hy4
          iterate 8 (first | refine so rfl ?_ | refine sb rfl ?_)
          refine so rfl ?_
          refine C_true rfl rfl ?_
          refine sc rfl ?_
          refine sc rfl ?_
          iterate 1 (first | refine so rfl ?_ | refine sb rfl ?_)
          refine so rfl ?_
          refine sc rfl ?_
          obtain rfl := Option.some.inj hy4
          have ho22 := hr5 _ rfl
          subst ho22
          obtain rfl := Option.some.inj h
          exact ⟨_, rfl, rfl, rfl⟩
        · replace hy4 := cF hb10 hy4
          iterate 2 (first | refine so rfl ?_ | refine sb rfl ?_)
          obtain ⟨g11, hy4⟩ := gT hy4
          refine so rfl (And.intro g11 ?_)
          iterate 5 (first | refine so rfl ?_ | refine sb rfl ?_)
          refine so rfl ?_
          refine C_if rfl (fun hb12 => ?_) (fun hb12 => ?_)
          · replace hy4 := cT hb12 hy4
            refine sc rfl ?_
            refine sc rfl ?_
            iterate 1 (first | refine so rfl ?_ | refine sb rfl ?_)
            refine so rfl ?_
            refine sc rfl ?_
            obtain rfl := Option.some.inj hy4
            have ho22 := hr5 _ rfl
            subst ho22
            obtain rfl := Option.some.inj h
            exact ⟨_, rfl, rfl, rfl⟩
          · replace hy4 := cF hb12 hy4
            refine sc rfl ?_
            refine sc rfl ?_
            refine sc rfl ?_
            iterate 1 (first | refine so rfl ?_ | refine sb rfl ?_)
            refine so rfl ?_
            obtain ⟨o14, ho14, hy4⟩ := bT hy4
            refine C_joinP ((fun b18 : Unit => (⟨[(0, SL 5 Dcl.c l), (3, I64 s1), (14, SL 5 Dcl.c l), (15, I64 s1), (16, .cp [I64 ((l.getD (Int.toNat s1) default).kind), .s ((l.getD (Int.toNat s1) default).name), SL 5 Fld.c ((l.getD (Int.toNat s1) default).fields), SL 5 Mth.c ((l.getD (Int.toNat s1) default).methods), I64 ((l.getD (Int.toNat s1) default).fat)]), (17, .cp [SL 5 Fld.c ((l.getD (Int.toNat s1) default).fields), SL 5 Mth.c ((l.getD (Int.toNat s1) default).methods), I64 ((l.getD (Int.toNat s1) default).fat)]), (18, SL 5 Fld.c ((l.getD (Int.toNat s1) default).fields)), (19, I64 (((l.getD (Int.toNat s1) default).fields).length : Int)), (20, B (decide (30 < (((l.getD (Int.toNat s1) default).fields).length : Int)))), (23, SL 5 Dcl.c l), (24, I64 s1), (25, .cp [I64 ((l.getD (Int.toNat s1) default).kind), .s ((l.getD (Int.toNat s1) default).name), SL 5 Fld.c ((l.getD (Int.toNat s1) default).fields), SL 5 Mth.c ((l.getD (Int.toNat s1) default).methods), I64 ((l.getD (Int.toNat s1) default).fat)]), (26, .cp [SL 5 Mth.c ((l.getD (Int.toNat s1) default).methods), I64 ((l.getD (Int.toNat s1) default).fat)]), (27, SL 5 Mth.c ((l.getD (Int.toNat s1) default).methods)), (28, I64 (((l.getD (Int.toNat s1) default).methods).length : Int)), (29, B (decide (30 < (((l.getD (Int.toNat s1) default).methods).length : Int))))], []⟩ : St)) (match o14 with | (.inl b18) => default | (.inr b18) => b18)) (∃ b, o14 = (.inr b)) ?_ (fun s hs hp => ?_)
            · refine sc rfl ?_
              refine C_iter (fun s13 : Int => ⟨[(0, SL 5 Dcl.c l), (3, I64 s1), (4, I64 s13), (14, SL 5 Dcl.c l), (15, I64 s1), (16, .cp [I64 ((l.getD (Int.toNat s1) default).kind), .s ((l.getD (Int.toNat s1) default).name), SL 5 Fld.c ((l.getD (Int.toNat s1) default).fields), SL 5 Mth.c ((l.getD (Int.toNat s1) default).methods), I64 ((l.getD (Int.toNat s1) default).fat)]), (17, .cp [SL 5 Fld.c ((l.getD (Int.toNat s1) default).fields), SL 5 Mth.c ((l.getD (Int.toNat s1) default).methods), I64 ((l.getD (Int.toNat s1) default).fat)]), (18, SL 5 Fld.c ((l.getD (Int.toNat s1) default).fields)), (19, I64 (((l.getD (Int.toNat s1) default).fields).length : Int)), (20, B (decide (30 < (((l.getD (Int.toNat s1) default).fields).length : Int)))), (23, SL 5 Dcl.c l), (24, I64 s1), (25, .cp [I64 ((l.getD (Int.toNat s1) default).kind), .s ((l.getD (Int.toNat s1) default).name), SL 5 Fld.c ((l.getD (Int.toNat s1) default).fields), SL 5 Mth.c ((l.getD (Int.toNat s1) default).methods), I64 ((l.getD (Int.toNat s1) default).fat)]), (26, .cp [SL 5 Mth.c ((l.getD (Int.toNat s1) default).methods), I64 ((l.getD (Int.toNat s1) default).fat)]), (27, SL 5 Mth.c ((l.getD (Int.toNat s1) default).methods)), (28, I64 (((l.getD (Int.toNat s1) default).methods).length : Int)), (29, B (decide (30 < (((l.getD (Int.toNat s1) default).methods).length : Int))))], []⟩) ho14 (Le.sub [] ⟨rfl, rfl, rfl, rfl, rfl, rfl, rfl, rfl, rfl, rfl, rfl, rfl, rfl, rfl, rfl, rfl, rfl, trivial⟩ rfl) (fun s13 y15 hy16 hr17 => ?_)
              unfold Great_L13 at hy16
              refine sc rfl ?_
              refine sc rfl ?_
              refine sc rfl ?_
              iterate 3 (first | refine so rfl ?_ | refine sb rfl ?_)
              obtain ⟨g19, hy16⟩ := gT hy16
              refine so rfl (And.intro g19 ?_)
              iterate 4 (first | refine so rfl ?_ | refine sb rfl ?_)
              refine so rfl ?_
              refine C_if rfl (fun hb20 => ?_) (fun hb20 => ?_)
              · replace hy16 := cT hb20 hy16
                refine sc rfl ?_
                refine sc rfl ?_
                refine sc rfl ?_
                refine sc rfl ?_
                refine sc rfl ?_
                iterate 2 (first | refine so rfl ?_ | refine sb rfl ?_)
                obtain ⟨g21, hy16⟩ := gT hy16
                refine so rfl (And.intro g21 ?_)
                iterate 3 (first | refine so rfl ?_ | refine sb rfl ?_)
                obtain ⟨g22, hy16⟩ := gT hy16
                refine so rfl (And.intro g22 ?_)
                iterate 2 (first | refine so rfl ?_ | refine sb rfl ?_)
                obtain ⟨r23, hr24, hy16⟩ := bT hy16
                refine O_call (Small_w _ _ _ hr24) (by rfl) (by rfl) (by rfl) (by rfl) (fun q25 hq25 => ?_)
                subst hq25
                iterate 1 (first | refine so rfl ?_ | refine sb rfl ?_)
                refine so rfl ?_
                refine C_if rfl (fun hb26 => ?_) (fun hb26 => ?_)
                · replace hy16 := cT hb26 hy16
                  refine sc rfl ?_
                  refine sc rfl ?_
                  iterate 1 (first | refine so rfl ?_ | refine sb rfl ?_)
                  refine so rfl ?_
                  refine sc rfl ?_
                  obtain rfl := Option.some.inj hy16
                  have ho142 := hr17 _ rfl
                  subst ho142
                  obtain rfl := Option.some.inj hy4
                  have ho22 := hr5 _ rfl
                  subst ho22
                  obtain rfl := Option.some.inj h
                  exact ⟨_, rfl, rfl, rfl⟩
                · replace hy16 := cF hb26 hy16
                  refine sc rfl ?_
                  refine sc rfl ?_
                  iterate 3 (first | refine so rfl ?_ | refine sb rfl ?_)
                  refine so rfl ?_
                  obtain rfl := Option.some.inj hy16
                  exact ⟨_, rfl, Le.sub [] ⟨rfl, rfl, rfl, rfl, rfl, rfl, rfl, rfl, rfl, rfl, rfl, rfl, rfl, rfl, rfl, rfl, rfl, trivial⟩ rfl⟩
              · replace hy16 := cF hb20 hy16
                refine sc rfl ?_
                obtain rfl := Option.some.inj hy16
                have ho142 := hr17 _ rfl
                subst ho142
                exact ⟨Le.sub [] ⟨rfl, rfl, rfl, rfl, rfl, rfl, rfl, rfl, rfl, rfl, rfl, rfl, rfl, rfl, rfl, rfl, trivial⟩ rfl, ⟨_, rfl⟩⟩
            obtain ⟨b18, rfl⟩ := hp
            refine C_le ⟨[(0, SL 5 Dcl.c l), (3, I64 s1), (14, SL 5 Dcl.c l), (15, I64 s1), (16, .cp [I64 ((l.getD (Int.toNat s1) default).kind), .s ((l.getD (Int.toNat s1) default).name), SL 5 Fld.c ((l.getD (Int.toNat s1) default).fields), SL 5 Mth.c ((l.getD (Int.toNat s1) default).methods), I64 ((l.getD (Int.toNat s1) default).fat)]), (17, .cp [SL 5 Fld.c ((l.getD (Int.toNat s1) default).fields), SL 5 Mth.c ((l.getD (Int.toNat s1) default).methods), I64 ((l.getD (Int.toNat s1) default).fat)]), (18, SL 5 Fld.c ((l.getD (Int.toNat s1) default).fields)), (19, I64 (((l.getD (Int.toNat s1) default).fields).length : Int)), (20, B (decide (30 < (((l.getD (Int.toNat s1) default).fields).length : Int)))), (23, SL 5 Dcl.c l), (24, I64 s1), (25, .cp [I64 ((l.getD (Int.toNat s1) default).kind), .s ((l.getD (Int.toNat s1) default).name), SL 5 Fld.c ((l.getD (Int.toNat s1) default).fields), SL 5 Mth.c ((l.getD (Int.toNat s1) default).methods), I64 ((l.getD (Int.toNat s1) default).fat)]), (26, .cp [SL 5 Mth.c ((l.getD (Int.toNat s1) default).methods), I64 ((l.getD (Int.toNat s1) default).fat)]), (27, SL 5 Mth.c ((l.getD (Int.toNat s1) default).methods)), (28, I64 (((l.getD (Int.toNat s1) default).methods).length : Int)), (29, B (decide (30 < (((l.getD (Int.toNat s1) default).methods).length : Int))))], []⟩ hs ?_
            refine sc rfl ?_
            iterate 3 (first | refine so rfl ?_ | refine sb rfl ?_)
            refine so rfl ?_
            obtain rfl := Option.some.inj hy4
            exact ⟨_, rfl, Le.sub [] ⟨rfl, rfl, trivial⟩ rfl⟩
    · replace hy4 := cF hb7 hy4
      refine sc rfl ?_
      obtain rfl := Option.some.inj hy4
      have ho22 := hr5 _ rfl
      subst ho22
      exact ⟨Le.sub [] trivial rfl, ⟨_, rfl⟩⟩
  obtain ⟨b6, rfl⟩ := hp
  refine C_le ⟨[], []⟩ hs ?_
  refine sc rfl ?_
  refine sc rfl ?_
  iterate 1 (first | refine so rfl ?_ | refine sb rfl ?_)
  refine so rfl ?_
  refine sc rfl ?_
  obtain rfl := Option.some.inj h
  exact ⟨_, rfl, rfl, rfl⟩
end Go.Proofs

/- The operations of the document (printed by gen.py) -/
set_option linter.unusedSimpArgs false
set_option linter.unusedVariables false
set_option maxRecDepth 100000
namespace Go.Proofs
open Go.Sy Go.Lib

noncomputable def InR_F (op : Int) : Option (List Int) :=
  Option.bind (α := Bool) (cond (op == 1) (some (op == 1)) (cond (op == 3) (some (op == 3)) (some (op == 6)))) (fun m1 => cond m1 (some ([1] : List Int)) (Option.bind (α := Bool) (cond (op == 2) (some (op == 2)) (cond (op == 5) (some (op == 5)) (some (op == 8)))) (fun m5 => cond m5 (some ([1, 1] : List Int)) (cond (op == 4) (some ([1, 2] : List Int)) (cond (op == 7) (some ([1, 1, 3] : List Int)) (some ([] : List Int)))))))
theorem InR_w (op : Int) (r : List Int) (h : InR_F op = some r) : FnP Try.prog 19 [I64 op] (· = SL 1 INTc r) := by
  unfold InR_F at h
  refine FnP.intro Try.tabOK Try.wide_ Try.func19 rfl (by decide) rfl (fun X => ?_)
  refine sc rfl ?_
  refine sc rfl ?_
  iterate 1 (first | refine so rfl ?_ | refine sb rfl ?_)
  refine so rfl ?_
  refine sc rfl ?_
  refine sc rfl ?_
  refine sc rfl ?_
  iterate 1 (first | refine so rfl ?_ | refine sb rfl ?_)
  refine so rfl ?_
  refine sc rfl ?_
  refine sc rfl ?_
  refine sc rfl ?_
  refine sc rfl ?_
  iterate 2 (first | refine so rfl ?_ | refine sb rfl ?_)
  refine so rfl ?_
  obtain ⟨m1, hm1, h⟩ := bT h
  refine C_join ⟨[(3, I64 op), (4, B m1)], []⟩ ?_ (fun s hm1s => C_le _ hm1s ?_)
  · refine C_if rfl (fun hb2 => ?_) (fun hb2 => ?_)
    · replace hm1 := cT hb2 hm1
      refine sc rfl ?_
      obtain rfl := Option.some.inj hm1
      exact Le.sub [] ⟨rfl, rfl, trivial⟩ rfl
    · replace hm1 := cF hb2 hm1
      refine sc rfl ?_
      refine sc rfl ?_
      iterate 2 (first | refine so rfl ?_ | refine sb rfl ?_)
      refine so rfl ?_
      refine C_if rfl (fun hb3 => ?_) (fun hb3 => ?_)
      · replace hm1 := cT hb3 hm1
        refine sc rfl ?_
        obtain rfl := Option.some.inj hm1
        exact Le.sub [] ⟨rfl, rfl, trivial⟩ rfl
      · replace hm1 := cF hb3 hm1
        refine sc rfl ?_
        iterate 2 (first | refine so rfl ?_ | refine sb rfl ?_)
        refine so rfl ?_
        obtain rfl := Option.some.inj hm1
        exact Le.sub [] ⟨rfl, rfl, trivial⟩ rfl
  refine C_if rfl (fun hb4 => ?_) (fun hb4 => ?_)
  · replace h := cT hb4 h
    refine sc rfl ?_
    refine sc rfl ?_
    refine sb rfl ?_
    refine O_le _ (Le.lit 8 INTc ([1] : List Int) rfl rfl rfl (by intro j hj; match j, hj with | 0, _ => rfl)) ?_
    iterate 1 (first | refine so rfl ?_ | refine sb rfl ?_)
    refine so rfl ?_
    refine sc rfl ?_
    obtain rfl := Option.some.inj h
    exact ⟨_, rfl, rfl, rfl⟩
  · replace h := cF hb4 h
    refine sc rfl ?_
    refine sc rfl ?_
    refine sc rfl ?_
    iterate 2 (first | refine so rfl ?_ | refine sb rfl ?_)
    refine so rfl ?_
    obtain ⟨m5, hm5, h⟩ := bT h
    refine C_join ⟨[(3, I64 op), (9, B m5)], []⟩ ?_ (fun s hm5s => C_le _ hm5s ?_)
    · refine C_if rfl (fun hb6 => ?_) (fun hb6 => ?_)
      · replace hm5 := cT hb6 hm5
        refine sc rfl ?_
        obtain rfl := Option.some.inj hm5
        exact Le.sub [] ⟨rfl, rfl, trivial⟩ rfl
      · replace hm5 := cF hb6 hm5
        refine sc rfl ?_
        refine sc rfl ?_
        iterate 2 (first | refine so rfl ?_ | refine sb rfl ?_)
        refine so rfl ?_
        refine C_if rfl (fun hb7 => ?_) (fun hb7 => ?_)
        · replace hm5 := cT hb7 hm5
          refine sc rfl ?_
          obtain rfl := Option.some.inj hm5
          exact Le.sub [] ⟨rfl, rfl, trivial⟩ rfl
        · replace hm5 := cF hb7 hm5
          refine sc rfl ?_
          iterate 2 (first | refine so rfl ?_ | refine sb rfl ?_)
          refine so rfl ?_
          obtain rfl := Option.some.inj hm5
          exact Le.sub [] ⟨rfl, rfl, trivial⟩ rfl
    refine C_if rfl (fun hb8 => ?_) (fun hb8 => ?_)
    · replace h := cT hb8 h
      refine sc rfl ?_
      refine sc rfl ?_
      refine sb rfl ?_
      refine O_le _ (Le.lit 13 INTc ([1, 1] : List Int) rfl rfl rfl (by intro j hj; match j, hj with | 0, _ => rfl | 1, _ => rfl)) ?_
      iterate 1 (first | refine so rfl ?_ | refine sb rfl ?_)
      refine so rfl ?_
      refine sc rfl ?_
      obtain rfl := Option.some.inj h
      exact ⟨_, rfl, rfl, rfl⟩
    · replace h := cF hb8 h
      refine sc rfl ?_
      refine sc rfl ?_
      iterate 2 (first | refine so rfl ?_ | refine sb rfl ?_)
      refine so rfl ?_
      refine C_if rfl (fun hb9 => ?_) (fun hb9 => ?_)
      · replace h := cT hb9 h
        refine sc rfl ?_
        refine sc rfl ?_
        refine sb rfl ?_
        refine O_le _ (Le.lit 16 INTc ([1, 2] : List Int) rfl rfl rfl (by intro j hj; match j, hj with | 0, _ => rfl | 1, _ => rfl)) ?_
        iterate 1 (first | refine so rfl ?_ | refine sb rfl ?_)
        refine so rfl ?_
        refine sc rfl ?_
        obtain rfl := Option.some.inj h
        exact ⟨_, rfl, rfl, rfl⟩
      · replace h := cF hb9 h
        refine sc rfl ?_
        refine sc rfl ?_
        iterate 2 (first | refine so rfl ?_ | refine sb rfl ?_)
        refine so rfl ?_
        refine C_if rfl (fun hb10 => ?_) (fun hb10 => ?_)
        · replace h := cT hb10 h
          refine sc rfl ?_
          refine sc rfl ?_
          refine sb rfl ?_
          refine O_le _ (Le.lit 19 INTc ([1, 1, 3] : List Int) rfl rfl rfl (by intro j hj; match j, hj with | 0, _ => rfl | 1, _ => rfl | 2, _ => rfl)) ?_
          iterate 1 (first | refine so rfl ?_ | refine sb rfl ?_)
          refine so rfl ?_
          refine sc rfl ?_
          obtain rfl := Option.some.inj h
          exact ⟨_, rfl, rfl, rfl⟩
        · replace h := cF hb10 h
          refine sc rfl ?_
          refine sc rfl ?_
          refine sc rfl ?_
          iterate 1 (first | refine so rfl ?_ | refine sb rfl ?_)
          refine so rfl ?_
          refine C_le _ (Le.one 2 (SL 1 INTc []) rfl .nil) ?_
          refine sc rfl ?_
          obtain rfl := Option.some.inj h
          exact ⟨_, rfl, rfl, rfl⟩
noncomputable def OutR_F (op : Int) : Option (List Int) :=
  Option.bind (α := Bool) (cond (op == 1) (some (op == 1)) (some (op == 6))) (fun m1 => cond m1 (some ([5] : List Int)) (Option.bind (α := Bool) (cond (op == 3) (some (op == 3)) (cond (op == 7) (some (op == 7)) (some (op == 8)))) (fun m4 => cond m4 (some ([4] : List Int)) (cond (op == 4) (some ([2] : List Int)) (some ([] : List Int))))))
theorem OutR_w (op : Int) (r : List Int) (h : OutR_F op = some r) : FnP Try.prog 20 [I64 op] (· = SL 1 INTc r) := by
  unfold OutR_F at h
  refine FnP.intro Try.tabOK Try.wide_ Try.func20 rfl (by decide) rfl (fun X => ?_)
  refine sc rfl ?_
  refine sc rfl ?_
  iterate 1 (first | refine so rfl ?_ | refine sb rfl ?_)
  refine so rfl ?_
  refine sc rfl ?_
  refine sc rfl ?_
  refine sc rfl ?_
  iterate 1 (first | refine so rfl ?_ | refine sb rfl ?_)
  refine so rfl ?_
  refine sc rfl ?_
  refine sc rfl ?_
  refine sc rfl ?_
  refine sc rfl ?_
  iterate 2 (first | refine so rfl ?_ | refine sb rfl ?_)
  refine so rfl ?_
  obtain ⟨m1, hm1, h⟩ := bT h
  refine C_join ⟨[(3, I64 op), (4, B m1)], []⟩ ?_ (fun s hm1s => C_le _ hm1s ?_)
  · refine C_if rfl (fun hb2 => ?_) (fun hb2 => ?_)
    · replace hm1 := cT hb2 hm1
      refine sc rfl ?_
      obtain rfl := Option.some.inj hm1
      exact Le.sub [] ⟨rfl, rfl, trivial⟩ rfl
    · replace hm1 := cF hb2 hm1
      refine sc rfl ?_
      iterate 2 (first | refine so rfl ?_ | refine sb rfl ?_)
      refine so rfl ?_
      obtain rfl := Option.some.inj hm1
      exact Le.sub [] ⟨rfl, rfl, trivial⟩ rfl
  refine C_if rfl (fun hb3 => ?_) (fun hb3 => ?_)
  · replace h := cT hb3 h
    refine sc rfl ?_
    refine sc rfl ?_
    refine sb rfl ?_
    refine O_le _ (Le.lit 7 INTc ([5] : List Int) rfl rfl rfl (by intro j hj; match j, hj with | 0, _ => rfl)) ?_
    iterate 1 (first | refine so rfl ?_ | refine sb rfl ?_)
    refine so rfl ?_
    refine sc rfl ?_
    obtain rfl := Option.some.inj h
    exact ⟨_, rfl, rfl, rfl⟩
  · replace h := cF hb3 h
    refine sc rfl ?_
    refine sc rfl ?_
    refine sc rfl ?_
    iterate 2 (first | refine so rfl ?_ | refine sb rfl ?_)
    refine so rfl ?_
    obtain ⟨m4, hm4, h⟩ := bT h
    refine C_join ⟨[(3, I64 op), (8, B m4)], []⟩ ?_ (fun s hm4s => C_le _ hm4s ?_)
    · refine C_if rfl (fun hb5 => ?_) (fun hb5 => ?_)
      · replace hm4 := cT hb5 hm4
        refine sc rfl ?_
        obtain rfl := Option.some.inj hm4
        exact Le.sub [] ⟨rfl, rfl, trivial⟩ rfl
      · replace hm4 := cF hb5 hm4
        refine sc rfl ?_
        refine sc rfl ?_
        iterate 2 (first | refine so rfl ?_ | refine sb rfl ?_)
        refine so rfl ?_
        refine C_if rfl (fun hb6 => ?_) (fun hb6 => ?_)
        · replace hm4 := cT hb6 hm4
          refine sc rfl ?_
          obtain rfl := Option.some.inj hm4
          exact Le.sub [] ⟨rfl, rfl, trivial⟩ rfl
        · replace hm4 := cF hb6 hm4
          refine sc rfl ?_
          iterate 2 (first | refine so rfl ?_ | refine sb rfl ?_)
          refine so rfl ?_
          obtain rfl := Option.some.inj hm4
          exact Le.sub [] ⟨rfl, rfl, trivial⟩ rfl
    refine C_if rfl (fun hb7 => ?_) (fun hb7 => ?_)
    · replace h := cT hb7 h
      refine sc rfl ?_
      refine sc rfl ?_
      refine sb rfl ?_
      refine O_le _ (Le.lit 12 INTc ([4] : List Int) rfl rfl rfl (by intro j hj; match j, hj with | 0, _ => rfl)) ?_
      iterate 1 (first | refine so rfl ?_ | refine sb rfl ?_)
      refine so rfl ?_
      refine sc rfl ?_
      obtain rfl := Option.some.inj h
      exact ⟨_, rfl, rfl, rfl⟩
    · replace h := cF hb7 h
      refine sc rfl ?_
      refine sc rfl ?_
      iterate 2 (first | refine so rfl ?_ | refine sb rfl ?_)
      refine so rfl ?_
      refine C_if rfl (fun hb8 => ?_) (fun hb8 => ?_)
      · replace h := cT hb8 h
        refine sc rfl ?_
        refine sc rfl ?_
        refine sb rfl ?_
        refine O_le _ (Le.lit 15 INTc ([2] : List Int) rfl rfl rfl (by intro j hj; match j, hj with | 0, _ => rfl)) ?_
        iterate 1 (first | refine so rfl ?_ | refine sb rfl ?_)
        refine so rfl ?_
        refine sc rfl ?_
        obtain rfl := Option.some.inj h
        exact ⟨_, rfl, rfl, rfl⟩
      · replace h := cF hb8 h
        refine sc rfl ?_
        refine sc rfl ?_
        refine sc rfl ?_
        iterate 1 (first | refine so rfl ?_ | refine sb rfl ?_)
        refine so rfl ?_
        refine C_le _ (Le.one 2 (SL 1 INTc []) rfl .nil) ?_
        refine sc rfl ?_
        obtain rfl := Option.some.inj h
        exact ⟨_, rfl, rfl, rfl⟩
noncomputable def TypeR_F (n : Int) : Option (Ty) :=
  cond (n == 5) (some (⟨9, [], ([(⟨4, [], ([] : List Ty)⟩ : Ty)] : List Ty)⟩ : Ty)) (chk ((0 : Int) ≤ n ∧ n < (([0, 4, 2, 3, 1] : List Int).length : Int)) (some (⟨([0, 4, 2, 3, 1] : List Int).getD (Int.toNat n) default, [], ([] : List Ty)⟩ : Ty)))
theorem TypeR_w (n : Int) (r : Ty) (h : TypeR_F n = some r) : FnP Try.prog 34 [I64 n] (· = .agg (Ty.c r)) := by
  unfold TypeR_F at h
  refine FnP.intro Try.tabOK Try.wide_ Try.func34 rfl (by decide) rfl (fun X => ?_)
  refine sc rfl ?_
  refine sc rfl ?_
  iterate 1 (first | refine so rfl ?_ | refine sb rfl ?_)
  refine so rfl ?_
  refine sc rfl ?_
  refine sc rfl ?_
  iterate 1 (first | refine so rfl ?_ | refine sb rfl ?_)
  refine O_le _ (Le.agg 5 [I64 4, .s [], .sl ([] : List Ty).length 3 (Ty.rows ([] : List Ty))] rfl (.cons .refl (.cons .refl (.cons .nil .nil)))) ?_
  iterate 2 (first | refine so rfl ?_ | refine sb rfl ?_)
  refine so rfl ?_
  refine sc rfl ?_
  refine sc rfl ?_
  refine sc rfl ?_
  iterate 2 (first | refine so rfl ?_ | refine sb rfl ?_)
  refine so rfl ?_
  refine C_if rfl (fun hb1 => ?_) (fun hb1 => ?_)
  · replace h := cT hb1 h
    refine sc rfl ?_
    refine sc rfl ?_
    iterate 1 (first | refine so rfl ?_ | refine sb rfl ?_)
    refine sb rfl ?_
    refine O_le _ (Le.lit 9 Ty.c ([(⟨4, [], ([] : List Ty)⟩ : Ty)] : List Ty) rfl rfl rfl (by intro j hj; match j, hj with | 0, _ => rfl)) ?_
    iterate 1 (first | refine so rfl ?_ | refine sb rfl ?_)
    refine O_le _ (Le.agg 10 [I64 9, .s [], .sl ([(⟨4, [], ([] : List Ty)⟩ : Ty)] : List Ty).length 3 (Ty.rows ([(⟨4, [], ([] : List Ty)⟩ : Ty)] : List Ty))] rfl (.cons .refl (.cons .refl (.cons (.row (fun i hi => (Ty.rows_eq _ i hi).symm)) .nil)))) ?_
    iterate 1 (first | refine so rfl ?_ | refine sb rfl ?_)
    refine so rfl ?_
    refine sc rfl ?_
    obtain rfl := Option.some.inj h
    exact ⟨_, rfl, rfl, rfl⟩
  · replace h := cF hb1 h
    refine sc rfl ?_
    refine sc rfl ?_
    refine sc rfl ?_
    refine sb rfl ?_
    refine O_le _ (Le.lit 11 INTc ([0, 4, 2, 3, 1] : List Int) rfl rfl rfl (by intro j hj; match j, hj with | 0, _ => rfl | 1, _ => rfl | 2, _ => rfl | 3, _ => rfl | 4, _ => rfl)) ?_
    iterate 1 (first | refine so rfl ?_ | refine sb rfl ?_)
    refine so rfl ?_
    refine sc rfl ?_
    refine sc rfl ?_
    iterate 2 (first | refine so rfl ?_ | refine sb rfl ?_)
    obtain ⟨g2, h⟩ := gT h
    refine so rfl (And.intro g2 ?_)
    iterate 2 (first | refine so rfl ?_ | refine sb rfl ?_)
    refine O_le _ (Le.agg 16 [I64 (([0, 4, 2, 3, 1] : List Int).getD (Int.toNat n) default), .s [], .sl ([] : List Ty).length 3 (Ty.rows ([] : List Ty))] rfl (.cons .refl (.cons .refl (.cons .nil .nil)))) ?_
    iterate 1 (first | refine so rfl ?_ | refine sb rfl ?_)
    refine so rfl ?_
    refine sc rfl ?_
    obtain rfl := Option.some.inj h
    exact ⟨_, rfl, rfl, rfl⟩
noncomputable def TypesR_L1 (l : List Int) (s1 : Int × List Ty) : Option ((Int × List Ty) ⊕ ((List Ty))) :=
  cond (decide (s1.1 < (l.length : Int))) (chk ((0 : Int) ≤ s1.1 ∧ s1.1 < (l.length : Int)) (Option.bind (TypeR_F (l.getD (Int.toNat s1.1) default)) (fun r9 => chk (s1.2.length < 100000000000) (some (Sum.inl (IntKind.i64.wrap (s1.1 + 1), s1.2 ++ [r9])))))) (some (Sum.inr (s1.2)))
noncomputable def TypesR_F (l : List Int) : Option (List Ty) :=
  Option.bind (Iter (TypesR_L1 l) (0, ([] : List Ty))) (fun o2 => some o2)
theorem TypesR_w (l : List Int) (r : List Ty) (h : TypesR_F l = some r) : FnP Try.prog 18 [SL 1 INTc l] (· = SL 3 Ty.c r) := by
  unfold TypesR_F at h
  refine FnP.intro Try.tabOK Try.wide_ Try.func18 rfl (by decide) rfl (fun X => ?_)
  refine sc rfl ?_
  refine sc rfl ?_
  iterate 1 (first | refine so rfl ?_ | refine sb rfl ?_)
  refine so rfl ?_
  refine sc rfl ?_
  refine sc rfl ?_
  iterate 1 (first | refine so rfl ?_ | refine sb rfl ?_)
  refine so rfl ?_
  refine sc rfl ?_
  refine sc rfl ?_
  refine sc rfl ?_
  iterate 1 (first | refine so rfl ?_ | refine sb rfl ?_)
  refine so rfl ?_
  refine C_le _ (Le.nilvec Ty.c 3 18 71 3 rfl rfl rfl) ?_
  obtain ⟨o2, ho2, h⟩ := bT h
  refine C_joinP ⟨[(3, .own 18)], [VEC 18 71 3 Ty.c o2]⟩ True ?_ (fun s hs hp => ?_)
  · refine sc rfl ?_
    refine C_iter (fun s1 : Int × List Ty => ⟨[(0, SL 1 INTc l), (3, .own 18), (4, I64 s1.1)], [VEC 18 71 3 Ty.c s1.2]⟩) ho2 (Le.sub [18] ⟨rfl, rfl, rfl, trivial⟩ rfl) (fun s1 y3 hy4 hr5 => ?_)
    unfold TypesR_L1 at hy4
    refine sc rfl ?_
    refine sc rfl ?_
    refine sc rfl ?_
    iterate 4 (first | refine so rfl ?_ | refine sb rfl ?_)
    refine so rfl ?_
    refine C_if rfl (fun hb7 => ?_) (fun hb7 => ?_)
    · replace hy4 := cT hb7 hy4
      refine sc rfl ?_
      refine sc rfl ?_
      refine sc rfl ?_
      refine sc rfl ?_
      iterate 3 (first | refine so rfl ?_ | refine sb rfl ?_)
      obtain ⟨g8, hy4⟩ := gT hy4
      refine so rfl (And.intro g8 ?_)
      iterate 1 (first | refine so rfl ?_ | refine sb rfl ?_)
      obtain ⟨r9, hr10, hy4⟩ := bT hy4
      refine O_call (TypeR_w _ _ hr10) (by rfl) (by rfl) (by rfl) (by rfl) (fun q11 hq11 => ?_)
      subst hq11
      refine sb rfl ?_
      obtain ⟨g12, hy4⟩ := gT hy4
      refine O_push (by_ := 48) Ty.c s1.2 r9 [(0, SL 1 INTc l), (4, I64 s1.1)] rfl rfl rfl rfl rfl rfl rfl rfl rfl rfl ⟨rfl, rfl, trivial⟩ rfl rfl (by omega) (by simp only [maxLen]; omega) ?_
      iterate 1 (first | refine so rfl ?_ | refine sb rfl ?_)
      refine so rfl ?_
      refine sc rfl ?_
      iterate 3 (first | refine so rfl ?_ | refine sb rfl ?_)
      refine so rfl ?_
      obtain rfl := Option.some.inj hy4
      exact ⟨_, rfl, Le.sub [18] ⟨rfl, rfl, rfl, trivial⟩ rfl⟩
    · replace hy4 := cF hb7 hy4
      refine sc rfl ?_
      obtain rfl := Option.some.inj hy4
      have ho22 := hr5 _ rfl
      subst ho22
      exact ⟨Le.sub [18] ⟨rfl, trivial⟩ rfl, trivial⟩
  refine C_le ⟨[(3, .own 18)], [VEC 18 71 3 Ty.c o2]⟩ hs ?_
  refine sc rfl ?_
  refine sc rfl ?_
  iterate 2 (first | refine so rfl ?_ | refine sb rfl ?_)
  refine so rfl ?_
  refine C_le _ (Le.freezeL 2 rfl rfl) ?_
  refine sc rfl ?_
  obtain rfl := Option.some.inj h
  exact ⟨_, rfl, rfl, rfl⟩
noncomputable def BeginsR_L1 (l : List Dcl) (nm : List UInt8) (t : List Int) (s1 : Int) : Option ((Int) ⊕ ((Bool) ⊕ (Unit))) :=
  cond (decide (s1 < (t.length : Int))) (Option.bind (RowR_F l nm (IntKind.i64.wrap (s1 + 1))) (fun r8 => cond (!r8.2) (some (Sum.inr ((Sum.inl false)))) (chk ((0 : Int) ≤ s1 ∧ s1 < (t.length : Int)) (Option.bind (TypeR_F (t.getD (Int.toNat s1) default)) (fun r13 => Option.bind (SameTy_X FU r8.1.ty r13) (fun r15 => cond (!r15) (some (Sum.inr ((Sum.inl false)))) (some (Sum.inl (IntKind.i64.wrap (s1 + 1)))))))))) (some (Sum.inr ((Sum.inr ()))))
noncomputable def BeginsR_L22 (l : List Dcl) (nm : List UInt8) (t : List Int) (b6 : Unit) (r19 : List Fld) (s22 : Int) : Option ((Int) ⊕ ((Bool) ⊕ (Unit))) :=
  cond (decide (s22 < (r19.length : Int))) (chk ((0 : Int) ≤ s22 ∧ s22 < (r19.length : Int)) (cond (decide ((t.length : Int) < ((r19.getD (Int.toNat s22) default).tag))) (chk ((0 : Int) ≤ s22 ∧ s22 < (r19.length : Int)) (cond ((((r19.getD (Int.toNat s22) default).ty).kind) != 9) (some (Sum.inr ((Sum.inl false)))) (some (Sum.inl (IntKind.i64.wrap (s22 + 1)))))) (some (Sum.inl (IntKind.i64.wrap (s22 + 1)))))) (some (Sum.inr ((Sum.inr ()))))
noncomputable def BeginsR_F (l : List Dcl) (nm : List UInt8) (t : List Int) : Option (Bool) :=
  Option.bind (Iter (BeginsR_L1 l nm t) 0) (Sum.elim (fun c18 => some c18) (fun b6 => Option.bind (RowsR_F l nm) (fun r19 => Option.bind (Iter (BeginsR_L22 l nm t b6 r19) 0) (Sum.elim (fun c33 => some c33) (fun b27 => some true)))))
theorem BeginsR_w (l : List Dcl) (nm : List UInt8) (t : List Int) (r : Bool) (h : BeginsR_F l nm t = some r) : FnP Try.prog 38 [SL 5 Dcl.c l, .s nm, SL 1 INTc t] (· = B r) := by
  unfold BeginsR_F at h
  refine FnP.intro Try.tabOK Try.wide_ Try.func38 rfl (by decide) rfl (fun X => ?_)
  refine sc rfl ?_
  refine sc rfl ?_
  iterate 1 (first | refine so rfl ?_ | refine sb rfl ?_)
  refine so rfl ?_
  refine sc rfl ?_
  refine sc rfl ?_
  refine sc rfl ?_
  iterate 1 (first | refine so rfl ?_ | refine sb rfl ?_)
  refine so rfl ?_
  obtain ⟨o2, ho2, h⟩ := bT h
  refine C_joinP ((fun b6 : Unit => (⟨[(0, SL 5 Dcl.c l), (1, .s nm), (2, SL 1 INTc t)], []⟩ : St)) (match o2 with | (.inl b6) => default | (.inr b6) => b6)) (∃ b, o2 = (.inr b)) ?_ (fun s hs hp => ?_)
  · refine sc rfl ?_
    refine C_iter (fun s1 : Int => ⟨[(0, SL 5 Dcl.c l), (1, .s nm), (2, SL 1 INTc t), (7, I64 s1)], []⟩) ho2 (Le.sub [] ⟨rfl, rfl, rfl, rfl, trivial⟩ rfl) (fun s1 y3 hy4 hr5 => ?_)
    unfold BeginsR_L1 at hy4
    refine sc rfl ?_
    refine sc rfl ?_
    refine sc rfl ?_
    iterate 4 (first | refine so rfl ?_ | refine sb rfl ?_)
    refine so rfl ?_
    refine C_if rfl (fun hb7 => ?_) (fun hb7 => ?_)
    · replace hy4 := cT hb7 hy4
      refine sc rfl ?_
      refine sc rfl ?_
      refine sc rfl ?_
      refine sc rfl ?_
      refine sc rfl ?_
      iterate 4 (first | refine so rfl ?_ | refine sb rfl ?_)
      obtain ⟨r8, hr9, hy4⟩ := bT hy4
      refine O_call (RowR_w _ _ _ _ hr9) (by rfl) (by rfl) (by rfl) (by rfl) (fun q10 hq10 => ?_)
      subst hq10
      iterate 6 (first | refine so rfl ?_ | refine sb rfl ?_)
      refine so rfl ?_
      refine sc rfl ?_
      refine C_drawD rfl (by kernel_rfl) ?_
      iterate 3 (first | refine sd rfl ?_ | refine sdb rfl ?_)
      refine D_case 2 rfl (fun hb11 => ?_) (fun hb11 => ?_)
      · replace hy4 := cT hb11 hy4
        iterate 10 (first | refine sd rfl ?_ | refine sdb rfl ?_)
        refine sd rfl ?_
        refine C_true rfl rfl ?_
        refine sc rfl ?_
        refine sc rfl ?_
        iterate 1 (first | refine so rfl ?_ | refine sb rfl ?_)
        refine so rfl ?_
        refine sc rfl ?_
        obtain rfl := Option.some.inj hy4
        have ho22 := hr5 _ rfl
        subst ho22
        obtain rfl := Option.some.inj h
        exact ⟨_, rfl, rfl, rfl⟩
      · replace hy4 := cF hb11 hy4
        iterate 4 (first | refine sd rfl ?_ | refine sdb rfl ?_)
        obtain ⟨g12, hy4⟩ := gT hy4
        refine sd rfl (And.intro g12 ?_)
        iterate 1 (first | refine sd rfl ?_ | refine sdb rfl ?_)
        obtain ⟨r13, hr14, hy4⟩ := bT hy4
        refine D_call (TypeR_w _ _ hr14) rfl rfl rfl rfl ?_
        obtain ⟨r15, hr16, hy4⟩ := bT hy4
        refine D_call (SameTy_w _ _ _ hr16) rfl rfl rfl rfl ?_
        iterate 2 (first | refine sd rfl ?_ | refine sdb rfl ?_)
        refine sd rfl ?_
        refine C_if rfl (fun hb17 => ?_) (fun hb17 => ?_)
        · replace hy4 := cT hb17 hy4
          refine sc rfl ?_
          refine sc rfl ?_
          iterate 1 (first | refine so rfl ?_ | refine sb rfl ?_)
          refine so rfl ?_
          refine sc rfl ?_
          obtain rfl := Option.some.inj hy4
          have ho22 := hr5 _ rfl
          subst ho22
          obtain rfl := Option.some.inj h
          exact ⟨_, rfl, rfl, rfl⟩
        · replace hy4 := cF hb17 hy4
          refine sc rfl ?_
          refine sc rfl ?_
          iterate 3 (first | refine so rfl ?_ | refine sb rfl ?_)
          refine so rfl ?_
          obtain rfl := Option.some.inj hy4
          exact ⟨_, rfl, Le.sub [] ⟨rfl, rfl, rfl, rfl, trivial⟩ rfl⟩
    · replace hy4 := cF hb7 hy4
      refine sc rfl ?_
      obtain rfl := Option.some.inj hy4
      have ho22 := hr5 _ rfl
      subst ho22
      exact ⟨Le.sub [] ⟨rfl, rfl, rfl, trivial⟩ rfl, ⟨_, rfl⟩⟩
  obtain ⟨b6, rfl⟩ := hp
  refine C_le ⟨[(0, SL 5 Dcl.c l), (1, .s nm), (2, SL 1 INTc t)], []⟩ hs ?_
  refine sc rfl ?_
  refine sc rfl ?_
  iterate 2 (first | refine so rfl ?_ | refine sb rfl ?_)
  obtain ⟨r19, hr20, h⟩ := bT h
  refine O_call (RowsR_w _ _ _ hr20) (by rfl) (by rfl) (by rfl) (by rfl) (fun q21 hq21 => ?_)
  subst hq21
  iterate 1 (first | refine so rfl ?_ | refine sb rfl ?_)
  refine so rfl ?_
  refine sc rfl ?_
  refine sc rfl ?_
  refine sc rfl ?_
  iterate 1 (first | refine so rfl ?_ | refine sb rfl ?_)
  refine so rfl ?_
  obtain ⟨o23, ho23, h⟩ := bT h
  refine C_joinP ((fun b27 : Unit => (⟨[], []⟩ : St)) (match o23 with | (.inl b27) => default | (.inr b27) => b27)) (∃ b, o23 = (.inr b)) ?_ (fun s hs hp => ?_)
  · refine sc rfl ?_
    refine C_iter (fun s22 : Int => ⟨[(2, SL 1 INTc t), (10, SL 5 Fld.c r19), (11, I64 s22)], []⟩) ho23 (Le.sub [] ⟨rfl, rfl, rfl, trivial⟩ rfl) (fun s22 y24 hy25 hr26 => ?_)
    unfold BeginsR_L22 at hy25
    refine sc rfl ?_
    refine sc rfl ?_
    refine sc rfl ?_
    iterate 4 (first | refine so rfl ?_ | refine sb rfl ?_)
    refine so rfl ?_
    refine C_if rfl (fun hb28 => ?_) (fun hb28 => ?_)
    · replace hy25 := cT hb28 hy25
      refine sc rfl ?_
      refine sc rfl ?_
      refine sc rfl ?_
      refine sc rfl ?_
      refine sc rfl ?_
      iterate 2 (first | refine so rfl ?_ | refine sb rfl ?_)
      obtain ⟨g29, hy25⟩ := gT hy25
      refine so rfl (And.intro g29 ?_)
      iterate 6 (first | refine so rfl ?_ | refine sb rfl ?_)
      refine O_case 56 rfl (fun hb30 => ?_) (fun hb30 => ?_)
      · replace hy25 := cT hb30 hy25
        iterate 2 (first | refine so rfl ?_ | refine sb rfl ?_)
        obtain ⟨g31, hy25⟩ := gT hy25
        refine so rfl (And.intro g31 ?_)
        iterate 5 (first | refine so rfl ?_ | refine sb rfl ?_)
        refine so rfl ?_
        refine C_if rfl (fun hb32 => ?_) (fun hb32 => ?_)
        · replace hy25 := cT hb32 hy25
          refine sc rfl ?_
          refine sc rfl ?_
          iterate 1 (first | refine so rfl ?_ | refine sb rfl ?_)
          refine so rfl ?_
          refine sc rfl ?_
          obtain rfl := Option.some.inj hy25
          have ho232 := hr26 _ rfl
          subst ho232
          obtain rfl := Option.some.inj h
          exact ⟨_, rfl, rfl, rfl⟩
        · replace hy25 := cF hb32 hy25
          refine sc rfl ?_
          refine sc rfl ?_
          iterate 3 (first | refine so rfl ?_ | refine sb rfl ?_)
          refine so rfl ?_
          obtain rfl := Option.some.inj hy25
          exact ⟨_, rfl, Le.sub [] ⟨rfl, rfl, rfl, trivial⟩ rfl⟩
      · replace hy25 := cF hb30 hy25
        iterate 8 (first | refine so rfl ?_ | refine sb rfl ?_)
        refine so rfl ?_
        refine C_false rfl rfl ?_
        refine sc rfl ?_
        refine sc rfl ?_
        iterate 3 (first | refine so rfl ?_ | refine sb rfl ?_)
        refine so rfl ?_
        obtain rfl := Option.some.inj hy25
        exact ⟨_, rfl, Le.sub [] ⟨rfl, rfl, rfl, trivial⟩ rfl⟩
    · replace hy25 := cF hb28 hy25
      refine sc rfl ?_
      obtain rfl := Option.some.inj hy25
      have ho232 := hr26 _ rfl
      subst ho232
      exact ⟨Le.sub [] trivial rfl, ⟨_, rfl⟩⟩
  obtain ⟨b27, rfl⟩ := hp
  refine C_le ⟨[], []⟩ hs ?_
  refine sc rfl ?_
  refine sc rfl ?_
  iterate 1 (first | refine so rfl ?_ | refine sb rfl ?_)
  refine so rfl ?_
  refine sc rfl ?_
  obtain rfl := Option.some.inj h
  exact ⟨_, rfl, rfl, rfl⟩
noncomputable def FitsR_F (l : List Dcl) (m : Mth) (op : Int) : Option (Int) :=
  Option.bind (α := Bool) (cond (decide (op < 1)) (some true) (some (decide (8 < op)))) (fun m1 => cond m1 (some 4) (Option.bind (α := Bool) (Option.bind (KindR_F l m.fin) (fun r5 => cond (r5 != 1) (some true) (Option.bind (KindR_F l m.fout) (fun r9 => some (r9 != 1))))) (fun m4 => cond m4 (some 6) (Option.bind (α := Bool) (Option.bind (InR_F op) (fun r14 => Option.bind (BeginsR_F l m.fin r14) (fun r16 => cond (!r16) (some true) (Option.bind (OutR_F op) (fun r19 => Option.bind (BeginsR_F l m.fout r19) (fun r21 => some (!r21))))))) (fun m13 => cond m13 (some 8) (some 0))))))
theorem FitsR_w (l : List Dcl) (m : Mth) (op : Int) (r : Int) (h : FitsR_F l m op = some r) : FnP Try.prog 22 [SL 5 Dcl.c l, .agg (Mth.c m), I64 op] (· = I64 r) := by
  unfold FitsR_F at h
  refine FnP.intro Try.tabOK Try.wide_ Try.func22 rfl (by decide) rfl (fun X => ?_)
  refine sc rfl ?_
  refine sc rfl ?_
  iterate 2 (first | refine so rfl ?_ | refine sb rfl ?_)
  refine so rfl ?_
  refine sc rfl ?_
  refine sc rfl ?_
  obtain ⟨m1, hm1, h⟩ := bT h
  refine C_join ⟨[(0, SL 5 Dcl.c l), (2, I64 op), (4, .bp 4 0), (12, B m1)], [.box 4 39 [I64 m.tag, .s m.name, .s m.fin, .s m.fout, B m.oneWay]]⟩ ?_ (fun s hm1s => C_le _ hm1s ?_)
  · refine sc rfl ?_
    iterate 3 (first | refine so rfl ?_ | refine sb rfl ?_)
    refine O_case 9 rfl (fun hb2 => ?_) (fun hb2 => ?_)
    · replace hm1 := cT hb2 hm1
      iterate 3 (first | refine so rfl ?_ | refine sb rfl ?_)
      refine so rfl ?_
      obtain rfl := Option.some.inj hm1
      exact Le.sub [4] ⟨rfl, rfl, rfl, rfl, trivial⟩ rfl
    · replace hm1 := cF hb2 hm1
      iterate 3 (first | refine so rfl ?_ | refine sb rfl ?_)
      refine so rfl ?_
      obtain rfl := Option.some.inj hm1
      exact Le.sub [4] ⟨rfl, rfl, rfl, rfl, trivial⟩ rfl
  refine C_if rfl (fun hb3 => ?_) (fun hb3 => ?_)
  · replace h := cT hb3 h
    refine sc rfl ?_
    refine sc rfl ?_
    iterate 1 (first | refine so rfl ?_ | refine sb rfl ?_)
    refine so rfl ?_
    refine sc rfl ?_
    obtain rfl := Option.some.inj h
    exact ⟨_, rfl, rfl, rfl⟩
  · replace h := cF hb3 h
    refine sc rfl ?_
    refine sc rfl ?_
    refine sc rfl ?_
    obtain ⟨m4, hm4, h⟩ := bT h
    refine C_join ⟨[(0, SL 5 Dcl.c l), (2, I64 op), (4, .bp 4 0), (24, B m4)], [.box 4 39 [I64 m.tag, .s m.name, .s m.fin, .s m.fout, B m.oneWay]]⟩ ?_ (fun s hm4s => C_le _ hm4s ?_)
    · refine sc rfl ?_
      iterate 3 (first | refine so rfl ?_ | refine sb rfl ?_)
      obtain ⟨r5, hr6, hm4⟩ := bT hm4
      refine O_call (KindR_w _ _ _ hr6) (by rfl) (by rfl) (by rfl) (by rfl) (fun q7 hq7 => ?_)
      subst hq7
      iterate 2 (first | refine so rfl ?_ | refine sb rfl ?_)
      refine O_case 18 rfl (fun hb8 => ?_) (fun hb8 => ?_)
      · replace hm4 := cT hb8 hm4
        iterate 6 (first | refine so rfl ?_ | refine sb rfl ?_)
        refine so rfl ?_
        obtain rfl := Option.some.inj hm4
        exact Le.sub [4] ⟨rfl, rfl, rfl, rfl, trivial⟩ rfl
      · replace hm4 := cF hb8 hm4
        iterate 3 (first | refine so rfl ?_ | refine sb rfl ?_)
        obtain ⟨r9, hr10, hm4⟩ := bT hm4
        refine O_call (KindR_w _ _ _ hr10) (by rfl) (by rfl) (by rfl) (by rfl) (fun q11 hq11 => ?_)
        subst hq11
        iterate 2 (first | refine so rfl ?_ | refine sb rfl ?_)
        refine so rfl ?_
        obtain rfl := Option.some.inj hm4
        exact Le.sub [4] ⟨rfl, rfl, rfl, rfl, trivial⟩ rfl
    refine C_if rfl (fun hb12 => ?_) (fun hb12 => ?_)
    · replace h := cT hb12 h
      refine sc rfl ?_
      refine sc rfl ?_
      iterate 1 (first | refine so rfl ?_ | refine sb rfl ?_)
      refine so rfl ?_
      refine sc rfl ?_
      obtain rfl := Option.some.inj h
      exact ⟨_, rfl, rfl, rfl⟩
    · replace h := cF hb12 h
      refine sc rfl ?_
      refine sc rfl ?_
      refine sc rfl ?_
      obtain ⟨m13, hm13, h⟩ := bT h
      refine C_join ⟨[(40, B m13)], [.box 4 39 [I64 m.tag, .s m.name, .s m.fin, .s m.fout, B m.oneWay]]⟩ ?_ (fun s hm13s => C_le _ hm13s ?_)
      · refine C_drawD rfl (by kernel_rfl) ?_
        iterate 4 (first | refine sd rfl ?_ | refine sdb rfl ?_)
        obtain ⟨r14, hr15, hm13⟩ := bT hm13
        refine D_call (InR_w _ _ hr15) rfl rfl rfl rfl ?_
        obtain ⟨r16, hr17, hm13⟩ := bT hm13
        refine D_call (BeginsR_w _ _ _ _ hr17) rfl rfl rfl rfl ?_
        iterate 2 (first | refine sd rfl ?_ | refine sdb rfl ?_)
        refine D_case 7 rfl (fun hb18 => ?_) (fun hb18 => ?_)
        · replace hm13 := cT hb18 hm13
          iterate 8 (first | refine sd rfl ?_ | refine sdb rfl ?_)
          refine sd rfl ?_
          obtain rfl := Option.some.inj hm13
          exact Le.sub [4] ⟨rfl, trivial⟩ rfl
        · replace hm13 := cF hb18 hm13
          iterate 4 (first | refine sd rfl ?_ | refine sdb rfl ?_)
          obtain ⟨r19, hr20, hm13⟩ := bT hm13
          refine D_call (OutR_w _ _ hr20) rfl rfl rfl rfl ?_
          obtain ⟨r21, hr22, hm13⟩ := bT hm13
          refine D_call (BeginsR_w _ _ _ _ hr22) rfl rfl rfl rfl ?_
          iterate 2 (first | refine sd rfl ?_ | refine sdb rfl ?_)
          refine sd rfl ?_
          obtain rfl := Option.some.inj hm13
          exact Le.sub [4] ⟨rfl, trivial⟩ rfl
      refine C_if rfl (fun hb23 => ?_) (fun hb23 => ?_)
      · replace h := cT hb23 h
        refine sc rfl ?_
        refine sc rfl ?_
        iterate 1 (first | refine so rfl ?_ | refine sb rfl ?_)
        refine so rfl ?_
        refine sc rfl ?_
        obtain rfl := Option.some.inj h
        exact ⟨_, rfl, rfl, rfl⟩
      · replace h := cF hb23 h
        refine sc rfl ?_
        refine sc rfl ?_
        refine sc rfl ?_
        iterate 1 (first | refine so rfl ?_ | refine sb rfl ?_)
        refine so rfl ?_
        refine sc rfl ?_
        obtain rfl := Option.some.inj h
        exact ⟨_, rfl, rfl, rfl⟩
noncomputable def SameTys_L2 (a : List Ty) (b : List Ty) (s2 : Int) : Option ((Int) ⊕ ((Bool) ⊕ (Unit))) :=
  cond (decide (s2 < (a.length : Int))) (chk ((0 : Int) ≤ s2 ∧ s2 < (a.length : Int)) (chk ((0 : Int) ≤ s2 ∧ s2 < (b.length : Int)) (Option.bind (SameTy_X FU (a.getD (Int.toNat s2) default) (b.getD (Int.toNat s2) default)) (fun r11 => cond (!r11) (some (Sum.inr ((Sum.inl false)))) (some (Sum.inl (IntKind.i64.wrap (s2 + 1)))))))) (some (Sum.inr ((Sum.inr ()))))
noncomputable def SameTys_F (a : List Ty) (b : List Ty) : Option (Bool) :=
  cond ((a.length : Int) != (b.length : Int)) (some false) (Option.bind (Iter (SameTys_L2 a b) 0) (Sum.elim (fun c14 => some c14) (fun b7 => some true)))
theorem SameTys_w (a : List Ty) (b : List Ty) (r : Bool) (h : SameTys_F a b = some r) : FnP Try.prog 17 [SL 3 Ty.c a, SL 3 Ty.c b] (· = B r) := by
  unfold SameTys_F at h
  refine FnP.intro Try.tabOK Try.wide_ Try.func17 rfl (by decide) rfl (fun X => ?_)
  refine sc rfl ?_
  refine sc rfl ?_
  iterate 1 (first | refine so rfl ?_ | refine sb rfl ?_)
  refine so rfl ?_
  refine sc rfl ?_
  refine sc rfl ?_
  refine sc rfl ?_
  iterate 5 (first | refine so rfl ?_ | refine sb rfl ?_)
  refine so rfl ?_
  refine C_if rfl (fun hb1 => ?_) (fun hb1 => ?_)
  · replace h := cT hb1 h
    refine sc rfl ?_
    refine sc rfl ?_
    iterate 1 (first | refine so rfl ?_ | refine sb rfl ?_)
    refine so rfl ?_
    refine sc rfl ?_
    obtain rfl := Option.some.inj h
    exact ⟨_, rfl, rfl, rfl⟩
  · replace h := cF hb1 h
    refine sc rfl ?_
    refine sc rfl ?_
    refine sc rfl ?_
    refine sc rfl ?_
    iterate 1 (first | refine so rfl ?_ | refine sb rfl ?_)
    refine so rfl ?_
    obtain ⟨o3, ho3, h⟩ := bT h
    refine C_joinP ((fun b7 : Unit => (⟨[], []⟩ : St)) (match o3 with | (.inl b7) => default | (.inr b7) => b7)) (∃ b, o3 = (.inr b)) ?_ (fun s hs hp => ?_)
    · refine sc rfl ?_
      refine C_iter (fun s2 : Int => ⟨[(0, SL 3 Ty.c a), (1, SL 3 Ty.c b), (5, I64 s2)], []⟩) ho3 (Le.sub [] ⟨rfl, rfl, rfl, trivial⟩ rfl) (fun s2 y4 hy5 hr6 => ?_)
      unfold SameTys_L2 at hy5
      refine sc rfl ?_
      refine sc rfl ?_
      refine sc rfl ?_
      iterate 4 (first | refine so rfl ?_ | refine sb rfl ?_)
      refine so rfl ?_
      refine C_if rfl (fun hb8 => ?_) (fun hb8 => ?_)
      · replace hy5 := cT hb8 hy5
        refine sc rfl ?_
        refine sc rfl ?_
        refine sc rfl ?_
        refine sc rfl ?_
        refine C_drawD rfl (by kernel_rfl) ?_
        iterate 2 (first | refine sd rfl ?_ | refine sdb rfl ?_)
        obtain ⟨g9, hy5⟩ := gT hy5
        refine sd rfl (And.intro g9 ?_)
        iterate 3 (first | refine sd rfl ?_ | refine sdb rfl ?_)
        obtain ⟨g10, hy5⟩ := gT hy5
        refine sd rfl (And.intro g10 ?_)
        iterate 1 (first | refine sd rfl ?_ | refine sdb rfl ?_)
        obtain ⟨r11, hr12, hy5⟩ := bT hy5
        refine D_call (SameTy_w _ _ _ hr12) rfl rfl rfl rfl ?_
        iterate 1 (first | refine sd rfl ?_ | refine sdb rfl ?_)
        refine sd rfl ?_
        refine C_if rfl (fun hb13 => ?_) (fun hb13 => ?_)
        · replace hy5 := cT hb13 hy5
          refine sc rfl ?_
          refine sc rfl ?_
          iterate 1 (first | refine so rfl ?_ | refine sb rfl ?_)
          refine so rfl ?_
          refine sc rfl ?_
          obtain rfl := Option.some.inj hy5
          have ho32 := hr6 _ rfl
          subst ho32
          obtain rfl := Option.some.inj h
          exact ⟨_, rfl, rfl, rfl⟩
        · replace hy5 := cF hb13 hy5
          refine sc rfl ?_
          refine sc rfl ?_
          iterate 3 (first | refine so rfl ?_ | refine sb rfl ?_)
          refine so rfl ?_
          obtain rfl := Option.some.inj hy5
          exact ⟨_, rfl, Le.sub [] ⟨rfl, rfl, rfl, trivial⟩ rfl⟩
      · replace hy5 := cF hb8 hy5
        refine sc rfl ?_
        obtain rfl := Option.some.inj hy5
        have ho32 := hr6 _ rfl
        subst ho32
        exact ⟨Le.sub [] trivial rfl, ⟨_, rfl⟩⟩
    obtain ⟨b7, rfl⟩ := hp
    refine C_le ⟨[], []⟩ hs ?_
    refine sc rfl ?_
    refine sc rfl ?_
    iterate 1 (first | refine so rfl ?_ | refine sb rfl ?_)
    refine so rfl ?_
    refine sc rfl ?_
    obtain rfl := Option.some.inj h
    exact ⟨_, rfl, rfl, rfl⟩
noncomputable def Row_F (op : Int) : Option (List UInt8 × List UInt8 × Bool) :=
  Option.bind (α := Bool) (cond (op == 1) (some (op == 1)) (some (op == 6))) (fun m1 => cond m1 (some ([116], [111], true)) (Option.bind (α := Bool) (cond (op == 2) (some (op == 2)) (some (op == 5))) (fun m4 => cond m4 (some ([116, 116], [], true)) (cond (op == 3) (some ([116], [98], true)) (cond (op == 4) (some ([116, 105], [105], true)) (cond (op == 7) (some ([116, 116, 117], [98], true)) (cond (op == 8) (some ([116, 116], [98], true)) (some ([], [], false)))))))))
theorem Row_w (op : Int) (r : List UInt8 × List UInt8 × Bool) (h : Row_F op = some r) : FnP Try.prog 31 [I64 op] (· = .tup [.s r.1, .s r.2.1, B r.2.2]) := by
  unfold Row_F at h
  refine FnP.intro Try.tabOK Try.wide_ Try.func31 rfl (by decide) rfl (fun X => ?_)
  refine sc rfl ?_
  refine sc rfl ?_
  iterate 3 (first | refine so rfl ?_ | refine sb rfl ?_)
  refine so rfl ?_
  refine sc rfl ?_
  refine sc rfl ?_
  refine sc rfl ?_
  iterate 1 (first | refine so rfl ?_ | refine sb rfl ?_)
  refine so rfl ?_
  refine sc rfl ?_
  refine sc rfl ?_
  refine sc rfl ?_
  refine sc rfl ?_
  iterate 2 (first | refine so rfl ?_ | refine sb rfl ?_)
  refine so rfl ?_
  obtain ⟨m1, hm1, h⟩ := bT h
  refine C_join ⟨[(5, I64 op), (6, B m1)], []⟩ ?_ (fun s hm1s => C_le _ hm1s ?_)
  · refine C_if rfl (fun hb2 => ?_) (fun hb2 => ?_)
    · replace hm1 := cT hb2 hm1
      refine sc rfl ?_
      obtain rfl := Option.some.inj hm1
      exact Le.sub [] ⟨rfl, rfl, trivial⟩ rfl
    · replace hm1 := cF hb2 hm1
      refine sc rfl ?_
      iterate 2 (first | refine so rfl ?_ | refine sb rfl ?_)
      refine so rfl ?_
      obtain rfl := Option.some.inj hm1
      exact Le.sub [] ⟨rfl, rfl, trivial⟩ rfl
  refine C_if rfl (fun hb3 => ?_) (fun hb3 => ?_)
  · replace h := cT hb3 h
    refine sc rfl ?_
    refine sc rfl ?_
    iterate 3 (first | refine so rfl ?_ | refine sb rfl ?_)
    refine so rfl ?_
    refine sc rfl ?_
    obtain rfl := Option.some.inj h
    exact ⟨_, rfl, rfl, rfl⟩
  · replace h := cF hb3 h
    refine sc rfl ?_
    refine sc rfl ?_
    refine sc rfl ?_
    iterate 2 (first | refine so rfl ?_ | refine sb rfl ?_)
    refine so rfl ?_
    obtain ⟨m4, hm4, h⟩ := bT h
    refine C_join ⟨[(5, I64 op), (9, B m4)], []⟩ ?_ (fun s hm4s => C_le _ hm4s ?_)
    · refine C_if rfl (fun hb5 => ?_) (fun hb5 => ?_)
      · replace hm4 := cT hb5 hm4
        refine sc rfl ?_
        obtain rfl := Option.some.inj hm4
        exact Le.sub [] ⟨rfl, rfl, trivial⟩ rfl
      · replace hm4 := cF hb5 hm4
        refine sc rfl ?_
        iterate 2 (first | refine so rfl ?_ | refine sb rfl ?_)
        refine so rfl ?_
        obtain rfl := Option.some.inj hm4
        exact Le.sub [] ⟨rfl, rfl, trivial⟩ rfl
    refine C_if rfl (fun hb6 => ?_) (fun hb6 => ?_)
    · replace h := cT hb6 h
      refine sc rfl ?_
      refine sc rfl ?_
      iterate 3 (first | refine so rfl ?_ | refine sb rfl ?_)
      refine so rfl ?_
      refine sc rfl ?_
      obtain rfl := Option.some.inj h
      exact ⟨_, rfl, rfl, rfl⟩
    · replace h := cF hb6 h
      refine sc rfl ?_
      refine sc rfl ?_
      iterate 2 (first | refine so rfl ?_ | refine sb rfl ?_)
      refine so rfl ?_
      refine C_if rfl (fun hb7 => ?_) (fun hb7 => ?_)
      · replace h := cT hb7 h
        refine sc rfl ?_
        refine sc rfl ?_
        iterate 3 (first | refine so rfl ?_ | refine sb rfl ?_)
        refine so rfl ?_
        refine sc rfl ?_
        obtain rfl := Option.some.inj h
        exact ⟨_, rfl, rfl, rfl⟩
      · replace h := cF hb7 h
        refine sc rfl ?_
        refine sc rfl ?_
        iterate 2 (first | refine so rfl ?_ | refine sb rfl ?_)
        refine so rfl ?_
        refine C_if rfl (fun hb8 => ?_) (fun hb8 => ?_)
        · replace h := cT hb8 h
          refine sc rfl ?_
          refine sc rfl ?_
          iterate 3 (first | refine so rfl ?_ | refine sb rfl ?_)
          refine so rfl ?_
          refine sc rfl ?_
          obtain rfl := Option.some.inj h
          exact ⟨_, rfl, rfl, rfl⟩
        · replace h := cF hb8 h
          refine sc rfl ?_
          refine sc rfl ?_
          iterate 2 (first | refine so rfl ?_ | refine sb rfl ?_)
          refine so rfl ?_
          refine C_if rfl (fun hb9 => ?_) (fun hb9 => ?_)
          · replace h := cT hb9 h
            refine sc rfl ?_
            refine sc rfl ?_
            iterate 3 (first | refine so rfl ?_ | refine sb rfl ?_)
            refine so rfl ?_
            refine sc rfl ?_
            obtain rfl := Option.some.inj h
            exact ⟨_, rfl, rfl, rfl⟩
          · replace h := cF hb9 h
            refine sc rfl ?_
            refine sc rfl ?_
            iterate 2 (first | refine so rfl ?_ | refine sb rfl ?_)
            refine so rfl ?_
            refine C_if rfl (fun hb10 => ?_) (fun hb10 => ?_)
            · replace h := cT hb10 h
              refine sc rfl ?_
              refine sc rfl ?_
              iterate 3 (first | refine so rfl ?_ | refine sb rfl ?_)
              refine so rfl ?_
              refine sc rfl ?_
              obtain rfl := Option.some.inj h
              exact ⟨_, rfl, rfl, rfl⟩
            · replace h := cF hb10 h
              refine sc rfl ?_
              refine sc rfl ?_
              refine sc rfl ?_
              iterate 3 (first | refine so rfl ?_ | refine sb rfl ?_)
              refine so rfl ?_
              refine sc rfl ?_
              obtain rfl := Option.some.inj h
              exact ⟨_, rfl, rfl, rfl⟩
noncomputable def Letter_F (c : Int) : Option (Ty) :=
  cond (c == 116) (some (⟨4, [], ([] : List Ty)⟩ : Ty)) (cond (c == 105) (some (⟨2, [], ([] : List Ty)⟩ : Ty)) (cond (c == 117) (some (⟨3, [], ([] : List Ty)⟩ : Ty)) (cond (c == 98) (some (⟨1, [], ([] : List Ty)⟩ : Ty)) (some (⟨9, [], ([(⟨4, [], ([] : List Ty)⟩ : Ty)] : List Ty)⟩ : Ty)))))
theorem Letter_w (c : Int) (r : Ty) (h : Letter_F c = some r) : FnP Try.prog 44 [.v (.int .i32 c)] (· = .agg (Ty.c r)) := by
  unfold Letter_F at h
  refine FnP.intro Try.tabOK Try.wide_ Try.func44 rfl (by decide) rfl (fun X => ?_)
  refine sc rfl ?_
  refine sc rfl ?_
  iterate 1 (first | refine so rfl ?_ | refine sb rfl ?_)
  refine so rfl ?_
  refine sc rfl ?_
  refine sc rfl ?_
  refine sc rfl ?_
  iterate 1 (first | refine so rfl ?_ | refine sb rfl ?_)
  refine so rfl ?_
  refine sc rfl ?_
  refine sc rfl ?_
  refine sc rfl ?_
  iterate 2 (first | refine so rfl ?_ | refine sb rfl ?_)
  refine so rfl ?_
  refine C_if rfl (fun hb1 => ?_) (fun hb1 => ?_)
  · replace h := cT hb1 h
    refine sc rfl ?_
    refine sc rfl ?_
    iterate 1 (first | refine so rfl ?_ | refine sb rfl ?_)
    refine O_le _ (Le.agg 6 [I64 4, .s [], .sl ([] : List Ty).length 3 (Ty.rows ([] : List Ty))] rfl (.cons .refl (.cons .refl (.cons .nil .nil)))) ?_
    iterate 1 (first | refine so rfl ?_ | refine sb rfl ?_)
    refine so rfl ?_
    refine sc rfl ?_
    obtain rfl := Option.some.inj h
    exact ⟨_, rfl, rfl, rfl⟩
  · replace h := cF hb1 h
    refine sc rfl ?_
    refine sc rfl ?_
    iterate 2 (first | refine so rfl ?_ | refine sb rfl ?_)
    refine so rfl ?_
    refine C_if rfl (fun hb2 => ?_) (fun hb2 => ?_)
    · replace h := cT hb2 h
      refine sc rfl ?_
      refine sc rfl ?_
      iterate 1 (first | refine so rfl ?_ | refine sb rfl ?_)
      refine O_le _ (Le.agg 9 [I64 2, .s [], .sl ([] : List Ty).length 3 (Ty.rows ([] : List Ty))] rfl (.cons .refl (.cons .refl (.cons .nil .nil)))) ?_
      iterate 1 (first | refine so rfl ?_ | refine sb rfl ?_)
      refine so rfl ?_
      refine sc rfl ?_
      obtain rfl := Option.some.inj h
      exact ⟨_, rfl, rfl, rfl⟩
    · replace h := cF hb2 h
      refine sc rfl ?_
      refine sc rfl ?_
      iterate 2 (first | refine so rfl ?_ | refine sb rfl ?_)
      refine so rfl ?_
      refine C_if rfl (fun hb3 => ?_) (fun hb3 => ?_)
      · replace h := cT hb3 h
        refine sc rfl ?_
        refine sc rfl ?_
        iterate 1 (first | refine so rfl ?_ | refine sb rfl ?_)
        refine O_le _ (Le.agg 12 [I64 3, .s [], .sl ([] : List Ty).length 3 (Ty.rows ([] : List Ty))] rfl (.cons .refl (.cons .refl (.cons .nil .nil)))) ?_
        iterate 1 (first | refine so rfl ?_ | refine sb rfl ?_)
        refine so rfl ?_
        refine sc rfl ?_
        obtain rfl := Option.some.inj h
        exact ⟨_, rfl, rfl, rfl⟩
      · replace h := cF hb3 h
        refine sc rfl ?_
        refine sc rfl ?_
        iterate 2 (first | refine so rfl ?_ | refine sb rfl ?_)
        refine so rfl ?_
        refine C_if rfl (fun hb4 => ?_) (fun hb4 => ?_)
        · replace h := cT hb4 h
          refine sc rfl ?_
          refine sc rfl ?_
          iterate 1 (first | refine so rfl ?_ | refine sb rfl ?_)
          refine O_le _ (Le.agg 15 [I64 1, .s [], .sl ([] : List Ty).length 3 (Ty.rows ([] : List Ty))] rfl (.cons .refl (.cons .refl (.cons .nil .nil)))) ?_
          iterate 1 (first | refine so rfl ?_ | refine sb rfl ?_)
          refine so rfl ?_
          refine sc rfl ?_
          obtain rfl := Option.some.inj h
          exact ⟨_, rfl, rfl, rfl⟩
        · replace h := cF hb4 h
          refine sc rfl ?_
          refine sc rfl ?_
          refine sc rfl ?_
          iterate 1 (first | refine so rfl ?_ | refine sb rfl ?_)
          refine O_le _ (Le.agg 16 [I64 4, .s [], .sl ([] : List Ty).length 3 (Ty.rows ([] : List Ty))] rfl (.cons .refl (.cons .refl (.cons .nil .nil)))) ?_
          refine sb rfl ?_
          refine O_le _ (Le.lit 17 Ty.c ([(⟨4, [], ([] : List Ty)⟩ : Ty)] : List Ty) rfl rfl rfl (by intro j hj; match j, hj with | 0, _ => rfl)) ?_
          iterate 1 (first | refine so rfl ?_ | refine sb rfl ?_)
          refine O_le _ (Le.agg 18 [I64 9, .s [], .sl ([(⟨4, [], ([] : List Ty)⟩ : Ty)] : List Ty).length 3 (Ty.rows ([(⟨4, [], ([] : List Ty)⟩ : Ty)] : List Ty))] rfl (.cons .refl (.cons .refl (.cons (.row (fun i hi => (Ty.rows_eq _ i hi).symm)) .nil)))) ?_
          iterate 1 (first | refine so rfl ?_ | refine sb rfl ?_)
          refine so rfl ?_
          refine sc rfl ?_
          obtain rfl := Option.some.inj h
          exact ⟨_, rfl, rfl, rfl⟩
noncomputable def SameL_F (a : Ty) (b : Ty) : Option (Bool) :=
  Option.bind (α := Bool) (cond (a.kind != b.kind) (some true) (some ((a.of.length : Int) != (b.of.length : Int)))) (fun m1 => cond m1 (some false) (Option.bind (α := Bool) (cond (a.kind != 9) (some true) (chk ((0 : Int) ≤ 0 ∧ 0 < (a.of.length : Int)) (chk ((0 : Int) ≤ 0 ∧ 0 < (b.of.length : Int)) (some (((a.of.getD (Int.toNat 0) default).kind) == ((b.of.getD (Int.toNat 0) default).kind)))))) (fun m4 => some m4)))
theorem SameL_w (a : Ty) (b : Ty) (r : Bool) (h : SameL_F a b = some r) : FnP Try.prog 48 [.agg (Ty.c a), .agg (Ty.c b)] (· = B r) := by
  unfold SameL_F at h
  refine FnP.intro Try.tabOK Try.wide_ Try.func48 rfl (by decide) rfl (fun X => ?_)
  refine sc rfl ?_
  refine sc rfl ?_
  iterate 3 (first | refine so rfl ?_ | refine sb rfl ?_)
  refine so rfl ?_
  refine sc rfl ?_
  refine sc rfl ?_
  obtain ⟨m1, hm1, h⟩ := bT h
  refine C_join ⟨[(2, .bp 2 0), (3, .bp 3 0), (18, B m1)], [.box 2 71 [I64 a.kind, .s a.name, .sl a.of.length 3 (Ty.rows a.of)], .box 3 71 [I64 b.kind, .s b.name, .sl b.of.length 3 (Ty.rows b.of)]]⟩ ?_ (fun s hm1s => C_le _ hm1s ?_)
  · refine sc rfl ?_
    iterate 6 (first | refine so rfl ?_ | refine sb rfl ?_)
    refine O_case 10 rfl (fun hb2 => ?_) (fun hb2 => ?_)
    · replace hm1 := cT hb2 hm1
      iterate 8 (first | refine so rfl ?_ | refine sb rfl ?_)
      refine so rfl ?_
      obtain rfl := Option.some.inj hm1
      exact Le.sub [2, 3] ⟨rfl, rfl, rfl, trivial⟩ rfl
    · replace hm1 := cF hb2 hm1
      iterate 2 (first | refine so rfl ?_ | refine sb rfl ?_)
      refine O_le _ (Le.one 12 (SL 3 Ty.c a.of) rfl (.row (Ty.rows_eq _))) ?_
      iterate 3 (first | refine so rfl ?_ | refine sb rfl ?_)
      refine O_le _ (Le.one 15 (SL 3 Ty.c b.of) rfl (.row (Ty.rows_eq _))) ?_
      iterate 3 (first | refine so rfl ?_ | refine sb rfl ?_)
      refine so rfl ?_
      obtain rfl := Option.some.inj hm1
      exact Le.sub [2, 3] ⟨rfl, rfl, rfl, trivial⟩ rfl
  refine C_if rfl (fun hb3 => ?_) (fun hb3 => ?_)
  · replace h := cT hb3 h
    refine sc rfl ?_
    refine sc rfl ?_
    iterate 1 (first | refine so rfl ?_ | refine sb rfl ?_)
    refine so rfl ?_
    refine sc rfl ?_
    obtain rfl := Option.some.inj h
    exact ⟨_, rfl, rfl, rfl⟩
  · replace h := cF hb3 h
    refine sc rfl ?_
    refine sc rfl ?_
    obtain ⟨m4, hm4, h⟩ := bT h
    refine C_join ⟨[(4, B m4)], [.box 2 71 [I64 a.kind, .s a.name, .sl a.of.length 3 (Ty.rows a.of)], .box 3 71 [I64 b.kind, .s b.name, .sl b.of.length 3 (Ty.rows b.of)]]⟩ ?_ (fun s hm4s => C_le _ hm4s ?_)
    · refine C_drawD rfl (by kernel_rfl) ?_
      iterate 4 (first | refine sd rfl ?_ | refine sdb rfl ?_)
      refine D_case 3 rfl (fun hb5 => ?_) (fun hb5 => ?_)
      · replace hm4 := cT hb5 hm4
        iterate 13 (first | refine sd rfl ?_ | refine sdb rfl ?_)
        refine sd rfl ?_
        obtain rfl := Option.some.inj hm4
        exact Le.sub [2, 3] ⟨rfl, trivial⟩ rfl
      · replace hm4 := cF hb5 hm4
        iterate 1 (first | refine sd rfl ?_ | refine sdb rfl ?_)
        refine sdw (SL 3 Ty.c a.of) rfl rfl rfl (.row (Ty.rows_eq _)) ?_
        obtain ⟨g6, hm4⟩ := gT hm4
        refine sd rfl (And.intro g6 ?_)
        iterate 3 (first | refine sd rfl ?_ | refine sdb rfl ?_)
        refine sdw (SL 3 Ty.c b.of) rfl rfl rfl (.row (Ty.rows_eq _)) ?_
        obtain ⟨g7, hm4⟩ := gT hm4
        refine sd rfl (And.intro g7 ?_)
        iterate 5 (first | refine sd rfl ?_ | refine sdb rfl ?_)
        refine sd rfl ?_
        obtain rfl := Option.some.inj hm4
        exact Le.sub [2, 3] ⟨rfl, trivial⟩ rfl
    refine sc rfl ?_
    obtain rfl := Option.some.inj h
    exact ⟨_, rfl, rfl, rfl⟩
end Go.Proofs

/- Contracts of names: Of, Find, Kind. -/
set_option linter.unusedSimpArgs false
set_option linter.unusedVariables false
set_option maxRecDepth 100000
namespace Go.Proofs
open Go.Sy Go.Lib

/-- Names, each with its first place. -/
def fstE (l : List Dcl) : Nat → List (List UInt8 × AV)
  | 0 => []
  | k + 1 => match lookE (l.getD k default).name (fstE l k) with
    | none => fstE l k ++ [((l.getD k default).name, I64 (k : Nat))]
    | some _ => fstE l k

/-- A name's first place. -/
def fndL (nm : List UInt8) : List Dcl → Option Nat
  | [] => none
  | d :: l => if d.name = nm then some 0 else (fndL nm l).map (· + 1)

theorem lookE_app {α : Type} [DecidableEq α] (k : α) : ∀ (es es2 : List (α × AV)), lookE k (es ++ es2) = (lookE k es).or (lookE k es2)
  | [], es2 => by simp [lookE]
  | (j, x) :: es, es2 => by
    simp only [List.cons_append, lookE]
    split
    · simp
    · exact lookE_app k es es2

theorem fndL_app (nm : List UInt8) : ∀ (l l2 : List Dcl), fndL nm (l ++ l2) = (fndL nm l).or ((fndL nm l2).map (· + l.length))
  | [], l2 => by simp [fndL]
  | d :: l, l2 => by
    simp only [List.cons_append, fndL]
    split
    · simp
    · rw [fndL_app nm l l2]
      cases fndL nm l with
      | some i => simp
      | none =>
        cases fndL nm l2 with
        | none => simp
        | some j => simp; omega

theorem fstE_look (l : List Dcl) (nm : List UInt8) : ∀ k, k ≤ l.length → lookE nm (fstE l k) = (fndL nm (l.take k)).map fun j => I64 (j : Nat)
  | 0, _ => by simp [fstE, lookE, fndL]
  | k + 1, hk => by
    have ih := fstE_look l nm k (by omega)
    have hkl : k < l.length := by omega
    have hg : l.getD k default = l[k] := by rw [List.getD_eq_getElem?_getD]; simp [hkl]
    rw [List.take_succ_eq_append_getElem hkl, fndL_app]
    simp only [fstE, hg]
    have ih2 := fstE_look l l[k].name k (by omega)
    cases hx : lookE l[k].name (fstE l k) with
    | none =>
      simp only []
      rw [lookE_app, ih]
      cases fndL nm (l.take k) with
      | some j => simp
      | none =>
        simp only [lookE, fndL]
        by_cases hn : l[k].name = nm
        · simp [hn, Nat.min_eq_left (Nat.le_of_lt hkl)]
        · simp [hn]
    | some y =>
      simp only []
      rw [ih]
      cases hf : fndL nm (l.take k) with
      | some j => simp
      | none =>
        by_cases hn : l[k].name = nm
        · rw [hx, hn, hf] at ih2; simp at ih2
        · simp [fndL, hn]

/-- A table of names. -/
def tabV (l : List Dcl) : AV := .cp [mapE S (fstE l l.length), .sl l.length 1 (fun i => [I64 (l.getD i default).kind])]

noncomputable abbrev sK : Key Try.prog 9 (List UInt8) := strKey Try.underlying9

theorem sameBits_str (k : List UInt8) : Instr.sameBits 10000 (S k) (S k) = true := by
  show Instr.sameBits (9999 + 1) (.string ⟨k.toArray⟩) (.string ⟨k.toArray⟩) = true
  simp only [Instr.sameBits]
  show (k.toArray == k.toArray) = true
  simp

abbrev kinds (l : List Dcl) (k : Nat) : List AV := (l.take k).map fun d => I64 d.kind
abbrev tbA (bT mb : Nat) (h : Value) : Abs := boxA bT 130 [.v (.map (some mb)), .v h]

theorem Of_w (l : List Dcl) (hl : l.length ≤ 1000) : FnP Try.prog 55 [SL 5 Dcl.c l] (· = tabV l) := by
  refine FnP.intro Try.tabOK Try.wide_ Try.func55 rfl (by decide) rfl (fun X => ?_)
  repeat (first | refine sc rfl ?_ | refine so rfl ?_ | refine sb rfl ?_)
  refine O_makeMap S rfl (fun mb => ?_)
  repeat (first | refine sc rfl ?_ | refine so rfl ?_ | refine sb rfl ?_)
  refine C_absb 3 rfl rfl rfl (fun bT => ?_)
  refine C_le _ (Le.addAbs (slO (.slice none 0 0) 3 1 (kinds l 0)) rfl (fun _ _ => ⟨0, rfl, .inl ⟨rfl, rfl⟩⟩)) ?_
  refine C_loop (fun q : Nat × Value => ⟨[(0, SL 5 Dcl.c l), (3, PT bT 0), (11, SL 5 Dcl.c l), (12, I64 (l.length : Nat)), (13, I64 (q.1 : Nat))], [.abs (tbA bT mb q.2), .abs (slO q.2 3 1 (kinds l q.1)), .abs (mapA S (some mb) (fstE l q.1))]⟩)
    (fun q => q.1 ≤ l.length) (fun q => l.length - q.1) (0, .slice none 0 0) (Nat.zero_le _) (Le.perm [] ⟨rfl, rfl, rfl, rfl, rfl, trivial⟩ (by exact pickA_perm (is := [1, 0, 0]) (As := [_, _, _]) rfl)) ?_
  rintro ⟨i, h⟩ hi
  simp only [] at hi
  repeat (first | refine sc rfl ?_ | refine so rfl ?_ | refine sb rfl ?_)
  refine C_if rfl (fun h1 => ?_) (fun h1 => ?_) <;> simp only [decide_eq_true_eq, decide_eq_false_iff_not] at h1
  · have hil : i < l.length := by omega
    have hlk := fstE_look l (l.getD i default).name i hi
    repeat (first | refine sc rfl ?_ | refine so rfl ?_ | refine sb rfl ?_)
    refine ⟨by simp only []; omega, ?_⟩
    repeat (first | refine sc rfl ?_ | refine so rfl ?_ | refine sb rfl ?_)
    have hgl : l.getD i default = l[i] := by rw [List.getD_eq_getElem?_getD]; simp [hil]
    have hkk : kinds l i ++ [I64 (l.getD i default).kind] = kinds l (i + 1) := by
      rw [kinds, kinds, List.take_succ_eq_append_getElem hil, List.map_append, hgl]; rfl
    have hkl : (kinds l i).length = i := by rw [kinds, List.length_map, List.length_take]; omega
    refine C_drawD rfl (by kernel_rfl) ?_
    repeat (first | refine sd rfl ?_ | refine sdb rfl ?_ | refine sds rfl ?_)
    refine D_X (.v (.map (some mb))) (X_loadP 1 (reads_box 0) rfl rfl rfl rfl rfl rfl) ?_
    repeat (first | refine sd rfl ?_ | refine sdb rfl ?_ | refine sds rfl ?_)
    refine D_X (lookAV true (lookE (l.getD i default).name (fstE l i)) (I64 0)) (X_lookS 3 sK Try.underlying128 rfl rfl (fun e => by simp only [Rep]) rfl (fun e v h => kS e h) rfl rfl rfl rfl rfl) ?_
    have hstep : ∀ y, lookE (l.getD i default).name (fstE l i) = some y → ∃ j : Nat, y = I64 (j : Nat) := fun y hy => by
      rw [hlk] at hy
      obtain ⟨j, _, rfl⟩ := Option.map_eq_some_iff.1 hy
      exact ⟨j, rfl⟩
    cases hx : lookE (l.getD i default).name (fstE l i) with
    | none =>
      have hf : fstE l (i + 1) = updE (l.getD i default).name (I64 (i : Nat)) (fstE l i) := by
        rw [updE_new hx]; simp only [fstE, hx]
      simp only [lookAV, cond_true, Option.isSome_none, Option.getD_none]
      repeat (first | refine sd rfl ?_ | refine sdb rfl ?_ | refine sds rfl ?_)
      repeat (first | refine sc rfl ?_ | refine so rfl ?_ | refine sb rfl ?_)
      refine C_true rfl rfl ?_
      refine C_drawU 20 7 rfl (by kernel_rfl) (by kernel_rfl) (by kernel_rfl) ?_
      repeat (first | refine sd rfl ?_ | refine sdb rfl ?_ | refine sds rfl ?_)
      refine D_X (.v (.map (some mb))) (X_loadP 1 (reads_box 0) rfl rfl rfl rfl rfl rfl) ?_
      repeat (first | refine sd rfl ?_ | refine sdb rfl ?_ | refine sds rfl ?_)
      refine O_Xn (X_updS 3 sK Try.underlying128 sameBits_str (fun e v h => kS e h) rfl rfl rfl rfl rfl rfl) ?_
      repeat (first | refine sc rfl ?_ | refine so rfl ?_ | refine sb rfl ?_)
      refine C_le _ (Le.retell 0 (A' := mapA S (some mb) (fstE l (i + 1))) rfl rfl (fun G w hok => by rw [hf]; exact hok)) ?_
      refine C_le ⟨[(0, SL 5 Dcl.c l), (3, PT bT 0), (5, .bp 5 0), (11, SL 5 Dcl.c l), (12, I64 (l.length : Nat)), (13, I64 (i : Nat))], [.box 5 68 (Dcl.c (l.getD i default)), .abs (tbA bT mb h), .abs (slO h 3 1 (kinds l i)), .abs (mapA S (some mb) (fstE l (i + 1)))]⟩ (Le.pick [1, 1, 1, 0] ⟨rfl, rfl, rfl, rfl, rfl, rfl, trivial⟩ rfl) ?_
      refine C_drawV 20 8 0 37 rfl (by kernel_rfl) (by kernel_rfl) (by kernel_rfl) (by kernel_rfl) ?_
      repeat (first | refine sd rfl ?_ | refine sdb rfl ?_ | refine sds rfl ?_)
      refine D_X (.v h) (X_loadP 1 (reads_box 1) rfl rfl rfl rfl rfl rfl) ?_
      repeat (first | refine sd rfl ?_ | refine sdb rfl ?_ | refine sds rfl ?_)
      refine ⟨?_, ?_⟩
      all_goals
        refine O_appendO 2 (x := I64 (l.getD i default).kind) rfl rfl rfl rfl rfl rfl rfl (by rw [hkl]; omega) (by rw [hkl]; simp [maxLen]; omega) (fun v' hv' => ?_)
        obtain ⟨g9, o9, m9, cc9, rfl⟩ := hv'
        rw [hkk]
        repeat (first | refine sc rfl ?_ | refine so rfl ?_ | refine sb rfl ?_)
        refine O_Xn (X_storeP 2 (writes_box (by show 1 < 2; decide)) rfl rfl rfl rfl rfl rfl rfl) ?_
        repeat (first | refine sc rfl ?_ | refine so rfl ?_ | refine sb rfl ?_)
        rw [w64 (x := (i : Int) + 1) (by omega) (by omega)]
        refine ⟨(i + 1, HO g9 o9 m9 cc9), by simp only []; omega, by simp only []; omega, Le.pick [0, 0, 1] ⟨rfl, rfl, rfl, rfl, rfl, trivial⟩ rfl⟩
    | some y =>
      obtain ⟨j, rfl⟩ := hstep y hx
      have hf : fstE l (i + 1) = fstE l i := by simp only [fstE, hx]
      simp only [lookAV, cond_true, Option.isSome_some, Option.getD_some]
      repeat (first | refine sd rfl ?_ | refine sdb rfl ?_ | refine sds rfl ?_)
      repeat (first | refine sc rfl ?_ | refine so rfl ?_ | refine sb rfl ?_)
      refine C_false rfl rfl ?_
      repeat (first | refine sc rfl ?_ | refine so rfl ?_ | refine sb rfl ?_)
      refine C_le _ (Le.retell 3 (A' := mapA S (some mb) (fstE l (i + 1))) rfl rfl (fun G w hok => by rw [hf]; exact hok)) ?_
      refine C_le ⟨[(0, SL 5 Dcl.c l), (3, PT bT 0), (5, .bp 5 0), (11, SL 5 Dcl.c l), (12, I64 (l.length : Nat)), (13, I64 (i : Nat))], [.box 5 68 (Dcl.c (l.getD i default)), .abs (tbA bT mb h), .abs (slO h 3 1 (kinds l i)), .abs (mapA S (some mb) (fstE l (i + 1)))]⟩ (Le.pick [1, 1, 1, 0] ⟨rfl, rfl, rfl, rfl, rfl, rfl, trivial⟩ rfl) ?_
      refine C_drawV 20 8 0 37 rfl (by kernel_rfl) (by kernel_rfl) (by kernel_rfl) (by kernel_rfl) ?_
      repeat (first | refine sd rfl ?_ | refine sdb rfl ?_ | refine sds rfl ?_)
      refine D_X (.v h) (X_loadP 1 (reads_box 1) rfl rfl rfl rfl rfl rfl) ?_
      repeat (first | refine sd rfl ?_ | refine sdb rfl ?_ | refine sds rfl ?_)
      refine ⟨?_, ?_⟩
      all_goals
        refine O_appendO 2 (x := I64 (l.getD i default).kind) rfl rfl rfl rfl rfl rfl rfl (by rw [hkl]; omega) (by rw [hkl]; simp [maxLen]; omega) (fun v' hv' => ?_)
        obtain ⟨g9, o9, m9, cc9, rfl⟩ := hv'
        rw [hkk]
        repeat (first | refine sc rfl ?_ | refine so rfl ?_ | refine sb rfl ?_)
        refine O_Xn (X_storeP 2 (writes_box (by show 1 < 2; decide)) rfl rfl rfl rfl rfl rfl rfl) ?_
        repeat (first | refine sc rfl ?_ | refine so rfl ?_ | refine sb rfl ?_)
        rw [w64 (x := (i : Int) + 1) (by omega) (by omega)]
        refine ⟨(i + 1, HO g9 o9 m9 cc9), by simp only []; omega, by simp only []; omega, Le.pick [0, 0, 1] ⟨rfl, rfl, rfl, rfl, rfl, trivial⟩ rfl⟩
  · obtain rfl : i = l.length := by omega
    have hkl : (kinds l l.length).length = l.length := by rw [kinds, List.length_map, List.length_take]; omega
    refine C_le _ (Le.frMap 2 rfl) ?_
    refine C_le _ (Le.cellA 1 0 0 rfl rfl) ?_
    refine C_le _ (Le.frSlO 1 (m := l.length) (fun i => [I64 (l.getD i default).kind]) rfl (by rw [hkl]; omega) (by decide) (fun i hi => ?_)) ?_
    · have : kinds l l.length = l.map fun d => I64 d.kind := by rw [kinds, List.take_length]
      rw [this, Nat.mul_one, List.drop_eq_getElem_cons (by simpa using hi)]
      simp [List.getD_eq_getElem?_getD, hi]
    refine C_le _ (Le.cellA 1 0 1 rfl rfl) ?_
    refine C_le _ (Le.frBox 0 rfl) ?_
    refine C_le _ (Le.slotA 0 3 rfl rfl) ?_
    repeat (first | refine sc rfl ?_ | refine so rfl ?_ | refine sb rfl ?_)
    exact ⟨_, rfl, rfl, rfl⟩

theorem fndL_lt {nm : List UInt8} : ∀ {l : List Dcl} {j : Nat}, fndL nm l = some j → j < l.length
  | [], j, h => by simp [fndL] at h
  | d :: l, j, h => by
    simp only [fndL] at h
    split at h
    · cases h; simp
    · obtain ⟨i, hi, rfl⟩ := Option.map_eq_some_iff.1 h
      have := fndL_lt hi
      simp; omega

theorem fstE_all (l : List Dcl) (nm : List UInt8) : lookE nm (fstE l l.length) = (fndL nm l).map fun j => I64 (j : Nat) := by
  rw [fstE_look l nm _ (Nat.le_refl _), List.take_length]

def fndI (nm : List UInt8) (l : List Dcl) : Int := ((fndL nm l).getD 0 : Nat)
def kindL (l : List Dcl) (nm : List UInt8) : Int := match fndL nm l with
  | none => 0
  | some j => (l.getD j default).kind

theorem Find_c (l : List Dcl) (nm : List UInt8) : FnP Try.prog 66 [tabV l, .s nm] (· = .tup [I64 (fndI nm l), B (fndL nm l).isSome]) := by
  refine FnP.intro Try.tabOK Try.wide_ Try.func66 rfl (by decide) rfl (fun X => ?_)
  unfold tabV
  repeat (first | refine sc rfl ?_ | refine so rfl ?_ | refine sb rfl ?_)
  refine O_Xd (X_cpnil Try.underlying101 rfl rfl rfl) ?_
  repeat (first | refine sc rfl ?_ | refine so rfl ?_ | refine sb rfl ?_)
  refine C_false rfl rfl ?_
  repeat (first | refine sc rfl ?_ | refine so rfl ?_ | refine sb rfl ?_)
  refine O_Xd (X_lookIS (z := I64 0) sK Try.underlying128 rfl rfl (fun e => by simp only [Rep]) rfl (fun e v h => kS e h) rfl rfl rfl rfl) ?_
  rw [fstE_all]
  have e1 : ∀ o : Option Nat, lookAV true (o.map fun j => I64 (j : Nat)) (I64 0) = .tup [I64 (o.getD 0 : Nat), B o.isSome] := fun o => by cases o <;> rfl
  rw [e1]
  repeat (first | refine sc rfl ?_ | refine so rfl ?_ | refine sb rfl ?_)
  exact ⟨_, rfl, rfl, rfl⟩

theorem Kind_c (l : List Dcl) (nm : List UInt8) : FnP Try.prog 46 [tabV l, .s nm] (· = I64 (kindL l nm)) := by
  refine FnP.intro Try.tabOK Try.wide_ Try.func46 rfl (by decide) rfl (fun X => ?_)
  have hF := Find_c l nm
  unfold tabV at hF ⊢
  repeat (first | refine sc rfl ?_ | refine so rfl ?_ | refine sb rfl ?_)
  refine O_call hF (by rfl) (by rfl) (by rfl) (by rfl) (fun r hr => ?_)
  subst hr
  repeat (first | refine sc rfl ?_ | refine so rfl ?_ | refine sb rfl ?_)
  unfold kindL
  cases hf : fndL nm l with
  | none =>
    refine C_true rfl rfl ?_
    repeat (first | refine sc rfl ?_ | refine so rfl ?_ | refine sb rfl ?_)
    exact ⟨_, rfl, rfl, rfl⟩
  | some j =>
    have hj := fndL_lt hf
    have hi : fndI nm l = (j : Nat) := by simp [fndI, hf]
    rw [hi]
    refine C_false rfl rfl ?_
    repeat (first | refine sc rfl ?_ | refine so rfl ?_ | refine sb rfl ?_)
    refine ⟨by omega, ?_⟩
    repeat (first | refine sc rfl ?_ | refine so rfl ?_ | refine sb rfl ?_)
    exact ⟨_, rfl, rfl, rfl⟩
end Go.Proofs
