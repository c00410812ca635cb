/- The document: Ints, Same, of (printed by gen2.py) -/
import Derived.Test.YtgmdpfoccnalnaaGreatE13
import Derived.Test.YtgmdpfoccnalnaaGreatE3
set_option linter.unusedSimpArgs false
set_option linter.unusedVariables false
set_option maxRecDepth 100000
namespace Go.Proofs
open Go.Sy Go.Lib

noncomputable def IntsV_L2 (a : List Int) (b : List Int) (s2 : Int) : Option ((Int) ⊕ ((Bool) ⊕ (Unit))) :=
  cond (decide (s2 < (a.length : Int))) (chk ((0 : Int) ≤ s2 ∧ s2 < (a.length : Int)) (chk ((0 : Int) ≤ s2 ∧ s2 < (b.length : Int)) (cond ((a.getD (Int.toNat s2) default) != (b.getD (Int.toNat s2) default)) (some (Sum.inr ((Sum.inl false)))) (some (Sum.inl (IntKind.i64.wrap (s2 + 1))))))) (some (Sum.inr ((Sum.inr ()))))
noncomputable def IntsV_F (a : List Int) (b : List Int) : Option (Bool) :=
  cond ((a.length : Int) != (b.length : Int)) (some false) (Option.bind (Iter (IntsV_L2 a b) 0) (Sum.elim (fun c12 => some c12) (fun b7 => some true)))
theorem IntsV_w (a : List Int) (b : List Int) (r : Bool) (h : IntsV_F a b = some r) : FnP Tryz.prog 18 [SL 1 INTc a, SL 1 INTc b] (· = B r) := by
  unfold IntsV_F at h
  refine FnP.intro Tryz.tabOK Tryz.wide_ Tryz.func18 rfl (by decide) rfl (fun X => ?_)
  iterate 2 refine sc rfl ?_
  first|refine so rfl ?_|refine sb rfl ?_
  refine so rfl ?_
  iterate 3 refine sc rfl ?_
  iterate 5 (first|refine so rfl ?_|refine sb rfl ?_)
  refine so rfl ?_
  refine C_if rfl (fun hb1 => ?_) (fun hb1 => ?_)
  · replace h := cT hb1 h
    iterate 2 refine sc rfl ?_
    first|refine so rfl ?_|refine sb rfl ?_
    refine so rfl ?_
    refine sc rfl ?_
    obtain rfl := Option.some.inj h
    exact ⟨_, rfl, rfl, rfl⟩
  · replace h := cF hb1 h
    iterate 4 refine sc rfl ?_
    first|refine so rfl ?_|refine sb rfl ?_
    refine so rfl ?_
    obtain ⟨o3, ho3, h⟩ := bT h
    refine C_joinP ((fun b7 : Unit => (⟨[], []⟩ : St)) (match o3 with | (.inl b7) => default | (.inr b7) => b7)) (∃ b, o3 = (.inr b)) ?_ (fun s hs hp => ?_)
    · refine sc rfl ?_
      refine C_iter (fun s2 : Int => ⟨[(0, SL 1 INTc a), (1, SL 1 INTc b), (5, I64 s2)], []⟩) ho3 (Le.sub [] ⟨rfl, rfl, rfl, trivial⟩ rfl) (fun s2 y4 hy5 hr6 => ?_)
      unfold IntsV_L2 at hy5
      iterate 3 refine sc rfl ?_
      iterate 4 (first|refine so rfl ?_|refine sb rfl ?_)
      refine so rfl ?_
      refine C_if rfl (fun hb8 => ?_) (fun hb8 => ?_)
      · replace hy5 := cT hb8 hy5
        iterate 4 refine sc rfl ?_
        refine C_drawD rfl (by kernel_rfl) ?_
        iterate 2 (first | refine sd rfl ?_ | refine sdb rfl ?_)
        obtain ⟨g9, hy5⟩ := gT hy5
        refine sd rfl (And.intro g9 ?_)
        iterate 3 (first | refine sd rfl ?_ | refine sdb rfl ?_)
        obtain ⟨g10, hy5⟩ := gT hy5
        refine sd rfl (And.intro g10 ?_)
        iterate 2 (first | refine sd rfl ?_ | refine sdb rfl ?_)
        refine sd rfl ?_
        refine C_if rfl (fun hb11 => ?_) (fun hb11 => ?_)
        · replace hy5 := cT hb11 hy5
          iterate 2 refine sc rfl ?_
          first|refine so rfl ?_|refine sb rfl ?_
          refine so rfl ?_
          refine sc rfl ?_
          obtain rfl := Option.some.inj hy5
          have ho32 := hr6 _ rfl
          subst ho32
          obtain rfl := Option.some.inj h
          exact ⟨_, rfl, rfl, rfl⟩
        · replace hy5 := cF hb11 hy5
          iterate 2 refine sc rfl ?_
          iterate 3 (first|refine so rfl ?_|refine sb rfl ?_)
          refine so rfl ?_
          obtain rfl := Option.some.inj hy5
          exact ⟨_, rfl, Le.sub [] ⟨rfl, rfl, rfl, trivial⟩ rfl⟩
      · replace hy5 := cF hb8 hy5
        refine sc rfl ?_
        obtain rfl := Option.some.inj hy5
        have ho32 := hr6 _ rfl
        subst ho32
        exact ⟨Le.sub [] trivial rfl, ⟨_, rfl⟩⟩
    obtain ⟨b7, rfl⟩ := hp
    refine C_le ⟨[], []⟩ hs ?_
    iterate 2 refine sc rfl ?_
    first|refine so rfl ?_|refine sb rfl ?_
    refine so rfl ?_
    refine sc rfl ?_
    obtain rfl := Option.some.inj h
    exact ⟨_, rfl, rfl, rfl⟩
noncomputable def SameR_L10 (rec : Val → Val → Option (Bool)) (a : Val) (b : Val) (m1 : Bool) (s10 : Int) : Option ((Int) ⊕ ((Bool) ⊕ (Unit))) :=
  cond (decide (s10 < (a.items.length : Int))) (chk ((0 : Int) ≤ s10 ∧ s10 < (a.items.length : Int)) (chk ((0 : Int) ≤ s10 ∧ s10 < (b.items.length : Int)) (Option.bind (rec (a.items.getD (Int.toNat s10) default) (b.items.getD (Int.toNat s10) default)) (fun r19 => cond (!r19) (some (Sum.inr ((Sum.inl false)))) (some (Sum.inl (IntKind.i64.wrap (s10 + 1)))))))) (some (Sum.inr ((Sum.inr ()))))
noncomputable def SameR_F (rec : Val → Val → Option (Bool)) (a : Val) (b : Val) : Option (Bool) :=
  Option.bind (α := Bool) (cond (a.kind != b.kind) (some true) (cond (a.num != b.num) (some true) (cond (!(a.text == b.text)) (some true) (Option.bind (IntsV_F  a.tags b.tags) (fun r5 => cond (!r5) (some true) (some ((a.items.length : Int) != (b.items.length : Int)))))))) (fun m1 => cond m1 (some false) (Option.bind (Iter (SameR_L10 rec a b m1) 0) (Sum.elim (fun c22 => some c22) (fun b15 => some true))))
theorem SameR_wb (rec : Val → Val → Option (Bool)) (a : Val) (b : Val) (r : Bool) (hrec : ∀ a b r, rec a b = some r → FnP Tryz.prog 47 [.agg (Val.c a), .agg (Val.c b)] (· = B r)) (h : SameR_F rec a b = some r) : FnP Tryz.prog 47 [.agg (Val.c a), .agg (Val.c b)] (· = B r) := by
  unfold SameR_F at h
  refine FnP.intro Tryz.tabOK Tryz.wide_ Tryz.func47 rfl (by decide) rfl (fun X => ?_)
  iterate 2 refine sc rfl ?_
  first|refine so rfl ?_|refine sb rfl ?_
  refine O_le _ (Le.freezebox 2 rfl rfl rfl) ?_
  first|refine so rfl ?_|refine sb rfl ?_
  refine O_le _ (Le.freezebox 3 rfl rfl rfl) ?_
  first|refine so rfl ?_|refine sb rfl ?_
  refine so rfl ?_
  iterate 2 refine sc rfl ?_
  obtain ⟨m1, hm1, h⟩ := bT h
  refine C_join ⟨[(2, .cp [I64 a.kind, I64 a.num, .s a.text, SL 1 INTc a.tags, .sl a.items.length 5 (Val.rows a.items)]), (3, .cp [I64 b.kind, I64 b.num, .s b.text, SL 1 INTc b.tags, .sl b.items.length 5 (Val.rows b.items)]), (41, B m1)], []⟩ ?_ (fun s hm1s => C_le _ hm1s ?_)
  · refine sc rfl ?_
    iterate 6 (first|refine so rfl ?_|refine sb rfl ?_)
    refine O_case 11 rfl (fun hb2 => ?_) (fun hb2 => ?_)
    · replace hm1 := cT hb2 hm1
      iterate 30 (first|refine so rfl ?_|refine sb rfl ?_)
      refine so rfl ?_
      obtain rfl := Option.some.inj hm1
      exact Le.sub [] ⟨rfl, rfl, rfl, trivial⟩ rfl
    · replace hm1 := cF hb2 hm1
      iterate 7 (first|refine so rfl ?_|refine sb rfl ?_)
      refine O_case 18 rfl (fun hb3 => ?_) (fun hb3 => ?_)
      · replace hm1 := cT hb3 hm1
        iterate 23 (first|refine so rfl ?_|refine sb rfl ?_)
        refine so rfl ?_
        obtain rfl := Option.some.inj hm1
        exact Le.sub [] ⟨rfl, rfl, rfl, trivial⟩ rfl
      · replace hm1 := cF hb3 hm1
        iterate 7 (first|refine so rfl ?_|refine sb rfl ?_)
        refine O_case 25 rfl (fun hb4 => ?_) (fun hb4 => ?_)
        · replace hm1 := cT hb4 hm1
          iterate 16 (first|refine so rfl ?_|refine sb rfl ?_)
          refine so rfl ?_
          obtain rfl := Option.some.inj hm1
          exact Le.sub [] ⟨rfl, rfl, rfl, trivial⟩ rfl
        · replace hm1 := cF hb4 hm1
          iterate 4 (first|refine so rfl ?_|refine sb rfl ?_)
          obtain ⟨r5, hr6, hm1⟩ := bT hm1
          refine O_call (IntsV_w  _ _ _ hr6) (by rfl) (by rfl) (by rfl) (by rfl) (fun q7 hq7 => ?_)
          subst hq7
          iterate 3 (first|refine so rfl ?_|refine sb rfl ?_)
          refine O_case 33 rfl (fun hb8 => ?_) (fun hb8 => ?_)
          · replace hm1 := cT hb8 hm1
            iterate 8 (first|refine so rfl ?_|refine sb rfl ?_)
            refine so rfl ?_
            obtain rfl := Option.some.inj hm1
            exact Le.sub [] ⟨rfl, rfl, rfl, trivial⟩ rfl
          · replace hm1 := cF hb8 hm1
            iterate 2 (first|refine so rfl ?_|refine sb rfl ?_)
            refine O_le _ (Le.one 35 (SL 5 Val.c a.items) rfl (.row (Val.rows_eq _))) ?_
            iterate 3 (first|refine so rfl ?_|refine sb rfl ?_)
            refine O_le _ (Le.one 38 (SL 5 Val.c b.items) rfl (.row (Val.rows_eq _))) ?_
            iterate 3 (first|refine so rfl ?_|refine sb rfl ?_)
            refine so rfl ?_
            obtain rfl := Option.some.inj hm1
            exact Le.sub [] ⟨rfl, rfl, rfl, trivial⟩ rfl
  refine C_if rfl (fun hb9 => ?_) (fun hb9 => ?_)
  · replace h := cT hb9 h
    iterate 2 refine sc rfl ?_
    first|refine so rfl ?_|refine sb rfl ?_
    refine so rfl ?_
    refine sc rfl ?_
    obtain rfl := Option.some.inj h
    exact ⟨_, rfl, rfl, rfl⟩
  · replace h := cF hb9 h
    iterate 4 refine sc rfl ?_
    first|refine so rfl ?_|refine sb rfl ?_
    refine so rfl ?_
    obtain ⟨o11, ho11, h⟩ := bT h
    refine C_joinP ((fun b15 : Unit => (⟨[], []⟩ : St)) (match o11 with | (.inl b15) => default | (.inr b15) => b15)) (∃ b, o11 = (.inr b)) ?_ (fun s hs hp => ?_)
    · refine sc rfl ?_
      refine C_iter (fun s10 : Int => ⟨[(2, .cp [I64 a.kind, I64 a.num, .s a.text, SL 1 INTc a.tags, .sl a.items.length 5 (Val.rows a.items)]), (3, .cp [I64 b.kind, I64 b.num, .s b.text, SL 1 INTc b.tags, .sl b.items.length 5 (Val.rows b.items)]), (5, I64 s10)], []⟩) ho11 (Le.sub [] ⟨rfl, rfl, rfl, trivial⟩ rfl) (fun s10 y12 hy13 hr14 => ?_)
      unfold SameR_L10 at hy13
      iterate 3 refine sc rfl ?_
      iterate 3 (first|refine so rfl ?_|refine sb rfl ?_)
      refine O_le _ (Le.one 44 (SL 5 Val.c a.items) rfl (.row (Val.rows_eq _))) ?_
      iterate 2 (first|refine so rfl ?_|refine sb rfl ?_)
      refine so rfl ?_
      refine C_if rfl (fun hb16 => ?_) (fun hb16 => ?_)
      · replace hy13 := cT hb16 hy13
        iterate 4 refine sc rfl ?_
        refine C_drawD rfl (by kernel_rfl) ?_
        iterate 1 (first | refine sd rfl ?_ | refine sdb rfl ?_)
        refine sdw (SL 5 Val.c a.items) rfl rfl rfl (.row (Val.rows_eq _)) ?_
        iterate 1 (first | refine sd rfl ?_ | refine sdb rfl ?_)
        obtain ⟨g17, hy13⟩ := gT hy13
        refine sd rfl (And.intro g17 ?_)
        iterate 2 (first | refine sd rfl ?_ | refine sdb rfl ?_)
        refine sdw (SL 5 Val.c b.items) rfl rfl rfl (.row (Val.rows_eq _)) ?_
        iterate 1 (first | refine sd rfl ?_ | refine sdb rfl ?_)
        obtain ⟨g18, hy13⟩ := gT hy13
        refine sd rfl (And.intro g18 ?_)
        iterate 1 (first | refine sd rfl ?_ | refine sdb rfl ?_)
        obtain ⟨r19, hr20, hy13⟩ := bT hy13
        refine D_call (hrec _ _ _ hr20) rfl rfl rfl rfl ?_
        iterate 1 (first | refine sd rfl ?_ | refine sdb rfl ?_)
        refine sd rfl ?_
        refine C_if rfl (fun hb21 => ?_) (fun hb21 => ?_)
        · replace hy13 := cT hb21 hy13
          iterate 2 refine sc rfl ?_
          first|refine so rfl ?_|refine sb rfl ?_
          refine so rfl ?_
          refine sc rfl ?_
          obtain rfl := Option.some.inj hy13
          have ho112 := hr14 _ rfl
          subst ho112
          obtain rfl := Option.some.inj h
          exact ⟨_, rfl, rfl, rfl⟩
        · replace hy13 := cF hb21 hy13
          iterate 2 refine sc rfl ?_
          iterate 3 (first|refine so rfl ?_|refine sb rfl ?_)
          refine so rfl ?_
          obtain rfl := Option.some.inj hy13
          exact ⟨_, rfl, Le.sub [] ⟨rfl, rfl, rfl, trivial⟩ rfl⟩
      · replace hy13 := cF hb16 hy13
        refine sc rfl ?_
        obtain rfl := Option.some.inj hy13
        have ho112 := hr14 _ rfl
        subst ho112
        exact ⟨Le.sub [] trivial rfl, ⟨_, rfl⟩⟩
    obtain ⟨b15, rfl⟩ := hp
    refine C_le ⟨[], []⟩ hs ?_
    iterate 2 refine sc rfl ?_
    first|refine so rfl ?_|refine sb rfl ?_
    refine so rfl ?_
    refine sc rfl ?_
    obtain rfl := Option.some.inj h
    exact ⟨_, rfl, rfl, rfl⟩
noncomputable def SameR_X : Nat → Val → Val → Option (Bool)
  | 0 => fun _ _ => none
  | n + 1 => SameR_F (SameR_X n)
theorem SameR_wn : ∀ (n : Nat) (a : Val) (b : Val) (r : Bool), SameR_X n a b = some r → FnP Tryz.prog 47 [.agg (Val.c a), .agg (Val.c b)] (· = B r)
  | 0, _, _, _, h => by cases h
  | n + 1, a, b, r, h => SameR_wb (SameR_X n) a b r (fun a b r hr => SameR_wn n a b r hr) h
noncomputable def OfK_F (k : Int) : Option (Int) :=
  Option.bind (α := Bool) (cond (k == 7) (some true) (some (k == 9))) (fun m1 => cond m1 (some 1) (cond (k == 8) (some 2) (Option.bind (α := Bool) (cond (decide (k < 1)) (some true) (some (decide (9 < k)))) (fun m5 => cond m5 (some (-1)) (some 0)))))
theorem OfK_w (k : Int) (r : Int) (h : OfK_F k = some r) : FnP Tryz.prog 201 [I64 k] (· = I64 r) := by
  unfold OfK_F at h
  refine FnP.intro Tryz.tabOK Tryz.wide_ Tryz.func201 rfl (by decide) rfl (fun X => ?_)
  iterate 2 refine sc rfl ?_
  first|refine so rfl ?_|refine sb rfl ?_
  refine so rfl ?_
  iterate 2 refine sc rfl ?_
  obtain ⟨m1, hm1, h⟩ := bT h
  refine C_join ⟨[(0, I64 k), (8, B m1)], []⟩ ?_ (fun s hm1s => C_le _ hm1s ?_)
  · refine sc rfl ?_
    iterate 3 (first|refine so rfl ?_|refine sb rfl ?_)
    refine O_case 5 rfl (fun hb2 => ?_) (fun hb2 => ?_)
    · replace hm1 := cT hb2 hm1
      iterate 3 (first|refine so rfl ?_|refine sb rfl ?_)
      refine so rfl ?_
      obtain rfl := Option.some.inj hm1
      exact Le.sub [] ⟨rfl, rfl, trivial⟩ rfl
    · replace hm1 := cF hb2 hm1
      iterate 3 (first|refine so rfl ?_|refine sb rfl ?_)
      refine so rfl ?_
      obtain rfl := Option.some.inj hm1
      exact Le.sub [] ⟨rfl, rfl, trivial⟩ rfl
  refine C_if rfl (fun hb3 => ?_) (fun hb3 => ?_)
  · replace h := cT hb3 h
    iterate 2 refine sc rfl ?_
    first|refine so rfl ?_|refine sb rfl ?_
    refine so rfl ?_
    refine sc rfl ?_
    obtain rfl := Option.some.inj h
    exact ⟨_, rfl, rfl, rfl⟩
  · replace h := cF hb3 h
    iterate 4 refine sc rfl ?_
    iterate 2 (first|refine so rfl ?_|refine sb rfl ?_)
    refine so rfl ?_
    refine C_if rfl (fun hb4 => ?_) (fun hb4 => ?_)
    · replace h := cT hb4 h
      iterate 2 refine sc rfl ?_
      first|refine so rfl ?_|refine sb rfl ?_
      refine so rfl ?_
      refine sc rfl ?_
      obtain rfl := Option.some.inj h
      exact ⟨_, rfl, rfl, rfl⟩
    · replace h := cF hb4 h
      iterate 3 refine sc rfl ?_
      obtain ⟨m5, hm5, h⟩ := bT h
      refine C_join ⟨[(16, B m5)], []⟩ ?_ (fun s hm5s => C_le _ hm5s ?_)
      · refine sc rfl ?_
        iterate 3 (first|refine so rfl ?_|refine sb rfl ?_)
        refine O_case 13 rfl (fun hb6 => ?_) (fun hb6 => ?_)
        · replace hm5 := cT hb6 hm5
          iterate 3 (first|refine so rfl ?_|refine sb rfl ?_)
          refine so rfl ?_
          obtain rfl := Option.some.inj hm5
          exact Le.sub [] ⟨rfl, trivial⟩ rfl
        · replace hm5 := cF hb6 hm5
          iterate 3 (first|refine so rfl ?_|refine sb rfl ?_)
          refine so rfl ?_
          obtain rfl := Option.some.inj hm5
          exact Le.sub [] ⟨rfl, trivial⟩ rfl
      refine C_if rfl (fun hb7 => ?_) (fun hb7 => ?_)
      · replace h := cT hb7 h
        iterate 2 refine sc rfl ?_
        first|refine so rfl ?_|refine sb rfl ?_
        refine so rfl ?_
        refine sc rfl ?_
        obtain rfl := Option.some.inj h
        exact ⟨_, rfl, rfl, rfl⟩
      · replace h := cF hb7 h
        iterate 3 refine sc rfl ?_
        first|refine so rfl ?_|refine sb rfl ?_
        refine so rfl ?_
        refine sc rfl ?_
        obtain rfl := Option.some.inj h
        exact ⟨_, rfl, rfl, rfl⟩
noncomputable def OfB_F (rec : (List Dcl) → Ty → (List Val) → Option (Val)) (l : List Dcl) (t : Ty) (kn : List Val) : Option (Val) :=
  cond (t.kind != 6) (Option.bind (OfK_F  t.kind) (fun r2 => cond (r2 != (t.of.length : Int)) (some (⟨0, 0, [], ([] : List Int), ([] : List Val)⟩ : Val)) (cond (t.kind == 9) (chk ((0 : Int) ≤ 0 ∧ 0 < (t.of.length : Int)) (Option.bind (rec l (t.of.getD (Int.toNat 0) default) kn) (fun r7 => some r7))) (some (⟨t.kind, 0, [], ([] : List Int), ([] : List Val)⟩ : Val))))) (Option.bind (Find_F l t.name) (fun r10 => cond (decide (r10 < 0)) (some (⟨0, 0, [], ([] : List Int), ([] : List Val)⟩ : Val)) (chk ((0 : Int) ≤ r10 ∧ r10 < (kn.length : Int)) (some (kn.getD (Int.toNat r10) default)))))
theorem OfB_wb (rec : (List Dcl) → Ty → (List Val) → Option (Val)) (l : List Dcl) (t : Ty) (kn : List Val) (r : Val) (hrec : ∀ l t kn r, rec l t kn = some r → FnP Tryz.prog 151 [SL 5 Dcl.c l, .agg (Ty.c t), SL 5 Val.c kn] (· = .agg (Val.c r))) (h : OfB_F rec l t kn = some r) : FnP Tryz.prog 151 [SL 5 Dcl.c l, .agg (Ty.c t), SL 5 Val.c kn] (· = .agg (Val.c r)) := by
  unfold OfB_F at h
  refine FnP.intro Tryz.tabOK Tryz.wide_ Tryz.func151 rfl (by decide) rfl (fun X => ?_)
  iterate 2 refine sc rfl ?_
  first|refine so rfl ?_|refine sb rfl ?_
  refine O_le _ (Le.freezebox 4 rfl rfl rfl) ?_
  first|refine so rfl ?_|refine sb rfl ?_
  refine so rfl ?_
  iterate 3 refine sc rfl ?_
  iterate 3 (first|refine so rfl ?_|refine sb rfl ?_)
  refine so rfl ?_
  refine C_if rfl (fun hb1 => ?_) (fun hb1 => ?_)
  · replace h := cT hb1 h
    iterate 2 refine sc rfl ?_
    refine C_drawD rfl (by kernel_rfl) ?_
    iterate 2 (first | refine sd rfl ?_ | refine sdb rfl ?_)
    obtain ⟨r2, hr3, h⟩ := bT h
    refine D_call (OfK_w  _ _ hr3) rfl rfl rfl rfl ?_
    iterate 1 (first | refine sd rfl ?_ | refine sdb rfl ?_)
    refine sdw (SL 3 Ty.c t.of) rfl rfl rfl (.row (Ty.rows_eq _)) ?_
    iterate 2 (first | refine sd rfl ?_ | refine sdb rfl ?_)
    refine sd rfl ?_
    refine C_if rfl (fun hb4 => ?_) (fun hb4 => ?_)
    · replace h := cT hb4 h
      iterate 2 refine sc rfl ?_
      first|refine so rfl ?_|refine sb rfl ?_
      refine O_le _ (Le.agg 18 [I64 0, I64 0, .s [], SL 1 INTc ([] : List Int), .sl ([] : List Val).length 5 (Val.rows ([] : List Val))] rfl (.cons .refl (.cons .refl (.cons .refl (.cons .nil (.cons .nil .nil)))))) ?_
      first|refine so rfl ?_|refine sb rfl ?_
      refine so rfl ?_
      refine sc rfl ?_
      obtain rfl := Option.some.inj h
      exact ⟨_, rfl, rfl, rfl⟩
    · replace h := cF hb4 h
      iterate 4 refine sc rfl ?_
      iterate 3 (first|refine so rfl ?_|refine sb rfl ?_)
      refine so rfl ?_
      refine C_if rfl (fun hb5 => ?_) (fun hb5 => ?_)
      · replace h := cT hb5 h
        iterate 2 refine sc rfl ?_
        iterate 3 (first|refine so rfl ?_|refine sb rfl ?_)
        refine O_le _ (Le.one 24 (SL 3 Ty.c t.of) rfl (.row (Ty.rows_eq _))) ?_
        obtain ⟨g6, h⟩ := gT h
        refine so rfl (And.intro g6 ?_)
        first|refine so rfl ?_|refine sb rfl ?_
        first|refine so rfl ?_|refine sb rfl ?_
        obtain ⟨r7, hr8, h⟩ := bT h
        refine O_call (hrec _ _ _ _ hr8) (by rfl) (by rfl) (by rfl) (by rfl) (fun q9 hq9 => ?_)
        subst hq9
        first|refine so rfl ?_|refine sb rfl ?_
        refine so rfl ?_
        refine sc rfl ?_
        obtain rfl := Option.some.inj h
        exact ⟨_, rfl, rfl, rfl⟩
      · replace h := cF hb5 h
        iterate 3 refine sc rfl ?_
        iterate 3 (first|refine so rfl ?_|refine sb rfl ?_)
        refine O_le _ (Le.agg 31 [I64 t.kind, I64 0, .s [], SL 1 INTc ([] : List Int), .sl ([] : List Val).length 5 (Val.rows ([] : List Val))] rfl (.cons .refl (.cons .refl (.cons .refl (.cons .nil (.cons .nil .nil)))))) ?_
        first|refine so rfl ?_|refine sb rfl ?_
        refine so rfl ?_
        refine sc rfl ?_
        obtain rfl := Option.some.inj h
        exact ⟨_, rfl, rfl, rfl⟩
  · replace h := cF hb1 h
    iterate 3 refine sc rfl ?_
    iterate 3 (first|refine so rfl ?_|refine sb rfl ?_)
    obtain ⟨r10, hr11, h⟩ := bT h
    refine O_call (Find_w _ _ _ hr11) (by rfl) (by rfl) (by rfl) (by rfl) (fun q12 hq12 => ?_)
    subst hq12
    first|refine so rfl ?_|refine sb rfl ?_
    refine so rfl ?_
    iterate 3 refine sc rfl ?_
    iterate 2 (first|refine so rfl ?_|refine sb rfl ?_)
    refine so rfl ?_
    refine C_if rfl (fun hb13 => ?_) (fun hb13 => ?_)
    · replace h := cT hb13 h
      iterate 2 refine sc rfl ?_
      first|refine so rfl ?_|refine sb rfl ?_
      refine O_le _ (Le.agg 38 [I64 0, I64 0, .s [], SL 1 INTc ([] : List Int), .sl ([] : List Val).length 5 (Val.rows ([] : List Val))] rfl (.cons .refl (.cons .refl (.cons .refl (.cons .nil (.cons .nil .nil)))))) ?_
      first|refine so rfl ?_|refine sb rfl ?_
      refine so rfl ?_
      refine sc rfl ?_
      obtain rfl := Option.some.inj h
      exact ⟨_, rfl, rfl, rfl⟩
    · replace h := cF hb13 h
      iterate 3 refine sc rfl ?_
      iterate 2 (first|refine so rfl ?_|refine sb rfl ?_)
      obtain ⟨g14, h⟩ := gT h
      refine so rfl (And.intro g14 ?_)
      first|refine so rfl ?_|refine sb rfl ?_
      first|refine so rfl ?_|refine sb rfl ?_
      refine so rfl ?_
      refine sc rfl ?_
      obtain rfl := Option.some.inj h
      exact ⟨_, rfl, rfl, rfl⟩
noncomputable def OfB_X : Nat → (List Dcl) → Ty → (List Val) → Option (Val)
  | 0 => fun _ _ _ => none
  | n + 1 => OfB_F (OfB_X n)
theorem OfB_wn : ∀ (n : Nat) (l : List Dcl) (t : Ty) (kn : List Val) (r : Val), OfB_X n l t kn = some r → FnP Tryz.prog 151 [SL 5 Dcl.c l, .agg (Ty.c t), SL 5 Val.c kn] (· = .agg (Val.c r))
  | 0, _, _, _, _, h => by cases h
  | n + 1, l, t, kn, r, h => OfB_wb (OfB_X n) l t kn r (fun l t kn r hr => OfB_wn n l t kn r hr) h
end Go.Proofs

namespace Go.Proofs
open Go.Sy Go.Lib

def gF (g : Ty → Val) (first : Bool) (t : Ty) : Val × Bool := (g t, !first && decide (0 < (g t).kind))
def nextV (R : List Fld) (k : Int) (g : Ty → Val × Bool) : Val :=
  if k = 3 then ⟨6, (R.getD 0 default).tag, [], [], []⟩ else if k = 2 then (firF g R).1 else if k = 1 then (fldF g R [] []).1 else zV

theorem firF_cons (g : Ty → Val × Bool) (f : Fld) (R : List Fld) : firF g (f :: R) = if (g f.ty).2 = true then (⟨10, 0, [], [f.tag], [(g f.ty).1]⟩, true) else firF g R := rfl
theorem firF_none (g : Ty → Val × Bool) : ∀ R : List Fld, (∀ f, (g f).2 = false) → firF g R = (zV, false)
  | [], _ => rfl
  | f :: R, h => by rw [firF_cons, h, if_neg (by decide)]; exact firF_none g R h

set_option maxHeartbeats 20000000 in
theorem next_c (l : List Dcl) (hl : FewL l) (kn : List Val) (first : Bool) (g : Ty → Val) (hpos : ∀ t, 0 ≤ (g t).kind) (hk3 : ∀ d, d ∈ l → d.kind = 3 → 0 < (rowsZ l d.name).length)
    (hof : ∀ d, d ∈ l → ∀ f, f ∈ rowsZ l d.name → FnP Tryz.prog 151 [SL 5 Dcl.c l, .agg (Ty.c f.ty), SL 5 Val.c kn] (· = .agg (Val.c (g f.ty)))) :
    FnP Tryz.prog 150 [SL 5 Dcl.c l, SL 5 Val.c kn, B first] (· = SL 5 Val.c (l.map fun d => nextV (rowsZ l d.name) d.kind (gF g first))) := by
  have hl1 : l.length ≤ 1000 := hl.1
  refine FnP.intro Tryz.tabOK Tryz.wide_ Tryz.func150 rfl (by decide) rfl (fun X => ?_)
  repeat (first|refine sc rfl ?_|refine so rfl ?_|refine sb rfl ?_)
  refine C_le _ (Le.nilvec Val.c 7 129 70 5 rfl rfl rfl) ?_
  refine C_loop (fun i : Nat => ⟨[(0, SL 5 Dcl.c l), (1, SL 5 Val.c kn), (2, B first), (7, .own 129), (8, I64 (i : Nat))], [VEC 129 70 5 Val.c ((l.take i).map fun d => nextV (rowsZ l d.name) d.kind (gF g first))]⟩)
    (fun i => i ≤ l.length) (fun i => l.length - i) 0 (Nat.zero_le _) (Le.sub [129] ⟨rfl, rfl, rfl, rfl, rfl, trivial⟩ rfl) ?_
  intro i hi
  repeat (first|refine sc rfl ?_|refine so rfl ?_|refine sb rfl ?_)
  refine C_if rfl (fun m1 => ?_) (fun m1 => ?_) <;> simp only [pL] at m1
  · have hil : i < l.length := by omega
    have hdm : l.getD i default ∈ l := by rw [getD_at hil]; exact List.getElem_mem hil
    repeat (first|refine sc rfl ?_|refine so rfl ?_|refine sb rfl ?_)
    refine ⟨by omega, ?_⟩
    rw [Int.toNat_natCast]
    repeat (first|refine sc rfl ?_|refine so rfl ?_|refine sb rfl ?_)
    refine O_call (RowsZ_c l hl (l.getD i default).name).2 (by rfl) (by rfl) (by rfl) (by rfl) (fun r hr => ?_)
    subst hr
    obtain ⟨R, hR⟩ : ∃ R, rowsZ l (l.getD i default).name = R := ⟨_, rfl⟩
    have hRl : R.length ≤ 1000 := by rw [← hR]; exact rowsZ_len hl _
    have hof' : ∀ f, f ∈ R → FnP Tryz.prog 151 [SL 5 Dcl.c l, .agg (Ty.c f.ty), SL 5 Val.c kn] (· = .agg (Val.c (g f.ty))) := fun f hf => hof _ hdm f (by rw [hR]; exact hf)
    rw [hR]
    repeat (first|refine sc rfl ?_|refine so rfl ?_|refine sb rfl ?_)
    refine ⟨by omega, ?_⟩
    rw [Int.toNat_natCast]
    iterate 2 (first|refine so rfl ?_|refine sb rfl ?_)
    refine so rfl ?_
    refine sc rfl ?_
    refine C_join ⟨[(0, SL 5 Dcl.c l), (1, SL 5 Val.c kn), (2, B first), (7, .own 129), (8, I64 (i : Nat)), (10, .cp (Val.c (nextV R (l.getD i default).kind (gF g first))))], [VEC 129 70 5 Val.c ((l.take i).map fun d => nextV (rowsZ l d.name) d.kind (gF g first))]⟩ ?_ (fun s hs => C_le _ hs ?_)
    · repeat (first|refine sc rfl ?_|refine so rfl ?_|refine sb rfl ?_)
      refine C_if rfl (fun k3 => ?_) (fun k3 => ?_) <;> simp only [pL] at k3
      · have hne : 0 < R.length := by rw [← hR]; exact hk3 _ hdm k3
        have hw : nextV R (l.getD i default).kind (gF g first) = ⟨6, (R.getD 0 default).tag, [], [], []⟩ := by rw [nextV, if_pos k3]
        rw [hw]
        repeat (first|refine sc rfl ?_|refine so rfl ?_|refine sb rfl ?_)
        refine ⟨by omega, ?_⟩
        repeat (first|refine sc rfl ?_|refine so rfl ?_|refine sb rfl ?_)
        exact Le.trans (Le.boxsub 10 (Val.c ⟨6, (R.getD 0 default).tag, [], [], []⟩) rfl (.cons .refl (.cons .refl (.cons .refl (.cons .nil (.cons .nil .nil)))))) (Le.trans (Le.freezebox 10 rfl rfl rfl) (Le.sub [129] ⟨rfl, rfl, rfl, rfl, rfl, rfl, trivial⟩ rfl))
      repeat (first|refine sc rfl ?_|refine so rfl ?_|refine sb rfl ?_)
      refine C_if rfl (fun k2 => ?_) (fun k2 => ?_) <;> simp only [pL] at k2
      · have hw : nextV R (l.getD i default).kind (gF g first) = (firF (gF g first) R).1 := by rw [nextV, if_neg k3, if_pos k2]
        obtain ⟨w, hwe⟩ : ∃ w, (firF (gF g first) R).1 = w := ⟨_, rfl⟩
        rw [hw, hwe]
        repeat (first|refine sc rfl ?_|refine so rfl ?_|refine sb rfl ?_)
        rw [w64 (x := ((R.length : Nat) : Int) - 1) (by omega) (by omega)]
        refine C_loop (fun m : Nat => ⟨[(0, SL 5 Dcl.c l), (1, SL 5 Val.c kn), (2, B first), (7, .own 129), (8, I64 (i : Nat)), (9, SL 5 Fld.c R), (10, .bp 10 0), (11, I64 ((m : Int) - 1))], [.box 10 70 (Val.c (firF (gF g first) (R.drop m)).1), VEC 129 70 5 Val.c ((l.take i).map fun d => nextV (rowsZ l d.name) d.kind (gF g first))]⟩)
          (fun m => m ≤ R.length ∧ (firF (gF g first) (R.drop m)).1 = (firF (gF g first) (R.drop m)).1) (fun m => m) R.length ⟨Nat.le_refl _, rfl⟩
          (by rw [List.drop_length]; exact Le.trans (Le.boxsub 10 (Val.c zV) rfl (.cons .refl (.cons .refl (.cons .refl (.cons .nil (.cons .nil .nil)))))) (Le.sub [10, 129] ⟨rfl, rfl, rfl, rfl, rfl, rfl, rfl, rfl, trivial⟩ rfl)) ?_
        rintro m ⟨hm, _⟩
        have fin : (m = 0 ∨ first = true) → (firF (gF g first) (R.drop m)).1 = w := by
          rintro (rfl | rfl)
          · rw [List.drop_zero]; exact hwe
          · rw [← hwe, firF_none, firF_none] <;> intro f <;> rfl
        repeat (first|refine sc rfl ?_|refine so rfl ?_|refine sb rfl ?_)
        refine O_case 48 rfl (fun c1 => ?_) (fun c1 => ?_) <;> simp only [pL] at c1
        · obtain ⟨m, rfl⟩ : ∃ m', m = m' + 1 := ⟨m - 1, by omega⟩
          repeat (first|refine sc rfl ?_|refine so rfl ?_|refine sb rfl ?_)
          refine C_if rfl (fun c2 => ?_) (fun c2 => ?_) <;> simp only [pL] at c2
          · have hml : m < R.length := by omega
            subst c2
            rw [show ((m + 1 : Nat) : Int) - 1 = ((m : Nat) : Int) by omega]
            have hd : R.drop m = R.getD m default :: R.drop (m + 1) := by rw [List.drop_eq_getElem_cons hml, getD_at hml]
            repeat (first|refine sc rfl ?_|refine so rfl ?_|refine sb rfl ?_)
            refine ⟨by omega, ?_⟩
            rw [Int.toNat_natCast]
            repeat (first|refine sc rfl ?_|refine so rfl ?_|refine sb rfl ?_)
            refine O_call (hof' _ (mem_getDf hml)) (by rfl) (by rfl) (by rfl) (by rfl) (fun r hr => ?_)
            subst hr
            repeat (first|refine sc rfl ?_|refine so rfl ?_|refine sb rfl ?_)
            refine C_if rfl (fun c3 => ?_) (fun c3 => ?_) <;> simp only [pL] at c3
            · have hfi : (firF (gF g false) (R.drop m)).1 = ⟨10, 0, [], [(R.getD m default).tag], [g (R.getD m default).ty]⟩ := by
                rw [hd, firF_cons, if_pos (by show (!false && decide (0 < (g (R.getD m default).ty).kind)) = true; rw [decide_eq_true c3]; rfl)]; rfl
              have e1 : ∀ j, j < 1 → chunkRow 1 [I64 (R.getD m default).tag] j = INTc ([(R.getD m default).tag].getD j default) := fun j hj => by
                obtain rfl : j = 0 := by omega
                rfl
              have e2 : ∀ j, j < 1 → chunkRow 5 (Val.c (g (R.getD m default).ty)) j = Val.rows [g (R.getD m default).ty] j := fun j hj => by
                obtain rfl : j = 0 := by omega
                rw [Val.rows_eq [g (R.getD m default).ty] 0 (by simp)]
                rfl
              refine C_drawT 20 9 rfl (by kernel_rfl) (by kernel_rfl) ?_
              repeat (first|refine sd rfl ?_|refine sdb rfl ?_|refine sds rfl ?_)
              refine ⟨by omega, ?_⟩
              rw [Int.toNat_natCast]
              repeat (first|refine sd rfl ?_|refine sdb rfl ?_|refine sds rfl ?_)
              repeat (first|refine sc rfl ?_|refine so rfl ?_|refine sb rfl ?_)
              rw [w64 (x := ((m : Nat) : Int) - 1) (by omega) (by omega)]
              refine ⟨m, ⟨by omega, rfl⟩, by omega, ?_⟩
              rw [hfi]
              exact Le.trans (Le.boxsub 10 (Val.c ⟨10, 0, [], [(R.getD m default).tag], [g (R.getD m default).ty]⟩) rfl (.cons .refl (.cons .refl (.cons .refl (.cons (.row e1) (.cons (.row e2) .nil)))))) (Le.sub [10, 129] ⟨rfl, rfl, rfl, rfl, rfl, rfl, rfl, rfl, trivial⟩ rfl)
            · have hfi : (firF (gF g false) (R.drop m)).1 = (firF (gF g false) (R.drop (m + 1))).1 := by
                rw [hd, firF_cons, if_neg (by show ¬ (!false && decide (0 < (g (R.getD m default).ty).kind)) = true; rw [decide_eq_false (by omega)]; decide)]
              repeat (first|refine sc rfl ?_|refine so rfl ?_|refine sb rfl ?_)
              rw [w64 (x := ((m : Nat) : Int) - 1) (by omega) (by omega)]
              refine ⟨m, ⟨by omega, rfl⟩, by omega, ?_⟩
              rw [hfi]
              exact Le.sub [10, 129] ⟨rfl, rfl, rfl, rfl, rfl, rfl, rfl, rfl, trivial⟩ rfl
          · rw [fin (.inr (by cases first <;> simp_all))]
            repeat (first|refine sc rfl ?_|refine so rfl ?_|refine sb rfl ?_)
            exact Le.trans (Le.freezebox 10 rfl rfl rfl) (Le.sub [129] ⟨rfl, rfl, rfl, rfl, rfl, rfl, trivial⟩ rfl)
        · rw [fin (.inl (by omega))]
          repeat (first|refine sc rfl ?_|refine so rfl ?_|refine sb rfl ?_)
          refine C_false rfl rfl ?_
          repeat (first|refine sc rfl ?_|refine so rfl ?_|refine sb rfl ?_)
          exact Le.trans (Le.freezebox 10 rfl rfl rfl) (Le.sub [129] ⟨rfl, rfl, rfl, rfl, rfl, rfl, trivial⟩ rfl)
      repeat (first|refine sc rfl ?_|refine so rfl ?_|refine sb rfl ?_)
      refine C_if rfl (fun k1 => ?_) (fun k1 => ?_) <;> simp only [pL] at k1
      · have hw : nextV R (l.getD i default).kind (gF g first) = (fldF (gF g first) R [] []).1 := by rw [nextV, if_neg k3, if_neg k2, if_pos k1]
        obtain ⟨w, hwe⟩ : ∃ w, (fldF (gF g first) R [] []).1 = w := ⟨_, rfl⟩
        rw [hw, hwe]
        repeat (first|refine sc rfl ?_|refine so rfl ?_|refine sb rfl ?_)
        refine C_le _ (Le.cellNil 10 3 90 3 1 (fun i => INTc (([] : List Int).getD i default)) rfl rfl rfl rfl) ?_
        refine C_le _ (Le.cellNil 10 4 91 70 5 (Val.rows []) rfl rfl rfl rfl) ?_
        refine C_loop (fun q : Nat × Int × List Int × List Val => ⟨[(0, SL 5 Dcl.c l), (1, SL 5 Val.c kn), (2, B first), (7, .own 129), (8, I64 (i : Nat)), (9, SL 5 Fld.c R), (10, .bp 10 0), (13, I64 (q.1 : Nat))], [.box 10 70 [I64 q.2.1, I64 0, .s [], .own 90, .own 91], .vec 90 3 1 q.2.2.1.length (fun i => INTc (q.2.2.1.getD i default)), .vec 91 70 5 q.2.2.2.length (Val.rows q.2.2.2), VEC 129 70 5 Val.c ((l.take i).map fun d => nextV (rowsZ l d.name) d.kind (gF g first))]⟩)
          (fun q => q.1 ≤ R.length ∧ q.2.2.1.length ≤ q.1 ∧ q.2.2.2.length ≤ q.1 ∧ (q.2.1 = 9 ∧ (fldF (gF g first) (R.drop q.1) q.2.2.1 q.2.2.2).1 = w ∨ q.2.1 = 0 ∧ q.2.2.1 = [] ∧ q.2.2.2 = [] ∧ w = zV)) (fun q => R.length - q.1) (0, 9, [], []) ⟨Nat.zero_le _, Nat.zero_le _, Nat.zero_le _, .inl ⟨rfl, hwe⟩⟩
          (Le.sub [10, 90, 91, 129] ⟨rfl, rfl, rfl, rfl, rfl, rfl, rfl, rfl, trivial⟩ rfl) ?_
        rintro ⟨j, k, tg, it⟩ ⟨hj, htg, hit, hinv⟩
        simp only [] at hj htg hit hinv
        show SymC _ _ _ ⟨[(0, SL 5 Dcl.c l), (1, SL 5 Val.c kn), (2, B first), (7, .own 129), (8, I64 (i : Nat)), (9, SL 5 Fld.c R), (10, .bp 10 0), (13, I64 (j : Nat))], [.box 10 70 [I64 k, I64 0, .s [], .own 90, .own 91], .vec 90 3 1 tg.length (fun i => INTc (tg.getD i default)), .vec 91 70 5 it.length (Val.rows it), VEC 129 70 5 Val.c ((l.take i).map fun d => nextV (rowsZ l d.name) d.kind (gF g first))]⟩ _
        have leave : w = ⟨k, 0, [], tg, it⟩ → ∀ s0, Le X Tryz.f150.ntmps s0 ⟨[(0, SL 5 Dcl.c l), (1, SL 5 Val.c kn), (2, B first), (7, .own 129), (8, I64 (i : Nat)), (9, SL 5 Fld.c R), (10, .bp 10 0), (13, I64 (j : Nat))], [.box 10 70 [I64 k, I64 0, .s [], .own 90, .own 91], .vec 90 3 1 tg.length (fun i => INTc (tg.getD i default)), .vec 91 70 5 it.length (Val.rows it), VEC 129 70 5 Val.c ((l.take i).map fun d => nextV (rowsZ l d.name) d.kind (gF g first))]⟩ → Le X Tryz.f150.ntmps s0
            ⟨[(0, SL 5 Dcl.c l), (1, SL 5 Val.c kn), (2, B first), (7, .own 129), (8, I64 (i : Nat)), (10, .cp (Val.c w))], [VEC 129 70 5 Val.c ((l.take i).map fun d => nextV (rowsZ l d.name) d.kind (gF g first))]⟩ := by
          intro hww s0 hs0
          rw [hww]
          exact Le.trans hs0 <| Le.trans (Le.cellFreeze 10 3 90 rfl rfl rfl) (Le.trans (Le.cellFreeze 10 4 91 rfl rfl rfl) (Le.trans (Le.freezebox 10 rfl rfl rfl) (Le.sub [129] ⟨rfl, rfl, rfl, rfl, rfl, rfl, trivial⟩ rfl)))
        repeat (first|refine sc rfl ?_|refine so rfl ?_|refine sb rfl ?_)
        refine O_case 81 rfl (fun c1 => ?_) (fun c1 => ?_) <;> simp only [pL] at c1
        · repeat (first|refine sc rfl ?_|refine so rfl ?_|refine sb rfl ?_)
          refine C_if rfl (fun c2 => ?_) (fun c2 => ?_) <;> simp only [pL] at c2
          · subst c2
            have hfw : (fldF (gF g first) (R.drop j) tg it).1 = w := by
              rcases hinv with h | h
              · exact h.2
              · exact absurd h.1 (by decide)
            have hjl : j < R.length := by omega
            have hd : R.drop j = R.getD j default :: R.drop (j + 1) := by rw [List.drop_eq_getElem_cons hjl, getD_at hjl]
            rw [hd] at hfw
            simp only [fldF] at hfw
            repeat (first|refine sc rfl ?_|refine so rfl ?_|refine sb rfl ?_)
            refine ⟨by omega, ?_⟩
            rw [Int.toNat_natCast]
            repeat (first|refine sc rfl ?_|refine so rfl ?_|refine sb rfl ?_)
            refine C_if rfl (fun c3 => ?_) (fun c3 => ?_) <;> simp only [pL] at c3
            · rw [if_pos c3] at hfw
              repeat (first|refine sc rfl ?_|refine so rfl ?_|refine sb rfl ?_)
              rw [w64 (x := (j : Int) + 1) (by omega) (by omega)]
              exact ⟨(j + 1, 9, tg, it), ⟨hjl, by simp only []; omega, by simp only []; omega, .inl ⟨rfl, hfw⟩⟩, by simp only []; omega, Le.sub [10, 90, 91, 129] ⟨rfl, rfl, rfl, rfl, rfl, rfl, rfl, rfl, trivial⟩ rfl⟩
            rw [if_neg c3] at hfw
            repeat (first|refine sc rfl ?_|refine so rfl ?_|refine sb rfl ?_)
            refine ⟨by omega, ?_⟩
            rw [Int.toNat_natCast]
            repeat (first|refine sc rfl ?_|refine so rfl ?_|refine sb rfl ?_)
            refine O_call (hof' _ (mem_getDf hjl)) (by rfl) (by rfl) (by rfl) (by rfl) (fun r hr => ?_)
            subst hr
            obtain ⟨x, hx⟩ : ∃ x, g (R.getD j default).ty = x := ⟨_, rfl⟩
            rw [hx]
            repeat (first|refine sc rfl ?_|refine so rfl ?_|refine sb rfl ?_)
            refine O_case 104 rfl (fun c4 => ?_) (fun c4 => ?_)
            · have hwz : w = zV := by
                rw [if_neg (by show ¬ (!first && decide (0 < (g (R.getD j default).ty).kind)) = true; rw [c4]; simp)] at hfw
                exact hfw.symm
              repeat (first|refine sc rfl ?_|refine so rfl ?_|refine sb rfl ?_)
              refine C_true rfl rfl ?_
              repeat (first|refine sc rfl ?_|refine so rfl ?_|refine sb rfl ?_)
              rw [w64 (x := (j : Int) + 1) (by omega) (by omega)]
              exact ⟨(j + 1, 0, [], []), ⟨hjl, Nat.zero_le _, Nat.zero_le _, .inr ⟨rfl, rfl, rfl, hwz⟩⟩, by simp only []; omega, Le.trans (Le.sub (s2 := ⟨[(0, SL 5 Dcl.c l), (1, SL 5 Val.c kn), (2, B first), (7, .own 129), (8, I64 (i : Nat)), (9, SL 5 Fld.c R), (10, .bp 10 0), (13, I64 ((j + 1 : Nat) : Int))], [.box 10 70 zC, VEC 129 70 5 Val.c ((l.take i).map fun d => nextV (rowsZ l d.name) d.kind (gF g first))]⟩) [10, 129] ⟨rfl, rfl, rfl, rfl, rfl, rfl, rfl, rfl, trivial⟩ rfl) (Le.trans (Le.cellNil 10 3 90 3 1 (fun i => INTc (([] : List Int).getD i default)) rfl rfl rfl rfl) (Le.trans (Le.cellNil 10 4 91 70 5 (Val.rows []) rfl rfl rfl rfl) (Le.sub [10, 90, 91, 129] ⟨rfl, rfl, rfl, rfl, rfl, rfl, rfl, rfl, trivial⟩ rfl)))⟩
            · repeat (first|refine sc rfl ?_|refine so rfl ?_|refine sb rfl ?_)
              refine C_if rfl (fun c5 => ?_) (fun c5 => ?_) <;> simp only [pL] at c5
              · have hwz : w = zV := by
                  rw [if_neg (by show ¬ (!first && decide (0 < (g (R.getD j default).ty).kind)) = true; rw [hx, c5]; simp)] at hfw
                  exact hfw.symm
                repeat (first|refine sc rfl ?_|refine so rfl ?_|refine sb rfl ?_)
                rw [w64 (x := (j : Int) + 1) (by omega) (by omega)]
                exact ⟨(j + 1, 0, [], []), ⟨hjl, Nat.zero_le _, Nat.zero_le _, .inr ⟨rfl, rfl, rfl, hwz⟩⟩, by simp only []; omega, Le.trans (Le.sub (s2 := ⟨[(0, SL 5 Dcl.c l), (1, SL 5 Val.c kn), (2, B first), (7, .own 129), (8, I64 (i : Nat)), (9, SL 5 Fld.c R), (10, .bp 10 0), (13, I64 ((j + 1 : Nat) : Int))], [.box 10 70 zC, VEC 129 70 5 Val.c ((l.take i).map fun d => nextV (rowsZ l d.name) d.kind (gF g first))]⟩) [10, 129] ⟨rfl, rfl, rfl, rfl, rfl, rfl, rfl, rfl, trivial⟩ rfl) (Le.trans (Le.cellNil 10 3 90 3 1 (fun i => INTc (([] : List Int).getD i default)) rfl rfl rfl rfl) (Le.trans (Le.cellNil 10 4 91 70 5 (Val.rows []) rfl rfl rfl rfl) (Le.sub [10, 90, 91, 129] ⟨rfl, rfl, rfl, rfl, rfl, rfl, rfl, rfl, trivial⟩ rfl)))⟩
              · have hok : (gF g first (R.getD j default).ty).2 = true := by
                  show (!first && decide (0 < (g (R.getD j default).ty).kind)) = true
                  rw [c4, hx, decide_eq_true (by have := hpos (R.getD j default).ty; rw [hx] at this; omega)]; rfl
                rw [if_pos hok] at hfw
                have hgx : (gF g first (R.getD j default).ty).1 = x := hx
                rw [hgx] at hfw
                refine sc rfl ?_
                refine C_drawT 20 8 rfl (by kernel_rfl) (by kernel_rfl) ?_
                repeat (first|refine sd rfl ?_|refine sdb rfl ?_|refine sds rfl ?_)
                refine ⟨by omega, ?_⟩
                rw [Int.toNat_natCast]
                repeat (first|refine sd rfl ?_|refine sdb rfl ?_|refine sds rfl ?_)
                refine O_append (m2 := 1) (m3 := tg.length + 1) (row3 := fun i => INTc ((tg ++ [(R.getD j default).tag]).getD i default)) (s2 := [(0, SL 5 Dcl.c l), (1, SL 5 Val.c kn), (2, B first), (7, .own 129), (8, I64 (i : Nat)), (9, SL 5 Fld.c R), (10, .bp 10 0), (13, I64 (j : Nat)), (14, .bp 14 0)]) rfl rfl rfl rfl rfl (src_sl rfl (chunk1 (e := 1) rfl)) rfl ⟨rfl, rfl, rfl, rfl, rfl, rfl, rfl, rfl, rfl, trivial⟩ rfl rfl (by omega) (by simp only [maxLen]; omega) rfl (fun j hj => ints_snoc hj) ?_
                repeat (first|refine sc rfl ?_|refine so rfl ?_|refine sb rfl ?_)
                refine O_le _ (Le.freeze 123 rfl rfl) ?_
                refine O_append (m2 := 1) (m3 := it.length + 1) (row3 := Val.rows (it ++ [x])) (s2 := [(0, SL 5 Dcl.c l), (1, SL 5 Val.c kn), (2, B first), (7, .own 129), (8, I64 (i : Nat)), (9, SL 5 Fld.c R), (10, .bp 10 0), (13, I64 (j : Nat))]) rfl rfl rfl rfl rfl (src_sl rfl (chunk1 (e := 5) rfl)) rfl ⟨rfl, rfl, rfl, rfl, rfl, rfl, rfl, rfl, trivial⟩ rfl rfl (by omega) (by simp only [maxLen]; omega) rfl (fun j hj => rows_snoc hj) ?_
                repeat (first|refine sc rfl ?_|refine so rfl ?_|refine sb rfl ?_)
                rw [w64 (x := (j : Int) + 1) (by omega) (by omega)]
                refine ⟨(j + 1, 9, tg ++ [(R.getD j default).tag], it ++ [x]), ⟨hjl, by simp; omega, by simp; omega, .inl ⟨rfl, hfw⟩⟩, by simp only []; omega, ?_⟩
                refine Le.trans (Le.cellRename 10 3 118 90 (s2 := [(0, SL 5 Dcl.c l), (1, SL 5 Val.c kn), (2, B first), (7, .own 129), (8, I64 (i : Nat)), (9, SL 5 Fld.c R), (10, .bp 10 0), (13, I64 ((j + 1 : Nat) : Int))]) rfl rfl rfl ⟨rfl, rfl, rfl, rfl, rfl, rfl, rfl, rfl, trivial⟩ rfl rfl) ?_
                refine Le.trans (Le.cellRename 10 4 124 91 (s2 := [(0, SL 5 Dcl.c l), (1, SL 5 Val.c kn), (2, B first), (7, .own 129), (8, I64 (i : Nat)), (9, SL 5 Fld.c R), (10, .bp 10 0), (13, I64 ((j + 1 : Nat) : Int))]) rfl rfl rfl ⟨rfl, rfl, rfl, rfl, rfl, rfl, rfl, rfl, trivial⟩ rfl rfl) ?_
                show Le _ _ _ ⟨_, [.box 10 70 [I64 9, I64 0, .s [], .own 90, .own 91], .vec 90 3 1 (tg ++ [(R.getD j default).tag]).length (fun i => INTc ((tg ++ [(R.getD j default).tag]).getD i default)), .vec 91 70 5 (it ++ [x]).length (Val.rows (it ++ [x])), VEC 129 70 5 Val.c ((l.take i).map fun d => nextV (rowsZ l d.name) d.kind (gF g first))]⟩
                rw [List.length_append, List.length_append]
                exact Le.sub [10, 90, 91, 129] ⟨rfl, rfl, rfl, rfl, rfl, rfl, rfl, rfl, trivial⟩ rfl
          · repeat (first|refine sc rfl ?_|refine so rfl ?_|refine sb rfl ?_)
            refine leave ?_ _ (Le.sub [10, 90, 91, 129] ⟨rfl, rfl, rfl, rfl, rfl, rfl, rfl, rfl, trivial⟩ rfl)
            rcases hinv with h | h
            · exact absurd h.1 c2
            · obtain ⟨rfl, rfl, rfl, h⟩ := h; exact h
        · repeat (first|refine sc rfl ?_|refine so rfl ?_|refine sb rfl ?_)
          refine C_false rfl rfl ?_
          repeat (first|refine sc rfl ?_|refine so rfl ?_|refine sb rfl ?_)
          refine leave ?_ _ (Le.sub [10, 90, 91, 129] ⟨rfl, rfl, rfl, rfl, rfl, rfl, rfl, rfl, trivial⟩ rfl)
          rcases hinv with h | h
          · rw [← h.2, List.drop_eq_nil_of_le (by omega), h.1]; rfl
          · obtain ⟨rfl, rfl, rfl, h⟩ := h; exact h
      have hw : nextV R (l.getD i default).kind (gF g first) = zV := by rw [nextV, if_neg k3, if_neg k2, if_neg k1]
      rw [hw]
      repeat (first|refine sc rfl ?_|refine so rfl ?_|refine sb rfl ?_)
      exact Le.trans (Le.boxsub 10 (Val.c zV) rfl (.cons .refl (.cons .refl (.cons .refl (.cons .nil (.cons .nil .nil)))))) (Le.trans (Le.freezebox 10 rfl rfl rfl) (Le.sub [129] ⟨rfl, rfl, rfl, rfl, rfl, rfl, trivial⟩ rfl))
    have hpl : ((l.take i).map fun d => nextV (rowsZ l d.name) d.kind (gF g first)).length ≤ 1000 := by simp; omega
    have hnx : ((l.take (i + 1)).map fun d => nextV (rowsZ l d.name) d.kind (gF g first)) = ((l.take i).map fun d => nextV (rowsZ l d.name) d.kind (gF g first)) ++ [nextV R (l.getD i default).kind (gF g first)] := by
      rw [List.take_succ_eq_append_getElem hil, List.map_append, ← getD_at hil, ← hR]; rfl
    repeat (first|refine sc rfl ?_|refine so rfl ?_|refine sb rfl ?_)
    refine O_push (by_ := 80) Val.c _ (nextV R (l.getD i default).kind (gF g first)) [(0, SL 5 Dcl.c l), (1, SL 5 Val.c kn), (2, B first), (8, I64 (i : Nat))] rfl rfl rfl rfl rfl rfl rfl rfl rfl rfl ⟨rfl, rfl, rfl, rfl, trivial⟩ rfl rfl (by omega) (by simp only [maxLen]; omega) ?_
    repeat (first|refine sc rfl ?_|refine so rfl ?_|refine sb rfl ?_)
    rw [w64 (x := (i : Int) + 1) (by omega) (by omega)]
    refine ⟨i + 1, hil, by omega, ?_⟩
    rw [hnx]
    exact Le.sub [129] ⟨rfl, rfl, rfl, rfl, rfl, trivial⟩ rfl
  · obtain rfl : i = l.length := by omega
    refine C_le _ (Le.freezeL 7 rfl rfl) ?_
    repeat (first|refine sc rfl ?_|refine so rfl ?_|refine sb rfl ?_)
    exact ⟨_, rfl, rfl, by rw [List.take_length]⟩
end Go.Proofs

namespace Go.Proofs
open Go.Sy Go.Lib

theorem rowsU_pw {l : List Dcl} (hW : WellL l) (hex : ∃ Rs, RowsOK l Rs) (nm : List UInt8) : (rowsU l nm).Pairwise (fun a b => a.tag < b.tag) := by
  obtain ⟨Rs, hRs⟩ := hex
  rw [← rowsU_eq hW hRs]
  unfold rowsL
  cases hf : fndL nm l with
  | none => exact .nil
  | some j =>
    have hj := fndL_lt hf
    exact (hRs.2 j hj).pw (List.nodup_append.1 (hW j hj).tags).1
theorem rowsZ_eq {l : List Dcl} (hl : FewL l) (hW : WellL l) (hex : ∃ Rs, RowsOK l Rs) (nm : List UInt8) : rowsZ l nm = rowsU l nm :=
  srt_eq (RowsZ_c l hl nm).1.srt (rowsU_pw hW hex nm) (fun f => by rw [rowsZ_mem hl hW, rowsU_mem hW hex])

def docT (h : List UInt8 → Val) (t : Ty) : Val := (plF (fun nm => (h nm, true)) t).1
theorem docT_eq (h : List UInt8 → Val) (t : Ty) : docT h t = if t.kind = 6 then h t.name else if ofF t.kind ≠ (t.of.length : Nat) then zV else if t.kind = 9 then docT h (t.of.getD 0 default) else ⟨t.kind, 0, [], [], []⟩ := by
  unfold docT
  rw [plF_eq]
  unfold ofF
  by_cases h6 : t.kind = 6
  · rw [if_pos h6, if_pos h6]
  rw [if_neg h6, if_neg h6]
  by_cases hp : (1 ≤ t.kind ∧ t.kind ≤ 5 ∧ t.of.length = 0) ∨ (t.kind = 7 ∧ t.of.length = 1) ∨ (t.kind = 8 ∧ t.of.length = 2)
  · rw [if_pos hp, if_neg, if_neg (by omega)]
    (repeat' split) <;> omega
  rw [if_neg hp]
  by_cases h9 : t.kind = 9 ∧ t.of.length = 1
  · rw [if_pos h9, if_neg, if_pos h9.1]
    (repeat' split) <;> omega
  · rw [if_neg h9, if_pos]
    (repeat' split) <;> omega

theorem plF_kind (h : List UInt8 → Val × Bool) (hh : ∀ nm, (h nm).2 = decide (0 < (h nm).1.kind) ∧ ((h nm).2 = false → (h nm).1 = zV)) : ∀ (m : Nat) (t : Ty), SizeOf.sizeOf t ≤ m → (plF h t).2 = decide (0 < (plF h t).1.kind) ∧ ((plF h t).2 = false → (plF h t).1 = zV) ∧ (plF h t).1 = docT (fun nm => (h nm).1) t
  | 0, t, hm => by cases t; simp at hm
  | m + 1, t, hm => by
    rw [docT, plF_eq h t, plF_eq (fun nm => ((h nm).1, true)) t]
    by_cases h6 : t.kind = 6
    · rw [if_pos h6, if_pos h6]; exact ⟨(hh _).1, (hh _).2, rfl⟩
    rw [if_neg h6, if_neg h6]
    by_cases hp : (1 ≤ t.kind ∧ t.kind ≤ 5 ∧ t.of.length = 0) ∨ (t.kind = 7 ∧ t.of.length = 1) ∨ (t.kind = 8 ∧ t.of.length = 2)
    · rw [if_pos hp, if_pos hp]
      exact ⟨by rw [eq_comm, decide_eq_true_eq]; show 0 < t.kind; omega, (fun h => by cases h), rfl⟩
    rw [if_neg hp, if_neg hp]
    by_cases h9 : t.kind = 9 ∧ t.of.length = 1
    · rw [if_pos h9, if_pos h9]
      exact plF_kind h hh m (t.of.getD 0 default) (by have := of_lt (t := t) (i := 0) (by omega); omega)
    · rw [if_neg h9, if_neg h9]
      exact ⟨rfl, fun _ => rfl, rfl⟩

theorem fldF_kind {g : Ty → Val × Bool} : ∀ (R : List Fld) (tg : List Int) (it : List Val), (fldF g R tg it).2 = decide (0 < (fldF g R tg it).1.kind) ∧ ((fldF g R tg it).2 = false → (fldF g R tg it).1 = zV)
  | [], _, _ => ⟨rfl, fun h => by cases h⟩
  | f :: R, tg, it => by
    simp only [fldF]
    split
    · exact fldF_kind R tg it
    · split
      · exact fldF_kind R _ _
      · exact ⟨rfl, fun _ => rfl⟩
theorem firF_kind {g : Ty → Val × Bool} : ∀ (R : List Fld), (firF g R).2 = decide (0 < (firF g R).1.kind) ∧ ((firF g R).2 = false → (firF g R).1 = zV)
  | [] => ⟨rfl, fun _ => rfl⟩
  | f :: R => by
    simp only [firF]
    split
    · exact ⟨rfl, fun h => by cases h⟩
    · exact firF_kind R
theorem namF_kind (l : List Dcl) (g : Ty → Val × Bool) (nm : List UInt8) : (namF l g nm).2 = decide (0 < (namF l g nm).1.kind) ∧ ((namF l g nm).2 = false → (namF l g nm).1 = zV) := by
  unfold namF
  split
  · exact ⟨rfl, fun h => by cases h⟩
  split
  · exact fldF_kind _ _ _
  split
  · exact firF_kind _
  · exact ⟨rfl, fun _ => rfl⟩
theorem byF_kind (l : List Dcl) : ∀ (d : Nat) (t : Ty), (byF l d t).2 = decide (0 < (byF l d t).1.kind) ∧ ((byF l d t).2 = false → (byF l d t).1 = zV)
  | 0, t => ⟨rfl, fun _ => rfl⟩
  | d + 1, t => by
    have := plF_kind (namF l (byF l d)) (namF_kind l _) _ t (Nat.le_refl _)
    exact ⟨this.1, this.2.1⟩

theorem fldF_congr {g g' : Ty → Val × Bool} (h : ∀ t, (g t).2 = (g' t).2 ∧ ((g t).2 = true → (g t).1 = (g' t).1)) : ∀ (R : List Fld) (tg : List Int) (it : List Val), fldF g R tg it = fldF g' R tg it
  | [], _, _ => rfl
  | f :: R, tg, it => by
    simp only [fldF]
    by_cases hk : f.ty.kind = 9
    · rw [if_pos hk, if_pos hk]; exact fldF_congr h R tg it
    rw [if_neg hk, if_neg hk, ← (h f.ty).1]
    by_cases h2 : (g f.ty).2 = true
    · rw [if_pos h2, if_pos h2, ← (h f.ty).2 h2]; exact fldF_congr h R _ _
    · rw [if_neg h2, if_neg h2]
theorem firF_congr {g g' : Ty → Val × Bool} (h : ∀ t, (g t).2 = (g' t).2 ∧ ((g t).2 = true → (g t).1 = (g' t).1)) : ∀ (R : List Fld), firF g R = firF g' R
  | [] => rfl
  | f :: R => by
    simp only [firF]
    rw [← (h f.ty).1]
    by_cases h2 : (g f.ty).2 = true
    · rw [if_pos h2, if_pos h2, ← (h f.ty).2 h2]
    · rw [if_neg h2, if_neg h2]; exact firF_congr h R

noncomputable def hN (l : List Dcl) (n : Nat) (nm : List UInt8) : Val := (byF l n ⟨6, nm, []⟩).1
theorem byF_six (l : List Dcl) (n : Nat) (nm : List UInt8) : byF l (n + 1) ⟨6, nm, []⟩ = namF l (byF l n) nm := by
  simp only [byF]
  rw [plF_eq, if_pos rfl]
theorem doc_by (l : List Dcl) (n : Nat) (t : Ty) : docT (hN l (n + 1)) t = (byF l (n + 1) t).1 := by
  have h := (plF_kind (namF l (byF l n)) (namF_kind l _) _ t (Nat.le_refl _)).2.2
  have e : (fun nm => (namF l (byF l n) nm).1) = hN l (n + 1) := by
    funext nm
    rw [hN, byF_six]
  rw [e] at h
  exact h.symm

theorem next_by {l : List Dcl} (hl : FewL l) (hW : WellL l) (hex : ∃ Rs, RowsOK l Rs) (n : Nat) (nm : List UInt8) : nextV (rowsZ l nm) (kindL l nm) (gF (docT (hN l n)) (decide (n = 0))) = hN l (n + 1) nm := by
  have hcong : ∀ t, (gF (docT (hN l n)) (decide (n = 0)) t).2 = (byF l n t).2 ∧ ((gF (docT (hN l n)) (decide (n = 0)) t).2 = true → (gF (docT (hN l n)) (decide (n = 0)) t).1 = (byF l n t).1) := by
    intro t
    cases n with
    | zero => exact ⟨rfl, fun h => by simp [gF] at h⟩
    | succ n =>
      have hk := byF_kind l (n + 1) t
      refine ⟨?_, fun _ => doc_by l n t⟩
      rw [hk.1, ← doc_by]
      rfl
  rw [hN, byF_six, rowsZ_eq hl hW hex]
  unfold nextV namF
  by_cases k3 : kindL l nm = 3
  · rw [if_pos k3, if_pos k3]
  rw [if_neg k3, if_neg k3]
  by_cases k2 : kindL l nm = 2
  · rw [if_pos k2, if_neg (by omega), if_pos k2, firF_congr hcong]
  rw [if_neg k2]
  by_cases k1 : kindL l nm = 1
  · rw [if_pos k1, if_pos k1, fldF_congr hcong]
  · rw [if_neg k1, if_neg k1, if_neg k2]
end Go.Proofs

namespace Go.Proofs
open Go.Sy Go.Lib

theorem OfK_tot (k : Int) : OfK_F k = some (ofF k) := by
  unfold OfK_F ofF
  by_cases h7 : k = 7
  · subst h7; rfl
  by_cases h9 : k = 9
  · subst h9; rfl
  by_cases h8 : k = 8
  · subst h8; rfl
  rw [if_neg (by omega), if_neg h8]
  have e7 : (k == 7) = false := by simpa using h7
  have e9 : (k == 9) = false := by simpa using h9
  have e8 : (k == 8) = false := by simpa using h8
  rw [e7, e9, e8]
  by_cases h : k < 1 ∨ 9 < k
  · rw [if_pos h]
    by_cases h1 : k < 1
    · rw [decide_eq_true h1]; rfl
    · rw [decide_eq_false h1, decide_eq_true (by omega)]; rfl
  · rw [if_neg h, decide_eq_false (by omega), decide_eq_false (by omega)]; rfl

def lookN (l : List Dcl) (kn : List Val) (nm : List UInt8) : Val := match fndL nm l with
  | none => zV
  | some j => kn.getD j default

theorem OfB_tot (l : List Dcl) (hl : l.length ≤ 1000) (kn : List Val) (hk : kn.length = l.length) : ∀ (m : Nat) (t : Ty), SizeOf.sizeOf t ≤ m → OfB_X m l t kn = some (docT (lookN l kn) t)
  | 0, t, hm => by cases t; simp at hm
  | m + 1, t, hm => by
    simp only [OfB_X, OfB_F]
    rw [docT_eq, OfK_tot, Find_tot l hl]
    by_cases h6 : t.kind = 6
    · have e6 : (t.kind != 6) = false := by simpa using h6
      rw [e6, if_pos h6]
      simp only [cond_false, Option.bind_some, fndZ, lookN]
      cases hf : fndL t.name l with
      | none => rfl
      | some j =>
        have hj := fndL_lt hf
        simp only []
        rw [decide_eq_false (by omega), cond_false, chk, if_pos (by omega), Int.toNat_natCast]
    have e6 : (t.kind != 6) = true := by simpa using h6
    rw [e6, if_neg h6]
    simp only [cond_true, Option.bind_some]
    by_cases ho : ofF t.kind = (t.of.length : Nat)
    · have eo : (ofF t.kind != ((t.of.length : Nat) : Int)) = false := by simpa using ho
      rw [eo, if_neg (by simpa using ho), cond_false]
      by_cases h9 : t.kind = 9
      · have e9 : (t.kind == 9) = true := by simpa using h9
        have hlen : 0 < t.of.length := by
          rw [h9] at ho
          have : (1 : Int) = (t.of.length : Nat) := ho
          omega
        have hrec := OfB_tot l hl kn hk m (t.of.getD 0 default) (by have := of_lt (t := t) (i := 0) hlen; omega)
        rw [e9, cond_true, if_pos h9, chk, if_pos ⟨by omega, by omega⟩]
        show Option.bind (OfB_X m l (t.of.getD 0 default) kn) some = _
        rw [hrec]; rfl
      · have e9 : (t.kind == 9) = false := by simpa using h9
        rw [e9, cond_false, if_neg h9]
    · have eo : (ofF t.kind != ((t.of.length : Nat) : Int)) = true := by simpa using ho
      rw [eo, if_pos (by simpa using ho), cond_true]

theorem of_c (l : List Dcl) (hl : l.length ≤ 1000) (kn : List Val) (hk : kn.length = l.length) (t : Ty) : FnP Tryz.prog 151 [SL 5 Dcl.c l, .agg (Ty.c t), SL 5 Val.c kn] (· = .agg (Val.c (docT (lookN l kn) t))) :=
  OfB_wn _ l t kn _ (OfB_tot l hl kn hk _ t (Nat.le_refl _))

noncomputable def knV (l : List Dcl) (n : Nat) : List Val := l.map fun d => hN l n d.name
theorem fndL_name {nm : List UInt8} : ∀ {l : List Dcl} {j : Nat}, fndL nm l = some j → (l.getD j default).name = nm
  | [], j, h => by simp [fndL] at h
  | d :: l, j, h => by
    simp only [fndL] at h
    split at h
    · cases h; simpa
    · obtain ⟨k, hk, rfl⟩ := Option.map_eq_some_iff.1 h
      have := fndL_name hk
      simpa using this
theorem hN_none {l : List Dcl} {nm : List UInt8} (h : fndL nm l = none) (n : Nat) : hN l n nm = zV := by
  cases n with
  | zero => rfl
  | succ n =>
    have hk : kindL l nm = 0 := by rw [kindL, h]
    rw [hN, byF_six, namF, hk]
    rfl
theorem lookN_knV (l : List Dcl) (n : Nat) : lookN l (knV l n) = hN l n := by
  funext nm
  unfold lookN
  cases hf : fndL nm l with
  | none => exact (hN_none hf n).symm
  | some j =>
    have hj := fndL_lt hf
    have hn := fndL_name hf
    simp only []
    rw [getD_at (by simpa [knV] using hj)]
    simp only [knV, List.getElem_map]
    rw [← getD_at hj, hn]
theorem docT_pos (l : List Dcl) (n : Nat) (t : Ty) : 0 ≤ (docT (hN l n) t).kind := by
  cases n with
  | zero =>
    have h := plF_kind (fun _ => (zV, false)) (fun _ => ⟨rfl, fun _ => rfl⟩) _ t (Nat.le_refl _)
    have e : (fun nm : List UInt8 => ((fun _ => (zV, false)) nm : Val × Bool).1) = hN l 0 := rfl
    rw [e] at h
    rw [← h.2.2]
    cases hb : (plF (fun _ => (zV, false)) t).2 with
    | true => have := h.1; rw [hb] at this; have := of_decide_eq_true this.symm; omega
    | false => rw [h.2.1 hb]; exact Int.le_refl _
  | succ n =>
    rw [doc_by]
    have h := byF_kind l (n + 1) t
    cases hb : (byF l (n + 1) t).2 with
    | true => have := h.1; rw [hb] at this; have := of_decide_eq_true this.symm; omega
    | false => rw [h.2 hb]; exact Int.le_refl _

theorem knV_next {l : List Dcl} (hl : FewL l) (hW : WellL l) (hex : ∃ Rs, RowsOK l Rs) (n : Nat) : FnP Tryz.prog 150 [SL 5 Dcl.c l, SL 5 Val.c (knV l n), B (decide (n = 0))] (· = SL 5 Val.c (knV l (n + 1))) := by
  have hkd : ∀ d, d ∈ l → kindL l d.name = d.kind := fun d hd => by
    obtain ⟨i, hi, rfl⟩ := getD_mem hd
    rw [kindL, (hW i hi).at_]
  have h := next_c l hl (knV l n) (decide (n = 0)) (docT (hN l n)) (docT_pos l n)
    (fun d hd h3 => by
      rw [rowsZ_eq hl hW hex]
      exact rowsU_ne hW hex (by rw [hkd d hd]; exact h3))
    (fun d hd f hf => by
      have := of_c l hl.1 (knV l n) (by simp [knV]) f.ty
      rw [lookN_knV] at this
      exact this)
  have e : (l.map fun d => nextV (rowsZ l d.name) d.kind (gF (docT (hN l n)) (decide (n = 0)))) = knV l (n + 1) := by
    unfold knV
    refine List.map_congr_left (fun d hd => ?_)
    rw [← next_by hl hW hex, hkd d hd]
  rw [e] at h
  exact h

theorem subAL_IL {G : IM} {xs ys : List AV} (h : subAL xs ys) : ∀ {vs : List Value}, RepIL G xs vs → RepIL G ys vs := by
  induction h with
  | nil => intro vs r; exact r
  | cons h _ ih =>
    intro vs r
    simp only [RepIL] at r ⊢
    obtain ⟨z, zs, e1, r1, r2, r3⟩ := r
    exact ⟨z, zs, e1, subA_I h r1, r2, ih r3⟩

theorem RType_c {l : List Dcl} (hl : FewL l) (hW : WellL l) (hex : ∃ Rs, RowsOK l Rs) (t : Ty) : FnP Tryz.prog 92 [SL 5 Dcl.c l, .agg (Ty.c t)] (· = .tup [.agg (Val.c (typG l t 8 0).1), I64 (typG l t 8 0).2]) := by
  obtain ⟨q, hq⟩ : ∃ q, typG l t 8 0 = q := ⟨_, rfl⟩
  have hl1 : l.length ≤ 1000 := hl.1
  rw [hq]
  refine FnP.intro Tryz.tabOK Tryz.wide_ Tryz.func92 rfl (by decide) rfl (fun X => ?_)
  repeat (first|refine sc rfl ?_|refine so rfl ?_|refine sb rfl ?_)
  refine O_makeW (esz := 5) (m := l.length) rfl rfl rfl rfl rfl rfl (by omega) (by simp only [maxLen]; omega) (fun b => ?_)
  repeat (first|refine sc rfl ?_|refine so rfl ?_|refine sb rfl ?_)
  refine C_le _ (Le.absPerm (As := [vecA (HD b l.length l.length) 70 5 l.length (fun _ => zC)]) (As' := [vecA (HD b l.length l.length) 70 5 l.length (fun _ => Val.c zV)]) (pickA_perm (is := [0]) rfl) (.refl _) (fun G w h A hA => by
    simp only [List.mem_singleton] at hA
    subst hA
    obtain ⟨xs, g1, g2⟩ := h _ (List.mem_singleton.2 rfl)
    exact ⟨xs, g1, fun i hi => subAL_IL (.cons .refl (.cons .refl (.cons .refl (.cons .nil (.cons .nil .nil))))) (g2 i hi)⟩)) ?_
  refine C_le _ (Le.frVec 0 (fun i => Val.c ((knV l 0).getD i default)) rfl (fun i hi => by
    rw [getD_at (by simpa [knV] using hi)]
    simp only [knV, List.getElem_map]
    rfl)) ?_
  refine C_le _ (Le.slotA 0 6 rfl rfl) ?_
  refine C_le _ (Le.conv 6 (y := SL 5 Val.c (knV l 0)) rfl (fun e v h => by
    have hk : (knV l 0).length = l.length := by simp [knV]
    show Rep e (.sl (knV l 0).length 5 _) v
    rw [hk]; exact h)) ?_
  refine C_le _ (Le.freezebox 3 rfl rfl rfl) ?_
  refine C_loop (fun n : Nat => ⟨[(0, SL 5 Dcl.c l), (3, .cp (Ty.c t)), (4, .bp 4 0), (6, SL 5 Val.c (knV l n)), (7, I64 ((n : Int) + 1))], [.box 4 70 zC]⟩) (fun n => n ≤ 8 ∧ typG l t (8 - n) n = q) (fun n => 8 - n) 0 ⟨by omega, hq⟩ ?_ ?_
  · exact Le.sub [4] ⟨rfl, rfl, rfl, rfl, rfl, trivial⟩ rfl
  rintro n ⟨hn, hF⟩
  repeat (first|refine sc rfl ?_|refine so rfl ?_|refine sb rfl ?_)
  refine C_if rfl (fun c1 => ?_) (fun c1 => ?_) <;> simp only [pL] at c1
  · have hn8 : n < 8 := by omega
    rw [show 8 - n = (8 - (n + 1)) + 1 by omega, typG_step] at hF
    repeat (first|refine sc rfl ?_|refine so rfl ?_|refine sb rfl ?_)
    have e1 : (((n : Int) + 1) == 1) = decide (n = 0) := by rw [Bool.eq_iff_iff]; simp; omega
    rw [e1]
    refine O_call (knV_next hl hW hex n) (by rfl) (by rfl) (by rfl) (by rfl) (fun r hr => ?_)
    subst hr
    repeat (first|refine sc rfl ?_|refine so rfl ?_|refine sb rfl ?_)
    refine O_call (of_c l hl.1 (knV l (n + 1)) (by simp [knV]) t) (by rfl) (by rfl) (by rfl) (by rfl) (fun r hr => ?_)
    subst hr
    rw [lookN_knV, doc_by]
    have hk := byF_kind l (n + 1) t
    obtain ⟨y, hy⟩ : ∃ y, byF l (n + 1) t = y := ⟨_, rfl⟩
    rw [hy] at hF hk ⊢
    obtain ⟨w, ok⟩ := y
    simp only [] at hk
    repeat (first|refine sc rfl ?_|refine so rfl ?_|refine sb rfl ?_)
    refine C_if rfl (fun c2 => ?_) (fun c2 => ?_) <;> simp only [pL] at c2
    · have hok : ok = true := by rw [hk.1]; exact decide_eq_true c2
      rw [if_pos hok] at hF
      subst hF
      repeat (first|refine sc rfl ?_|refine so rfl ?_|refine sb rfl ?_)
      exact ⟨_, rfl, rfl, rfl⟩
    · have hok : ¬ ok = true := by rw [hk.1, decide_eq_false c2]; decide
      rw [if_neg hok] at hF
      repeat (first|refine sc rfl ?_|refine so rfl ?_|refine sb rfl ?_)
      rw [w64 (x := (n : Int) + 1 + 1) (by omega) (by omega)]
      exact ⟨n + 1, ⟨hn8, hF⟩, by omega, Le.sub [4] ⟨rfl, rfl, rfl, rfl, rfl, trivial⟩ rfl⟩
  · obtain rfl : n = 8 := by omega
    repeat (first | refine O_le _ (Le.agg 30 (Val.c zV) rfl (.cons .refl (.cons .refl (.cons .refl (.cons .nil (.cons .nil .nil)))))) ?_ | refine sc rfl ?_ | refine so rfl ?_ | refine sb rfl ?_)
    refine ⟨_, rfl, rfl, ?_⟩
    rw [← hF]
    rfl

theorem RStruct_c {l : List Dcl} (hl : FewL l) (hW : WellL l) (nm : List UInt8) (hex : kindL l nm = 1 → ∃ Rs, RowsOK l Rs) : FnP Tryz.prog 46 [SL 5 Dcl.c l, .s nm] (· = .tup [.agg (Val.c (strF l nm).1), I64 (strF l nm).2]) := by
  obtain ⟨q, hq⟩ : ∃ q, strF l nm = q := ⟨_, rfl⟩
  rw [hq]
  unfold strF at hq
  refine FnP.intro Tryz.tabOK Tryz.wide_ Tryz.func46 rfl (by decide) rfl (fun X => ?_)
  repeat (first|refine sc rfl ?_|refine so rfl ?_|refine sb rfl ?_)
  refine O_call (KindR_c l hl.1 nm) (by rfl) (by rfl) (by rfl) (by rfl) (fun r hr => ?_)
  subst hr
  repeat (first|refine sc rfl ?_|refine so rfl ?_|refine sb rfl ?_)
  refine C_if rfl (fun c => ?_) (fun c => ?_) <;> simp only [pL] at c
  · rw [if_neg c] at hq
    repeat (first | refine O_le _ (Le.agg 10 (Val.c zV) rfl (.cons .refl (.cons .refl (.cons .refl (.cons .nil (.cons .nil .nil)))))) ?_ | refine sc rfl ?_ | refine so rfl ?_ | refine sb rfl ?_)
    refine ⟨_, rfl, rfl, ?_⟩
    rw [← hq]
    rfl
  · rw [if_pos c] at hq
    repeat (first | refine O_le _ (Le.agg 13 (Ty.c ⟨6, nm, []⟩) rfl (.cons .refl (.cons .refl (.cons .nil .nil)))) ?_ | refine sc rfl ?_ | refine so rfl ?_ | refine sb rfl ?_)
    refine O_call (RType_c hl hW (hex c) ⟨6, nm, []⟩) (by rfl) (by rfl) (by rfl) (by rfl) (fun r hr => ?_)
    subst hr
    rw [hq]
    repeat (first|refine sc rfl ?_|refine so rfl ?_|refine sb rfl ?_)
    exact ⟨_, rfl, rfl, rfl⟩
end Go.Proofs

namespace Go.Proofs
open Go.Sy Go.Lib

noncomputable def DeepR_L1 (rec : Val → Option (Int)) (v : Val) (s1 : Int × Int) : Option ((Int × Int) ⊕ ((Int))) :=
  cond (decide (s1.2 < (v.items.length : Int))) (chk ((0 : Int) ≤ s1.2 ∧ s1.2 < (v.items.length : Int)) (Option.bind (rec (v.items.getD (Int.toNat s1.2) default)) (fun r9 => some (Sum.inl (max s1.1 (IntKind.i64.wrap (1 + r9)), IntKind.i64.wrap (s1.2 + 1)))))) (some (Sum.inr (s1.1)))
noncomputable def DeepR_F (rec : Val → Option (Int)) (v : Val) : Option (Int) :=
  Option.bind (Iter (DeepR_L1 rec v) (1, 0)) (fun o2 => some o2)
theorem DeepR_wb (rec : Val → Option (Int)) (v : Val) (r : Int) (hrec : ∀ v r, rec v = some r → FnP Tryz.prog 33 [.agg (Val.c v)] (· = I64 r)) (h : DeepR_F rec v = some r) : FnP Tryz.prog 33 [.agg (Val.c v)] (· = I64 r) := by
  unfold DeepR_F at h
  refine FnP.intro Tryz.tabOK Tryz.wide_ Tryz.func33 rfl (by decide) rfl (fun X => ?_)
  iterate 2 refine sc rfl ?_
  first|refine so rfl ?_|refine sb rfl ?_
  refine O_le _ (Le.freezebox 1 rfl rfl rfl) ?_
  first|refine so rfl ?_|refine sb rfl ?_
  refine so rfl ?_
  iterate 2 refine sc rfl ?_
  first|refine so rfl ?_|refine sb rfl ?_
  refine so rfl ?_
  iterate 3 refine sc rfl ?_
  first|refine so rfl ?_|refine sb rfl ?_
  refine so rfl ?_
  obtain ⟨o2, ho2, h⟩ := bT h
  refine C_joinP ⟨[(3, I64 o2)], []⟩ True ?_ (fun s hs hp => ?_)
  · refine sc rfl ?_
    refine C_iter (fun s1 : Int × Int => ⟨[(1, .cp [I64 v.kind, I64 v.num, .s v.text, SL 1 INTc v.tags, .sl v.items.length 5 (Val.rows v.items)]), (3, I64 s1.1), (4, I64 s1.2)], []⟩) ho2 (Le.sub [] ⟨rfl, rfl, rfl, trivial⟩ rfl) (fun s1 y3 hy4 hr5 => ?_)
    unfold DeepR_L1 at hy4
    iterate 3 refine sc rfl ?_
    iterate 3 (first|refine so rfl ?_|refine sb rfl ?_)
    refine O_le _ (Le.one 7 (SL 5 Val.c v.items) rfl (.row (Val.rows_eq _))) ?_
    iterate 2 (first|refine so rfl ?_|refine sb rfl ?_)
    refine so rfl ?_
    refine C_if rfl (fun hb7 => ?_) (fun hb7 => ?_)
    · replace hy4 := cT hb7 hy4
      iterate 4 refine sc rfl ?_
      iterate 3 (first|refine so rfl ?_|refine sb rfl ?_)
      refine O_le _ (Le.one 14 (SL 5 Val.c v.items) rfl (.row (Val.rows_eq _))) ?_
      first|refine so rfl ?_|refine sb rfl ?_
      obtain ⟨g8, hy4⟩ := gT hy4
      refine so rfl (And.intro g8 ?_)
      first|refine so rfl ?_|refine sb rfl ?_
      obtain ⟨r9, hr10, hy4⟩ := bT hy4
      refine O_call (hrec _ _ hr10) (by rfl) (by rfl) (by rfl) (by rfl) (fun q11 hq11 => ?_)
      subst hq11
      iterate 3 (first|refine so rfl ?_|refine sb rfl ?_)
      refine so rfl ?_
      refine sc rfl ?_
      iterate 3 (first|refine so rfl ?_|refine sb rfl ?_)
      refine so rfl ?_
      obtain rfl := Option.some.inj hy4
      exact ⟨_, rfl, Le.sub [] ⟨rfl, rfl, rfl, trivial⟩ rfl⟩
    · replace hy4 := cF hb7 hy4
      refine sc rfl ?_
      obtain rfl := Option.some.inj hy4
      have ho22 := hr5 _ rfl
      subst ho22
      exact ⟨Le.sub [] ⟨rfl, trivial⟩ rfl, trivial⟩
  refine C_le ⟨[(3, I64 o2)], []⟩ hs ?_
  iterate 2 refine sc rfl ?_
  iterate 2 (first|refine so rfl ?_|refine sb rfl ?_)
  refine so rfl ?_
  refine sc rfl ?_
  obtain rfl := Option.some.inj h
  exact ⟨_, rfl, rfl, rfl⟩
noncomputable def DeepR_X : Nat → Val → Option (Int)
  | 0 => fun _ => none
  | n + 1 => DeepR_F (DeepR_X n)
theorem DeepR_wn : ∀ (n : Nat) (v : Val) (r : Int), DeepR_X n v = some r → FnP Tryz.prog 33 [.agg (Val.c v)] (· = I64 r)
  | 0, _, _, h => by cases h
  | n + 1, v, r, h => DeepR_wb (DeepR_X n) v r (fun v r hr => DeepR_wn n v r hr) h
end Go.Proofs

namespace Go.Sy
open Go.RowKit

theorem Iter_goS {σ R : Type} {body : σ × Int → Option ((σ × Int) ⊕ R)} (n : Nat) (g : Nat → σ) (e : R) (hb : ∀ i, i < n → body (g i, (i : Int)) = some (.inl (g (i + 1), ((i + 1 : Nat) : Int)))) (he : body (g n, (n : Int)) = some (.inr e)) : Iter body (g 0, 0) = some e := by
  have key : ∀ m k, k + m = n → Iter body (g k, (k : Int)) = some e := by
    intro m
    induction m with
    | zero => intro k hk; obtain rfl : k = n := by omega
              exact Iter_end he
    | succ m ih => intro k hk; rw [Iter_next (hb k (by omega))]; exact ih (k + 1) (by omega)
  exact key n 0 (by omega)
theorem Iter_go {R : Type} {body : Int → Option (Int ⊕ R)} (n : Nat) (e : R) (hb : ∀ i, i < n → body (i : Int) = some (.inl ((i + 1 : Nat) : Int))) (he : body (n : Int) = some (.inr e)) : Iter body 0 = some e := by
  have key : ∀ m k, k + m = n → Iter body (k : Int) = some e := by
    intro m
    induction m with
    | zero => intro k hk; obtain rfl : k = n := by omega
              exact Iter_end he
    | succ m ih => intro k hk; rw [Iter_next (hb k (by omega))]; exact ih (k + 1) (by omega)
  exact key n 0 (by omega)
end Go.Sy

namespace Go.Proofs
open Go.Sy Go.Lib

inductive Lens : Val → Prop
  | mk {v : Val} : v.items.length ≤ 1000 → v.tags.length ≤ 1000 → (∀ i, i < v.items.length → Lens (v.items.getD i default)) → Lens v

theorem bneF {α : Type} [BEq α] [LawfulBEq α] (a : α) : (a != a) = false := by simp
theorem IntsV_same (a : List Int) (ha : a.length ≤ 1000) : IntsV_F a a = some true := by
  unfold IntsV_F
  rw [bneF, cond_false]
  have h := Iter_go (body := IntsV_L2 a a) a.length (.inr ()) (fun i hi => by
    unfold IntsV_L2
    rw [cDT (by omega), chk_pos (by omega), chk_pos (by omega), bneF, cond_false, w64 (by omega) (by omega)]; rfl) (by
    unfold IntsV_L2
    rw [cDF (by omega)])
  rw [h]; rfl

theorem SameR_same : ∀ (m : Nat) (v : Val), SizeOf.sizeOf v ≤ m → Lens v → SameR_X m v v = some true
  | 0, v, hm, _ => by cases v; simp at hm
  | m + 1, v, hm, ⟨h1, h2, h3⟩ => by
    simp only [SameR_X, SameR_F]
    rw [bneF, bneF, bneF, IntsV_same _ h2, show (v.text == v.text) = true from beq_self_eq_true _]
    simp only [cond_false, cond_true, Bool.not_true, Option.bind_some]
    have h := fun m1 => Iter_go (body := SameR_L10 (SameR_X m) v v m1) v.items.length (.inr ()) (fun i hi => by
      unfold SameR_L10
      rw [cDT (by omega), chk_pos (by omega), chk_pos (by omega), Int.toNat_natCast, SameR_same m _ (by have := items_lt hi; omega) (h3 i hi)]
      simp only [Option.bind_some, Bool.not_true, cond_false]
      rw [w64 (by omega) (by omega)]; rfl) (by
      unfold SameR_L10
      rw [cDF (by omega)])
    rw [h]; rfl

theorem take_deep {l : List Val} {i : Nat} (h : i < l.length) : Val.deeps (l.take (i + 1)) = max (Val.deeps (l.take i)) (l.getD i default).deep := by
  rw [List.take_succ_eq_append_getElem h, ← getD_at h, deeps_snoc]

theorem DeepV_tot : ∀ (m : Nat) (v : Val), v.deep ≤ m → v.deep ≤ 1000 → Lens v → DeepV_X m v = some ((v.deep : Nat) : Int)
  | 0, v, hm, _, _ => by rw [deep_eq] at hm; omega
  | m + 1, v, hm, hd, ⟨h1, h2, h3⟩ => by
    simp only [DeepV_X, DeepV_F]
    rw [deep_eq] at hm hd
    have hg := Iter_goS (body := DeepV_L1 (DeepV_X m) v) v.items.length (fun i => ((Val.deeps (v.items.take i) : Nat) : Int)) ((Val.deeps v.items : Nat) : Int) (fun i hi => by
        have h := deeps_ge hi
        unfold DeepV_L1
        rw [cDT (by simp only []; omega), chk_pos (by simp only []; omega), Int.toNat_natCast, DeepV_tot m _ (by omega) (by omega) (h3 i hi)]
        simp only [Option.bind_some]
        rw [w64 (by omega) (by omega), take_deep hi]
        congr 3
        omega) (by
        unfold DeepV_L1
        rw [cDF (by simp only []; omega), List.take_length])
    have e0 : ((Val.deeps (v.items.take 0) : Nat) : Int) = 0 := by rw [List.take_zero]; rfl
    simp only [e0] at hg
    rw [hg]
    simp only [Option.bind_some]
    rw [w64 (by omega) (by omega), deep_eq]
    congr 1; omega

theorem DeepR_tot : ∀ (m : Nat) (v : Val), v.deep ≤ m → v.deep ≤ 1000 → Lens v → DeepR_X m v = some ((v.deep : Nat) : Int)
  | 0, v, hm, _, _ => by rw [deep_eq] at hm; omega
  | m + 1, v, hm, hd, ⟨h1, h2, h3⟩ => by
    simp only [DeepR_X, DeepR_F]
    rw [deep_eq] at hm hd
    have hg := Iter_goS (body := DeepR_L1 (DeepR_X m) v) v.items.length (fun i => (1 + (Val.deeps (v.items.take i) : Nat) : Int)) (1 + (Val.deeps v.items : Nat) : Int) (fun i hi => by
        have h := deeps_ge hi
        unfold DeepR_L1
        rw [cDT (by simp only []; omega), chk_pos (by simp only []; omega), Int.toNat_natCast, DeepR_tot m _ (by omega) (by omega) (h3 i hi)]
        simp only [Option.bind_some]
        rw [w64 (x := 1 + ((v.items.getD i default).deep : Int)) (by omega) (by omega), w64 (by omega) (by omega), take_deep hi]
        congr 3
        omega) (by
        unfold DeepR_L1
        rw [cDF (by simp only []; omega), List.take_length])
    have e0 : (1 + ((Val.deeps (v.items.take 0) : Nat) : Int)) = 1 := by rw [List.take_zero]; rfl
    simp only [e0] at hg
    rw [hg]
    simp only [Option.bind_some]
    rw [deep_eq]
    congr 1

theorem TgdV_rise (most : Int) (v : Val) (hn : v.num = 0) (ht : v.text = []) (hl : v.tags.length = v.items.length) (hlen : v.tags.length ≤ 1000) (hmost : 0 < most → (v.tags.length : Int) = most)
    (hr : v.tags.Pairwise (· < ·)) (hb : ∀ x, x ∈ v.tags → 0 < x ∧ x ≤ 255) : TgdV_F ⟨most⟩ v = some true := by
  unfold TgdV_F
  rw [hn, ht, bneF, show (([] : List UInt8) == []) = true from rfl, hl, bneF]
  simp only [cond_false, Bool.not_true, Option.bind_some]
  have hm : cond (decide (0 < most)) (some ((v.items.length : Int) != most)) (some false) = some false := by
    by_cases h : 0 < most
    · rw [decide_eq_true h, cond_true, ← hmost h, hl, bneF]
    · rw [decide_eq_false h, cond_false]
  rw [hm]
  simp only [Option.bind_some, cond_false]
  let g : Nat → Int := fun i => match i with | 0 => 0 | i + 1 => v.tags.getD i default
  have h := Iter_goS (body := TgdV_L7 ⟨most⟩ v false) v.tags.length g (.inr ()) (fun i hi => by
    unfold TgdV_L7
    have hmem : v.tags.getD i default ∈ v.tags := by rw [getD_at hi]; exact List.getElem_mem hi
    have hbi := hb _ hmem
    have hgt : g i < v.tags.getD i default := by
      cases i with
      | zero => exact hbi.1
      | succ i =>
        show v.tags.getD i default < _
        rw [getD_at (by omega), getD_at hi]
        exact (List.pairwise_iff_getElem.1 hr) i (i + 1) (by omega) hi (by omega)
    rw [cDT (by simp only []; omega), chk_pos (by simp only []; omega), Int.toNat_natCast, cDF (by simp only []; omega), cDF (by omega)]
    simp only []
    rw [w64 (by omega) (by omega)]
    rfl) (by
    unfold TgdV_L7
    rw [cDF (by simp only []; omega)])
  have h' : Iter (TgdV_L7 ⟨most⟩ v false) (0, 0) = some (.inr ()) := h
  rw [h']; rfl

theorem idxF_none (q : Val → Option Bool) : ∀ (l : List Val) (i : Int), (∀ j, j < l.length → q (l.getD j default) = some false) → idxF q l i = some (-1)
  | [], _, _ => rfl
  | x :: l, i, h => by
    simp only [idxF]
    have h0 := h 0 (by simp)
    simp only [List.getD_cons_zero] at h0
    rw [h0]
    simp only [Option.bind_some, cond_false]
    exact idxF_none q l (i + 1) (fun j hj => by have := h (j + 1) (by simpa using hj); simpa using this)
theorem WellV_all (m : Nat) (v : Val) (hl : v.items.length ≤ 1000) (hh : vheadF v = some true) (hi : ∀ i, i < v.items.length → WellV_X m (v.items.getD i default) = some true) : WellV_X (m + 1) v = some true := by
  simp only [WellV_X]
  rw [if_pos (by omega), hh]
  simp only [Option.bind_some, vtailF, cond_true]
  rw [idxF_none _ _ _ (fun j hj => by simp only [vnotq]; rw [hi j hj]; rfl)]
  rfl
end Go.Proofs

namespace Go.Proofs
open Go.Sy Go.Lib

def musts (R : List Fld) : List Fld := R.filter fun f => !(f.ty.kind == 9)
theorem fldF_eq {g : Ty → Val × Bool} : ∀ (R : List Fld) (tg : List Int) (it : List Val), (fldF g R tg it).2 = true → (∀ f, f ∈ musts R → (g f.ty).2 = true) ∧ (fldF g R tg it).1 = ⟨9, 0, [], tg ++ (musts R).map (·.tag), it ++ (musts R).map (fun f => (g f.ty).1)⟩
  | [], tg, it, _ => by simp [musts, fldF]
  | f :: R, tg, it, h => by
    simp only [fldF] at h ⊢
    by_cases hk : f.ty.kind = 9
    · rw [if_pos hk] at h ⊢
      have e : musts (f :: R) = musts R := by simp [musts, hk]
      rw [e]; exact fldF_eq R tg it h
    · rw [if_neg hk] at h ⊢
      have e : musts (f :: R) = f :: musts R := by simp [musts, hk]
      by_cases hg : (g f.ty).2 = true
      · rw [if_pos hg] at h ⊢
        obtain ⟨h1, h2⟩ := fldF_eq R _ _ h
        rw [e, h2]
        refine ⟨fun f' hf' => ?_, by simp⟩
        rcases List.mem_cons.1 hf' with rfl | hf'
        · exact hg
        · exact h1 f' hf'
      · rw [if_neg hg] at h; cases h
theorem firF_eq {g : Ty → Val × Bool} : ∀ (R : List Fld), (firF g R).2 = true → ∃ f, f ∈ R ∧ (g f.ty).2 = true ∧ (firF g R).1 = ⟨10, 0, [], [f.tag], [(g f.ty).1]⟩
  | [], h => by cases h
  | f :: R, h => by
    rw [firF_cons] at h ⊢
    by_cases hg : (g f.ty).2 = true
    · rw [if_pos hg]; exact ⟨f, by simp, hg, rfl⟩
    · rw [if_neg hg] at h ⊢
      obtain ⟨f', h1, h2⟩ := firF_eq R h
      exact ⟨f', List.mem_cons_of_mem _ h1, h2⟩

theorem find_row {R : List Fld} (hp : R.Pairwise (fun a b => a.tag < b.tag)) {f : Fld} (hf : f ∈ R) : R.find? (fun x => x.tag == f.tag) = some f := by
  induction R with
  | nil => cases hf
  | cons x R ih =>
    obtain ⟨p1, p2⟩ := List.pairwise_cons.1 hp
    rcases List.mem_cons.1 hf with rfl | hf
    · simp
    · have := p1 f hf
      rw [List.find?_cons_of_neg (by simp; omega)]
      exact ih p2 hf

theorem FRows_ok (l : List Dcl) (rec : Ty → Val → Option Int) (t : Ty) (v : Val) (hl : v.tags.length = v.items.length) (hlen : v.tags.length ≤ 1000)
    (h : ∀ i, i < v.tags.length → ∃ f, f ∈ rowsU l t.name ∧ f.tag = v.tags.getD i default ∧ rec f.ty (v.items.getD i default) = some 0) (hp : (rowsU l t.name).Pairwise (fun a b => a.tag < b.tag)) : FRows_F l rec t v = some 0 := by
  unfold FRows_F
  have hg := Iter_go (body := FRows_L1 l rec t v) v.tags.length (.inr ()) (fun i hi => by
    obtain ⟨f, h1, h2, h3⟩ := h i hi
    have hr := find_row hp h1
    have hf : DRow_F2 l t.name (v.tags.getD i default) = some (f, true) := by rw [DRow_F2, fldJ, hasJ, ← h2, hr]; rfl
    unfold FRows_L1
    rw [cDT (by omega), chk_pos (by omega), Int.toNat_natCast, hf]
    simp only [Option.bind_some, Bool.not_true, cond_false]
    rw [chk_pos (by omega), h3]
    simp only [Option.bind_some]
    rw [bneF, cond_false, w64 (by omega) (by omega)]; rfl) (by
    unfold FRows_L1
    rw [cDF (by omega)])
  rw [hg]; rfl

theorem musts_take {R : List Fld} {i : Nat} (h : i < R.length) : musts (R.take (i + 1)) = musts (R.take i) ++ (if (R.getD i default).ty.kind = 9 then [] else [R.getD i default]) := by
  rw [List.take_succ_eq_append_getElem h, ← getD_at h]
  unfold musts
  rw [List.filter_append]
  congr 1
  by_cases hk : (R.getD i default).ty.kind = 9
  · rw [if_pos hk]; simp only [List.filter_cons, List.filter_nil]
    rw [show ((R.getD i default).ty.kind == 9) = true from beq_iff_eq.2 hk]; rfl
  · rw [if_neg hk]; simp only [List.filter_cons, List.filter_nil]
    rw [show ((R.getD i default).ty.kind == 9) = false from beq_eq_false_iff_ne.2 hk]; rfl

theorem FWhole_ok (l : List Dcl) (t : Ty) (v : Val) (R : List Fld) (hR : rowsU l t.name = R) (hlen : R.length ≤ 1000) (ht : v.tags = (musts R).map (·.tag)) (hp : R.Pairwise (fun a b => a.tag < b.tag)) : FWhole_F l t v = some 0 := by
  unfold FWhole_F
  rw [DRows_F, hR]
  simp only [Option.bind_some]
  have hml : (musts R).length ≤ R.length := List.length_filter_le _ _
  have hsplit : ∀ i, i < R.length → musts R = musts (R.take i) ++ (if (R.getD i default).ty.kind = 9 then [] else [R.getD i default]) ++ musts (R.drop (i + 1)) := fun i hi => by
    rw [← musts_take hi]
    unfold musts
    rw [← List.filter_append, List.take_append_drop]
  have hg := Iter_goS (body := FWhole_L3 l t v R) R.length (fun i => (((musts (R.take i)).length : Nat) : Int)) (.inr ()) (fun i hi => by
    have hs := hsplit i hi
    have htk := musts_take hi
    have hle : (musts (R.take i)).length ≤ i := by
      have : (musts (R.take i)).length ≤ (R.take i).length := List.length_filter_le _ _
      simp at this; omega
    unfold FWhole_L3
    rw [cDT (by simp only []; omega), chk_pos (by simp only []; omega)]
    simp only []
    rw [Int.toNat_natCast, Int.toNat_natCast]
    by_cases hk : (R.getD i default).ty.kind = 9
    · rw [if_pos hk, List.append_nil] at hs htk
      rw [htk]
      have hno : (musts (R.take i)).length < v.tags.length → v.tags.getD (musts (R.take i)).length default ≠ (R.getD i default).tag := by
        intro hlt heq
        rw [ht] at hlt heq
        have hlt' : (musts (R.take i)).length < (musts R).length := by simpa using hlt
        rw [getD_at hlt, List.getElem_map] at heq
        have hmem : (musts R)[(musts (R.take i)).length]'hlt' ∈ musts (R.drop (i + 1)) := by
          have h1 : (musts R)[(musts (R.take i)).length]'hlt' = (musts (R.take i) ++ musts (R.drop (i + 1)))[(musts (R.take i)).length]'(by rw [← hs]; exact hlt') := by congr 1
          rw [h1, List.getElem_append_right (Nat.le_refl _)]
          exact List.getElem_mem _
        have hm2 : (musts R)[(musts (R.take i)).length]'hlt' ∈ R.drop (i + 1) := (List.mem_filter.1 hmem).1
        have hd : R.drop i = R.getD i default :: R.drop (i + 1) := by rw [List.drop_eq_getElem_cons hi, getD_at hi]
        have hpd : (R.drop i).Pairwise (fun a b => a.tag < b.tag) := hp.sublist (List.drop_sublist _ _)
        rw [hd] at hpd
        have := (List.pairwise_cons.1 hpd).1 _ hm2
        omega
      have e9 : ((R.getD i default).ty.kind != 9) = false := by rw [hk]; rfl
      by_cases c : (musts (R.take i)).length < v.tags.length
      · rw [cDT (by omega), chk_pos (by omega), beq_eq_false_iff_ne.2 (hno c), cond_false, e9, cond_false, w64 (by omega) (by omega)]; rfl
      · rw [cDF (by omega), e9, cond_false, w64 (by omega) (by omega)]; rfl
    · rw [if_neg hk] at hs htk
      have hlt : (musts (R.take i)).length < v.tags.length := by
        rw [ht, List.length_map, hs]; simp
      have heq : v.tags.getD (musts (R.take i)).length default = (R.getD i default).tag := by
        rw [getD_at hlt]
        simp only [ht, List.getElem_map]
        congr 1
        have h1 : (musts R)[(musts (R.take i)).length]'(by rw [ht] at hlt; simpa using hlt) = (musts (R.take i) ++ ([R.getD i default] ++ musts (R.drop (i + 1))))[(musts (R.take i)).length]'(by simp) := by
          congr 1
          rw [← List.append_assoc]; exact hs
        rw [h1, List.getElem_append_right (Nat.le_refl _)]
        simp
      rw [cDT (by omega), chk_pos (by omega), beq_iff_eq.2 heq, cond_true, w64 (by omega) (by omega), w64 (by omega) (by omega), htk]
      simp) (by
    unfold FWhole_L3
    rw [cDF (by simp only []; omega)])
  have h' : Iter (FWhole_L3 l t v R) (0, 0) = some (.inr ()) := hg
  rw [h']; rfl
end Go.Proofs

namespace Go.Proofs
open Go.Sy Go.Lib

theorem tags_rng {l : List Dcl} (hW : WellL l) {nm : List UInt8} {f : Fld} (hf : f ∈ fldsL l nm) : leastD (kindL l nm) ≤ f.tag ∧ f.tag ≤ mostD (kindL l nm) := by
  unfold fldsL at hf
  unfold kindL
  cases hj : fndL nm l with
  | none => rw [hj] at hf; simp at hf
  | some j =>
    rw [hj] at hf
    exact (hW j (fndL_lt hj)).fs.rng f hf
theorem union_ty {l : List Dcl} (hW : WellL l) {nm : List UInt8} {f : Fld} (hf : f ∈ fldsL l nm) (hk : kindL l nm = 2) : f.ty.kind ≠ 9 := by
  unfold fldsL at hf
  unfold kindL at hk
  cases hj : fndL nm l with
  | none => rw [hj] at hf; simp at hf
  | some j =>
    rw [hj] at hf hk
    exact ((hW j (fndL_lt hj)).fs.ty f hf (by simp only [] at hk; omega)).2 hk

theorem well_flat (m : Nat) (k : Int) (h : (1 ≤ k ∧ k ≤ 5) ∨ k = 7 ∨ k = 8) : WellV_X (m + 1) ⟨k, 0, [], [], []⟩ = some true := by
  refine WellV_all m _ (Nat.zero_le _) ?_ (fun i hi => absurd hi (Nat.not_lt_zero _))
  obtain rfl | rfl | rfl | rfl | rfl | rfl | rfl : k = 1 ∨ k = 2 ∨ k = 3 ∨ k = 4 ∨ k = 5 ∨ k = 7 ∨ k = 8 := by omega
  · rfl
  · rfl
  · rfl
  · simp only [vheadF, WdsV_F, ValidV_F]; rfl
  · rfl
  · rfl
  · simp only [vheadF, PrsV_F]
    have h := Iter_go (body := PrsV_L7 ⟨⟩ ⟨8, 0, [], [], []⟩ false) 0 (.inr ()) (fun i hi => absurd hi (Nat.not_lt_zero _)) rfl
    show Option.bind (Iter (PrsV_L7 ⟨⟩ ⟨8, 0, [], [], []⟩ false) 0) _ = _
    rw [h]; rfl

theorem fits_six {l : List Dcl} {m : Nat} {t : Ty} (h6 : t.kind = 6) (v : Val) : FFits_X l (m + 1) t v = Option.bind (FNamed_F l (FFits_X l m) t v) some := by
  simp only [FFits_X, FFits_F]
  rw [h6]; rfl

theorem by_good {l : List Dcl} (hP : Prep l) (hW : WellL l) (hex : ∃ Rs, RowsOK l Rs) : ∀ (d m : Nat) (t : Ty) (v : Val), SizeOf.sizeOf t ≤ m → (t.kind = 6 ∨ ∃ b, TyOK l b t) → byF l d t = (v, true) →
    Lens v ∧ v.deep ≤ d ∧ (∀ n, d ≤ n → WellV_X n v = some true) ∧ (t.kind ≠ 9 → ∀ n, d ≤ n → FFits_X l n t v = some 0)
  | 0, _, t, v, _, _, h => by cases h
  | d + 1, 0, t, v, hm, _, _ => by cases t; simp at hm
  | d + 1, m + 1, t, v, hm, hT, h => by
    have hpw := rowsU_pw hW hex t.name
    have hrl : (rowsU l t.name).length ≤ 1000 := (fewU (nm := t.name) hP hW hex).1
    have hrec := fun (f : Fld) (hf : f ∈ rowsU l t.name) (hk3 : kindL l t.name ≠ 3) (v' : Val) (h' : byF l d f.ty = (v', true)) => by_good hP hW hex d _ f.ty v' (Nat.le_refl _) (.inr ⟨_, (flds_facts hW t.name).2.2 f ((rowsU_mem hW hex).1 hf) hk3⟩) h'
    simp only [byF] at h
    rw [plF_eq] at h
    by_cases h6 : t.kind = 6
    · rw [if_pos h6] at h
      unfold namF at h
      by_cases k3 : kindL l t.name = 3
      · rw [if_pos k3] at h
        have hv : v = ⟨6, ((rowsU l t.name).getD 0 default).tag, [], [], []⟩ := (congrArg Prod.fst h).symm
        have hne := rowsU_ne hW hex k3
        have hmem := mem_getDf (l := rowsU l t.name) hne
        obtain ⟨r1, r2⟩ := tags_rng hW ((rowsU_mem hW hex).1 hmem)
        rw [k3] at r1 r2
        have r1' : 0 ≤ ((rowsU l t.name).getD 0 default).tag := r1
        have r2' : ((rowsU l t.name).getD 0 default).tag ≤ 9999 := r2
        subst hv
        refine ⟨.mk (Nat.zero_le _) (Nat.zero_le _) (fun i hi => absurd hi (Nat.not_lt_zero _)), by rw [deep_eq]; simp [Val.deeps], fun n hn => ?_, fun _ n hn => ?_⟩
        · obtain ⟨n, rfl⟩ : ∃ k, n = k + 1 := ⟨n - 1, by omega⟩
          refine WellV_all n _ (Nat.zero_le _) ?_ (fun i hi => absurd hi (Nat.not_lt_zero _))
          show SglV_F ⟨0, 9999⟩ _ = _
          simp only [SglV_F, BareV_F]
          rw [cDT (p := (0 : Int) ≤ ((rowsU l t.name).getD 0 default).tag) r1', decide_eq_true r2']
          rfl
        · obtain ⟨n, rfl⟩ : ∃ k, n = k + 1 := ⟨n - 1, by omega⟩
          rw [fits_six h6]
          have hr := find_row hpw hmem
          have hf : DRow_F2 l t.name ((rowsU l t.name).getD 0 default).tag = some ((rowsU l t.name).getD 0 default, true) := by rw [DRow_F2, fldJ, hasJ, hr]; rfl
          have hn : FNamed_F l (FFits_X l n) t ⟨6, ((rowsU l t.name).getD 0 default).tag, [], [], []⟩ = some 0 := by
            simp only [FNamed_F, DKind_F]
            rw [k3]
            show Option.bind (DRow_F2 l t.name ((rowsU l t.name).getD 0 default).tag) (fun r6 => cond (!r6.2) (some 9) (some 0)) = _
            rw [hf]; rfl
          rw [hn]; rfl
      rw [if_neg k3] at h
      by_cases k1 : kindL l t.name = 1
      · rw [if_pos k1] at h
        have hok : (fldF (byF l d) (rowsU l t.name) [] []).2 = true := by rw [h]
        obtain ⟨h1, h2⟩ := fldF_eq _ _ _ hok
        rw [h] at h2
        simp only [List.nil_append] at h2
        have hml : (musts (rowsU l t.name)).length ≤ (rowsU l t.name).length := List.length_filter_le _ _
        have hsub : ∀ f, f ∈ musts (rowsU l t.name) → f ∈ rowsU l t.name ∧ f.ty.kind ≠ 9 := fun f hf => by
          obtain ⟨g1, g2⟩ := List.mem_filter.1 hf
          exact ⟨g1, by simpa using g2⟩
        have hit : ∀ i, i < (musts (rowsU l t.name)).length → ∃ f, f ∈ musts (rowsU l t.name) ∧ f.tag = v.tags.getD i default ∧ byF l d f.ty = (v.items.getD i default, true) := fun i hi => by
          refine ⟨(musts (rowsU l t.name))[i], List.getElem_mem hi, ?_, ?_⟩
          · rw [h2, getD_at (by simpa using hi)]; simp
          · rw [h2, getD_at (by simpa using hi)]
            simp only [List.getElem_map]
            exact Prod.ext rfl (h1 _ (List.getElem_mem hi))
        have hlen1 : v.tags.length = (musts (rowsU l t.name)).length := by rw [h2]; simp
        have hlen2 : v.items.length = (musts (rowsU l t.name)).length := by rw [h2]; simp
        have IH : ∀ i, i < v.items.length → Lens (v.items.getD i default) ∧ (v.items.getD i default).deep ≤ d ∧ (∀ n, d ≤ n → WellV_X n (v.items.getD i default) = some true) := fun i hi => by
          obtain ⟨f, f1, f2, f3⟩ := hit i (by omega)
          have := hrec f (hsub f f1).1 k3 _ f3
          exact ⟨this.1, this.2.1, this.2.2.1⟩
        have hvk : v.kind = 9 ∧ v.num = 0 ∧ v.text = [] ∧ v.tags = (musts (rowsU l t.name)).map (·.tag) := by rw [h2]; exact ⟨rfl, rfl, rfl, rfl⟩
        have hpt : v.tags.Pairwise (· < ·) := by
          rw [hvk.2.2.2, List.pairwise_map]
          exact hpw.sublist List.filter_sublist
        refine ⟨.mk (by omega) (by omega) (fun i hi => (IH i hi).1), ?_, fun n hn => ?_, fun _ n hn => ?_⟩
        · rw [deep_eq]
          have := deeps_le (l := v.items) (d := d) (fun i hi => (IH i hi).2.1)
          omega
        · obtain ⟨n, rfl⟩ : ∃ k, n = k + 1 := ⟨n - 1, by omega⟩
          refine WellV_all n _ (by omega) ?_ (fun i hi => (IH i hi).2.2 n (by omega))
          unfold vheadF
          rw [hvk.1]
          refine TgdV_rise 0 v hvk.2.1 hvk.2.2.1 (by omega) (by omega) (fun h => absurd h (by decide)) hpt (fun x hx => ?_)
          rw [hvk.2.2.2] at hx
          obtain ⟨f, hf, rfl⟩ := List.mem_map.1 hx
          have := tags_rng hW ((rowsU_mem hW hex).1 (hsub f hf).1)
          rw [k1] at this
          have a1 : (1 : Int) ≤ f.tag := this.1
          have a2 : f.tag ≤ 255 := this.2
          omega
        · obtain ⟨n, rfl⟩ : ∃ k, n = k + 1 := ⟨n - 1, by omega⟩
          rw [fits_six h6]
          simp only [FNamed_F, DKind_F]
          rw [k1, hvk.1]
          have hr := FRows_ok l (FFits_X l n) t v (by omega) (by omega) (fun i hi => by
            obtain ⟨f, f1, f2, f3⟩ := hit i (by omega)
            exact ⟨f, (hsub f f1).1, f2, (hrec f (hsub f f1).1 k3 _ f3).2.2.2 (hsub f f1).2 n (by omega)⟩) hpw
          have hw := FWhole_ok l t v _ rfl hrl hvk.2.2.2 hpw
          show Option.bind (Option.bind (FRows_F l (FFits_X l n) t v) _) some = _
          rw [hr]
          show Option.bind (Option.bind (FWhole_F l t v) some) some = _
          rw [hw]; rfl
      rw [if_neg k1] at h
      by_cases k2 : kindL l t.name = 2
      · rw [if_pos k2] at h
        have hok : (firF (byF l d) (rowsU l t.name)).2 = true := by rw [h]
        obtain ⟨f, f1, f2, f3⟩ := firF_eq _ hok
        rw [h] at f3
        simp only [] at f3
        have hby : byF l d f.ty = ((byF l d f.ty).1, true) := Prod.ext rfl f2
        obtain ⟨i1, i2, i3, i4⟩ := hrec f f1 k3 _ hby
        have hf9 := union_ty hW ((rowsU_mem hW hex).1 f1) k2
        have hrg := tags_rng hW ((rowsU_mem hW hex).1 f1)
        rw [k2] at hrg
        have a1 : (1 : Int) ≤ f.tag := hrg.1
        have a2 : f.tag ≤ 255 := hrg.2
        obtain ⟨x, hx⟩ : ∃ x, (byF l d f.ty).1 = x := ⟨_, rfl⟩
        rw [hx] at f3 i1 i2 i3 i4
        subst f3
        have hI : ∀ i, i < 1 → ([x] : List Val).getD i default = x := fun i hi => by
          obtain rfl : i = 0 := by omega
          rfl
        refine ⟨.mk (Nat.le_trans (Nat.le_refl 1) (by decide)) (Nat.le_trans (Nat.le_refl 1) (by decide)) (fun i hi => by simp only []; rw [hI i hi]; exact i1), ?_, fun n hn => ?_, fun _ n hn => ?_⟩
        · rw [deep_eq]; simp [Val.deeps]; omega
        · obtain ⟨n, rfl⟩ : ∃ k, n = k + 1 := ⟨n - 1, by omega⟩
          refine WellV_all n _ (Nat.le_trans (Nat.le_refl 1) (by decide)) ?_ (fun i hi => by simp only []; rw [hI i hi]; exact i3 n (by omega))
          unfold vheadF
          exact TgdV_rise 1 ⟨10, 0, [], [f.tag], [x]⟩ rfl rfl rfl (Nat.le_trans (Nat.le_refl 1) (by decide)) (fun _ => rfl) (List.pairwise_singleton ..) (fun y hy => by
            simp only [List.mem_singleton] at hy
            subst hy; omega)
        · obtain ⟨n, rfl⟩ : ∃ k, n = k + 1 := ⟨n - 1, by omega⟩
          rw [fits_six h6]
          simp only [FNamed_F, DKind_F]
          rw [k2]
          have hr := FRows_ok l (FFits_X l n) t ⟨10, 0, [], [f.tag], [x]⟩ rfl (Nat.le_trans (Nat.le_refl 1) (by decide)) (fun i hi => by
            have hi' : i < 1 := hi
            obtain rfl : i = 0 := by omega
            exact ⟨f, f1, rfl, i4 hf9 n (by omega)⟩) hpw
          show Option.bind (Option.bind (FRows_F l (FFits_X l n) t ⟨10, 0, [], [f.tag], [x]⟩) _) some = _
          rw [hr]; rfl
      · rw [if_neg k2] at h; cases h
    rw [if_neg h6] at h
    by_cases hp : (1 ≤ t.kind ∧ t.kind ≤ 5 ∧ t.of.length = 0) ∨ (t.kind = 7 ∧ t.of.length = 1) ∨ (t.kind = 8 ∧ t.of.length = 2)
    · rw [if_pos hp] at h
      have hv : v = ⟨t.kind, 0, [], [], []⟩ := (congrArg Prod.fst h).symm
      subst hv
      refine ⟨.mk (Nat.zero_le _) (Nat.zero_le _) (fun i hi => absurd hi (Nat.not_lt_zero _)), by rw [deep_eq]; simp [Val.deeps], fun n hn => ?_, fun _ n hn => ?_⟩
      · obtain ⟨n, rfl⟩ : ∃ k, n = k + 1 := ⟨n - 1, by omega⟩
        exact well_flat n _ (by omega)
      · obtain ⟨n, rfl⟩ : ∃ k, n = k + 1 := ⟨n - 1, by omega⟩
        simp only [FFits_X, FFits_F]
        rcases hp with ⟨p1, p2, _⟩ | ⟨p1, p2⟩ | ⟨p1, p2⟩
        · obtain e | e | e | e | e : t.kind = 1 ∨ t.kind = 2 ∨ t.kind = 3 ∨ t.kind = 4 ∨ t.kind = 5 := by omega
          all_goals (rw [e]; rfl)
        · rw [p1]
          simp only [FList_F]
          rw [p1, p2]
          have hg := Iter_go (body := FEach_L1 l (FFits_X l n) (t.of.getD (Int.toNat 0) default) []) 0 (.inr ()) (fun i hi => absurd hi (Nat.not_lt_zero _)) rfl
          show Option.bind (Option.bind (FEach_F l (FFits_X l n) (t.of.getD (Int.toNat 0) default) []) some) some = _
          unfold FEach_F
          rw [hg]; rfl
        · rw [p1]
          simp only [FList_F]
          rw [p1, p2]
          have hg := Iter_go (body := FList_L9 l (FFits_X l n) t ⟨8, 0, [], [], []⟩) 0 (.inr ()) (fun i hi => absurd hi (Nat.not_lt_zero _)) rfl
          show Option.bind (Option.bind (Iter (FList_L9 l (FFits_X l n) t ⟨8, 0, [], [], []⟩) 0) _) some = _
          rw [hg]; rfl
    rw [if_neg hp] at h
    by_cases h9 : t.kind = 9 ∧ t.of.length = 1
    · rw [if_pos h9] at h
      obtain ⟨b, hT⟩ := hT.resolve_left h6
      have := by_good hP hW hex (d + 1) m (t.of.getD 0 default) v (by have := of_lt (t := t) (i := 0) (by omega); omega) (.inr ⟨true, (arity_of hT).2 0 (by omega)⟩) (by simp only [byF]; exact h)
      exact ⟨this.1, this.2.1, this.2.2.1, fun h => absurd h9.1 h⟩
    · rw [if_neg h9] at h; cases h
end Go.Proofs

namespace Go.Proofs
open Go.Sy Go.Lib

theorem by_isof {l : List Dcl} (hP : Prep l) (hW : WellL l) (hex : ∃ Rs, RowsOK l Rs) : ∀ (d m : Nat) (t : Ty) (v : Val), SizeOf.sizeOf t ≤ m → (t.kind = 6 ∨ ∃ b, TyOK l b t) → byF l d t = (v, true) → Isof l t v
  | 0, _, t, v, _, _, h => by cases h
  | d + 1, 0, t, v, hm, _, _ => by cases t; simp at hm
  | d + 1, m + 1, t, v, hm, hT, h => by
    have hrec := fun (f : Fld) (hf : f ∈ rowsU l t.name) (hk3 : kindL l t.name ≠ 3) (v' : Val) (h' : byF l d f.ty = (v', true)) => by_isof hP hW hex d _ f.ty v' (Nat.le_refl _) (.inr ⟨_, (flds_facts hW t.name).2.2 f ((rowsU_mem hW hex).1 hf) hk3⟩) h'
    simp only [byF] at h
    rw [plF_eq] at h
    by_cases h6 : t.kind = 6
    · rw [if_pos h6] at h
      unfold namF at h
      by_cases k3 : kindL l t.name = 3
      · exact .enm h6 k3
      rw [if_neg k3] at h
      by_cases k1 : kindL l t.name = 1
      · rw [if_pos k1] at h
        have hok : (fldF (byF l d) (rowsU l t.name) [] []).2 = true := by rw [h]
        obtain ⟨h1, h2⟩ := fldF_eq _ _ _ hok
        rw [h] at h2
        simp only [List.nil_append] at h2
        refine Isof.str' h6 k1 (fun f hf h9 => ?_)
        have hfm : f ∈ musts (rowsU l t.name) := List.mem_filter.2 ⟨(rowsU_mem hW hex).2 hf, by simpa using h9⟩
        obtain ⟨i, hi, he⟩ := List.mem_iff_getElem.1 hfm
        refine ⟨i, by rw [h2]; simpa using hi, ?_⟩
        rw [h2, getD_at (by simpa using hi)]
        simp only [List.getElem_map]
        rw [he]
        exact hrec f ((rowsU_mem hW hex).2 hf) k3 _ (Prod.ext rfl (h1 f hfm))
      rw [if_neg k1] at h
      by_cases k2 : kindL l t.name = 2
      · rw [if_pos k2] at h
        have hok : (firF (byF l d) (rowsU l t.name)).2 = true := by rw [h]
        obtain ⟨f, f1, f2, f3⟩ := firF_eq _ hok
        rw [h] at f3
        simp only [] at f3
        refine .uni f h6 k2 ((rowsU_mem hW hex).1 f1) (by rw [f3]; exact Nat.zero_lt_one) ?_
        rw [f3]
        exact hrec f f1 k3 _ (Prod.ext rfl f2)
      · rw [if_neg k2] at h; cases h
    rw [if_neg h6] at h
    by_cases hp : (1 ≤ t.kind ∧ t.kind ≤ 5 ∧ t.of.length = 0) ∨ (t.kind = 7 ∧ t.of.length = 1) ∨ (t.kind = 8 ∧ t.of.length = 2)
    · rcases hp with ⟨p1, p2, _⟩ | ⟨p1, p2⟩ | ⟨p1, p2⟩
      · exact .flat p1 p2
      · exact .lst p1
      · exact .mp p1
    rw [if_neg hp] at h
    by_cases h9 : t.kind = 9 ∧ t.of.length = 1
    · rw [if_pos h9] at h
      obtain ⟨b, hT⟩ := hT.resolve_left h6
      exact .opt h9.1 (by_isof hP hW hex (d + 1) m (t.of.getD 0 default) v (by have := of_lt (t := t) (i := 0) (by omega); omega) (.inr ⟨true, (arity_of hT).2 0 (by omega)⟩) (by simp only [byF]; exact h))
    · rw [if_neg h9] at h; cases h

theorem typG_cases (l : List Dcl) (t : Ty) : ∀ (k n : Nat), typG l t k n = (zV, 0) ∨ ∃ j v, n ≤ j ∧ j < n + k ∧ typG l t k n = (v, ((j + 1 : Nat) : Int)) ∧ byF l (j + 1) t = (v, true)
  | 0, n => .inl rfl
  | k + 1, n => by
    rw [typG_step]
    by_cases h : (byF l (n + 1) t).2 = true
    · rw [if_pos h]
      exact .inr ⟨n, (byF l (n + 1) t).1, Nat.le_refl _, by omega, rfl, Prod.ext rfl h⟩
    · rw [if_neg h]
      rcases typG_cases l t k (n + 1) with h | ⟨j, v, h1, h2, h3, h4⟩
      · exact .inl h
      · exact .inr ⟨j, v, by omega, by omega, h3, h4⟩

theorem strF_good {l : List Dcl} (hP : Prep l) (hW : WellL l) (nm : List UInt8) (hex : kindL l nm = 1 → ∃ Rs, RowsOK l Rs) : strF l nm = (zV, 0) ∨ ∃ v : Val, strF l nm = (v, ((v.deep : Nat) : Int)) ∧ v.deep ≤ 8 ∧ 1 ≤ v.deep ∧ Lens v ∧ FitStruct_F l nm v = some 0 := by
  by_cases hk : kindL l nm = 1
  · have hex' := hex hk
    rcases typG_cases l ⟨6, nm, []⟩ 8 0 with h | ⟨j, v, h1, h2, h3, h4⟩
    · exact .inl (by rw [strF, if_pos hk, h])
    · right
      obtain ⟨g1, g2, g3, g4⟩ := by_good hP hW hex' (j + 1) _ ⟨6, nm, []⟩ v (Nat.le_refl _) (.inl rfl) h4
      have hI := by_isof hP hW hex' (j + 1) _ ⟨6, nm, []⟩ v (Nat.le_refl _) (.inl rfl) h4
      have hs : strF l nm = (v, ((j + 1 : Nat) : Int)) := by rw [strF, if_pos hk, h3]
      have hle := strF_le hW hex' hk hI (by omega)
      rw [hs] at hle
      have hd : v.deep = j + 1 := by have := hle.2; simp only [] at this; omega
      refine ⟨v, by rw [hs, hd], by omega, by omega, g1, ?_⟩
      unfold FitStruct_F
      rw [DKind_F, hk]
      simp only [Option.bind_some]
      rw [show ((1 : Int) != 1) = false from rfl, cond_false]
      unfold FitFits_F
      rw [g3 FU (by show j + 1 ≤ 100000; omega), DeepV_tot FU v (by show v.deep ≤ 100000; omega) (by omega) g1]
      simp only [Option.bind_some, Bool.not_true, cond_false]
      rw [cDF (by omega), g4 (show (6 : Int) ≠ 9 by decide) FU (by show j + 1 ≤ 100000; omega)]
      rfl
  · exact .inl (by rw [strF, if_neg hk])
end Go.Proofs

namespace Go.Proofs
open Go.Sy Go.Lib

theorem DKind_nilZ (nm : List UInt8) : FnP Tryz.prog 82 [.v (.pointer none), .s nm] (· = I64 0) := by
  refine FnP.intro Tryz.tabOK Tryz.wide_ Tryz.func82 rfl (by decide) rfl (fun X => ?_)
  repeat (first|refine sc rfl ?_|refine so rfl ?_|refine sb rfl ?_)
  refine O_Xd (X_ptrnil Tryz.underlying48 rfl rfl rfl) ?_
  repeat (first|refine sc rfl ?_|refine so rfl ?_|refine sb rfl ?_)
  refine C_true rfl rfl ?_
  repeat (first|refine sc rfl ?_|refine so rfl ?_|refine sb rfl ?_)
  exact ⟨_, rfl, rfl, rfl⟩
theorem BStruct_nil (nm : List UInt8) : FnP Tryz.prog 32 [.v (.pointer none), .s nm] (· = .tup [.agg (Val.c zV), I64 0]) := by
  refine FnP.intro Tryz.tabOK Tryz.wide_ Tryz.func32 rfl (by decide) rfl (fun X => ?_)
  repeat (first|refine sc rfl ?_|refine so rfl ?_|refine sb rfl ?_)
  refine O_call (DKind_nilZ nm) (by rfl) (by rfl) (by rfl) (by rfl) (fun r hr => ?_)
  subst hr
  repeat (first|refine sc rfl ?_|refine so rfl ?_|refine sb rfl ?_)
  refine C_true rfl rfl ?_
  repeat (first | refine O_le _ (Le.agg 10 (Val.c zV) rfl (.cons .refl (.cons .refl (.cons .refl (.cons .nil (.cons .nil .nil)))))) ?_ | refine sc rfl ?_ | refine so rfl ?_ | refine sb rfl ?_)
  exact ⟨_, rfl, rfl, rfl⟩
theorem RStruct_nil (nm : List UInt8) : FnP Tryz.prog 46 [SL 5 Dcl.c [], .s nm] (· = .tup [.agg (Val.c zV), I64 0]) := by
  have h := RStruct_c (l := []) ⟨Nat.zero_le _, fun i hi => absurd hi (Nat.not_lt_zero _)⟩ (fun i hi => absurd hi (Nat.not_lt_zero _)) nm (fun h => absurd (show (0 : Int) = 1 from h) (by decide))
  have e : strF [] nm = (zV, 0) := by rw [strF, if_neg (by show ¬ (0 : Int) = 1; decide)]
  rw [e] at h
  exact h
theorem lens_zV : Lens zV := .mk (Nat.zero_le _) (Nat.zero_le _) (fun i hi => absurd hi (Nat.not_lt_zero _))
theorem Same_same (v : Val) (hv : Lens v) : FnP Tryz.prog 47 [.agg (Val.c v), .agg (Val.c v)] (· = B true) := SameR_wn _ v v _ (SameR_same _ v (Nat.le_refl _) hv)

theorem blankStructs_A (m : Int) (l : List Dcl) (nm : List UInt8) : FnA Tryz.prog 9 [SL 5 Dcl.c l, .s nm] [glbA m] (fun r cs' => r = B true ∧ cs' = [glbA m]) := by
  refine FnA.intro Tryz.tabOK Tryz.wide_ Tryz.func9 rfl (by decide) rfl (fun X => ?_)
  repeat (first|refine sc rfl ?_|refine so rfl ?_|refine sb rfl ?_)
  refine O_call (Great_c l) (by rfl) (by rfl) (by rfl) (by rfl) (fun r hr => ?_)
  obtain ⟨g, rfl, hg⟩ := hr
  repeat (first|refine sc rfl ?_|refine so rfl ?_|refine sb rfl ?_)
  have aw := awake19_A m
  cases g with
  | true =>
    repeat (first|refine sc rfl ?_|refine so rfl ?_|refine sb rfl ?_)
    refine C_true rfl rfl ?_
    repeat (first|refine sc rfl ?_|refine so rfl ?_|refine sb rfl ?_)
    first
      | refine O_callA [0] (aw) (by rfl) (by rfl) (by rfl) (by rfl) (by rfl) ?_
      | refine O_callA [1] (aw) (by rfl) (by rfl) (by rfl) (by rfl) (by rfl) ?_
      | refine O_callA [2] (aw) (by rfl) (by rfl) (by rfl) (by rfl) (by rfl) ?_
      | refine O_callA [3] (aw) (by rfl) (by rfl) (by rfl) (by rfl) (by rfl) ?_
      | refine O_callA [4] (aw) (by rfl) (by rfl) (by rfl) (by rfl) (by rfl) ?_
    rintro r cs' ⟨rfl, rfl⟩
    repeat (first|refine sc rfl ?_|refine so rfl ?_|refine sb rfl ?_)
    first
      | exact ⟨_, [_], _, rfl, pickA_perm (is := [0]) (As := [_]) rfl, rfl, rfl, rfl⟩
      | exact ⟨_, [_], _, rfl, pickA_perm (is := [1]) (As := [_]) rfl, rfl, rfl, rfl⟩
      | exact ⟨_, [_], _, rfl, pickA_perm (is := [2]) (As := [_]) rfl, rfl, rfl, rfl⟩
      | exact ⟨_, [_], _, rfl, pickA_perm (is := [3]) (As := [_]) rfl, rfl, rfl, rfl⟩
      | exact ⟨_, [_], _, rfl, pickA_perm (is := [4]) (As := [_]) rfl, rfl, rfl, rfl⟩
  | false =>
    have hL := hg rfl
    refine C_false rfl rfl ?_
    repeat (first|refine sc rfl ?_|refine so rfl ?_|refine sb rfl ?_)
    refine O_callA [] (MadeZ_A l hL.1) (by rfl) (by rfl) (by rfl) (by rfl) (by rfl) ?_
    rintro r cs' (⟨rfl, rfl⟩ | ⟨b, rfl, hW, rfl⟩)
    · repeat (first|refine sc rfl ?_|refine so rfl ?_|refine sb rfl ?_)
      refine O_le _ (Le.conv 6 (y := SL 5 Dcl.c []) rfl (fun e v h => by simp only [Rep] at h ⊢; exact repI_nil (by simpa only [RepI] using h))) ?_
      refine O_call (BStruct_nil nm) (by rfl) (by rfl) (by rfl) (by rfl) (fun r hr => ?_)
      subst hr
      repeat (first|refine sc rfl ?_|refine so rfl ?_|refine sb rfl ?_)
      refine O_call (RStruct_nil nm) (by rfl) (by rfl) (by rfl) (by rfl) (fun r hr => ?_)
      subst hr
      repeat (first|refine sc rfl ?_|refine so rfl ?_|refine sb rfl ?_)
      refine O_call (Same_same zV lens_zV) (by rfl) (by rfl) (by rfl) (by rfl) (fun r hr => ?_)
      subst hr
      repeat (first|refine sc rfl ?_|refine so rfl ?_|refine sb rfl ?_)
      refine C_false rfl (bneF _) ?_
      repeat (first|refine sc rfl ?_|refine so rfl ?_|refine sb rfl ?_)
      first
        | refine O_callA [0] (aw) (by rfl) (by rfl) (by rfl) (by rfl) (by rfl) ?_
        | refine O_callA [1] (aw) (by rfl) (by rfl) (by rfl) (by rfl) (by rfl) ?_
        | refine O_callA [2] (aw) (by rfl) (by rfl) (by rfl) (by rfl) (by rfl) ?_
        | refine O_callA [3] (aw) (by rfl) (by rfl) (by rfl) (by rfl) (by rfl) ?_
        | refine O_callA [4] (aw) (by rfl) (by rfl) (by rfl) (by rfl) (by rfl) ?_
      rintro r cs' ⟨rfl, rfl⟩
      repeat (first|refine sc rfl ?_|refine so rfl ?_|refine sb rfl ?_)
      first
        | exact ⟨_, [_], _, rfl, pickA_perm (is := [0]) (As := [_]) rfl, rfl, rfl, rfl⟩
        | exact ⟨_, [_], _, rfl, pickA_perm (is := [1]) (As := [_]) rfl, rfl, rfl, rfl⟩
        | exact ⟨_, [_], _, rfl, pickA_perm (is := [2]) (As := [_]) rfl, rfl, rfl, rfl⟩
        | exact ⟨_, [_], _, rfl, pickA_perm (is := [3]) (As := [_]) rfl, rfl, rfl, rfl⟩
        | exact ⟨_, [_], _, rfl, pickA_perm (is := [4]) (As := [_]) rfl, rfl, rfl, rfl⟩
    · repeat (first|refine sc rfl ?_|refine so rfl ?_|refine sb rfl ?_)
      have hP : Prep l := ⟨hL.1, fun i hi => by have := hL.2 i hi; omega, fun i hi => (hW.1 i hi).at_⟩
      first
        | refine O_callA [0] (BStruct_A b l hP hW.1 nm) (by rfl) (by rfl) (by rfl) (by rfl) (by rfl) ?_
        | refine O_callA [1] (BStruct_A b l hP hW.1 nm) (by rfl) (by rfl) (by rfl) (by rfl) (by rfl) ?_
        | refine O_callA [2] (BStruct_A b l hP hW.1 nm) (by rfl) (by rfl) (by rfl) (by rfl) (by rfl) ?_
        | refine O_callA [3] (BStruct_A b l hP hW.1 nm) (by rfl) (by rfl) (by rfl) (by rfl) (by rfl) ?_
        | refine O_callA [4] (BStruct_A b l hP hW.1 nm) (by rfl) (by rfl) (by rfl) (by rfl) (by rfl) ?_
      rintro r cs' ⟨⟨rfl, rfl⟩, hex⟩
      repeat (first|refine sc rfl ?_|refine so rfl ?_|refine sb rfl ?_)
      refine O_call (RStruct_c hL.1 hW.1 nm hex) (by rfl) (by rfl) (by rfl) (by rfl) (fun r hr => ?_)
      subst hr
      rcases strF_good hP hW.1 nm hex with hs | ⟨v, hs, hd8, hd1, hv, hfit⟩
      · rw [hs]
        repeat (first|refine sc rfl ?_|refine so rfl ?_|refine sb rfl ?_)
        refine O_call (Same_same zV lens_zV) (by rfl) (by rfl) (by rfl) (by rfl) (fun r hr => ?_)
        subst hr
        repeat (first|refine sc rfl ?_|refine so rfl ?_|refine sb rfl ?_)
        refine C_false rfl (bneF _) ?_
        repeat (first|refine sc rfl ?_|refine so rfl ?_|refine sb rfl ?_)
        first
          | refine O_callA [0] (aw) (by rfl) (by rfl) (by rfl) (by rfl) (by rfl) ?_
          | refine O_callA [1] (aw) (by rfl) (by rfl) (by rfl) (by rfl) (by rfl) ?_
          | refine O_callA [2] (aw) (by rfl) (by rfl) (by rfl) (by rfl) (by rfl) ?_
          | refine O_callA [3] (aw) (by rfl) (by rfl) (by rfl) (by rfl) (by rfl) ?_
          | refine O_callA [4] (aw) (by rfl) (by rfl) (by rfl) (by rfl) (by rfl) ?_
        rintro r cs' ⟨rfl, rfl⟩
        repeat (first|refine sc rfl ?_|refine so rfl ?_|refine sb rfl ?_)
        first
          | exact ⟨_, [_], _, rfl, pickA_perm (is := [0]) (As := [_]) rfl, rfl, rfl, rfl⟩
          | exact ⟨_, [_], _, rfl, pickA_perm (is := [1]) (As := [_]) rfl, rfl, rfl, rfl⟩
          | exact ⟨_, [_], _, rfl, pickA_perm (is := [2]) (As := [_]) rfl, rfl, rfl, rfl⟩
          | exact ⟨_, [_], _, rfl, pickA_perm (is := [3]) (As := [_]) rfl, rfl, rfl, rfl⟩
          | exact ⟨_, [_], _, rfl, pickA_perm (is := [4]) (As := [_]) rfl, rfl, rfl, rfl⟩
      · rw [hs]
        repeat (first|refine sc rfl ?_|refine so rfl ?_|refine sb rfl ?_)
        refine O_call (Same_same v hv) (by rfl) (by rfl) (by rfl) (by rfl) (fun r hr => ?_)
        subst hr
        repeat (first|refine sc rfl ?_|refine so rfl ?_|refine sb rfl ?_)
        refine C_false rfl (bneF _) ?_
        repeat (first|refine sc rfl ?_|refine so rfl ?_|refine sb rfl ?_)
        refine O_case 42 rfl (fun c1 => ?_) (fun c1 => ?_)
        · exact absurd (show (v.deep : Int) = 0 from by simpa using c1) (by omega)
        · repeat (first|refine sc rfl ?_|refine so rfl ?_|refine sb rfl ?_)
          first
            | refine O_callA [0] (FitStruct_w b l hP hW.1 nm v 0 hfit) (by rfl) (by rfl) (by rfl) (by rfl) (by rfl) ?_
            | refine O_callA [1] (FitStruct_w b l hP hW.1 nm v 0 hfit) (by rfl) (by rfl) (by rfl) (by rfl) (by rfl) ?_
            | refine O_callA [2] (FitStruct_w b l hP hW.1 nm v 0 hfit) (by rfl) (by rfl) (by rfl) (by rfl) (by rfl) ?_
            | refine O_callA [3] (FitStruct_w b l hP hW.1 nm v 0 hfit) (by rfl) (by rfl) (by rfl) (by rfl) (by rfl) ?_
            | refine O_callA [4] (FitStruct_w b l hP hW.1 nm v 0 hfit) (by rfl) (by rfl) (by rfl) (by rfl) (by rfl) ?_
          rintro r cs' ⟨rfl, rfl⟩
          repeat (first|refine sc rfl ?_|refine so rfl ?_|refine sb rfl ?_)
          refine O_call (DeepR_wn 8 v _ (DeepR_tot 8 v hd8 (by omega) hv)) (by rfl) (by rfl) (by rfl) (by rfl) (fun r hr => ?_)
          subst hr
          repeat (first|refine sc rfl ?_|refine so rfl ?_|refine sb rfl ?_)
          refine O_true 55 rfl (by simp) ?_
          repeat (first|refine sc rfl ?_|refine so rfl ?_|refine sb rfl ?_)
          first
            | refine O_callA [0] (aw) (by rfl) (by rfl) (by rfl) (by rfl) (by rfl) ?_
            | refine O_callA [1] (aw) (by rfl) (by rfl) (by rfl) (by rfl) (by rfl) ?_
            | refine O_callA [2] (aw) (by rfl) (by rfl) (by rfl) (by rfl) (by rfl) ?_
            | refine O_callA [3] (aw) (by rfl) (by rfl) (by rfl) (by rfl) (by rfl) ?_
            | refine O_callA [4] (aw) (by rfl) (by rfl) (by rfl) (by rfl) (by rfl) ?_
          rintro r cs' ⟨rfl, rfl⟩
          repeat (first|refine sc rfl ?_|refine so rfl ?_|refine sb rfl ?_)
          first
            | exact ⟨_, [_], _, rfl, pickA_perm (is := [0]) (As := [_]) rfl, rfl, rfl, rfl⟩
            | exact ⟨_, [_], _, rfl, pickA_perm (is := [1]) (As := [_]) rfl, rfl, rfl, rfl⟩
            | exact ⟨_, [_], _, rfl, pickA_perm (is := [2]) (As := [_]) rfl, rfl, rfl, rfl⟩
            | exact ⟨_, [_], _, rfl, pickA_perm (is := [3]) (As := [_]) rfl, rfl, rfl, rfl⟩
            | exact ⟨_, [_], _, rfl, pickA_perm (is := [4]) (As := [_]) rfl, rfl, rfl, rfl⟩
end Go.Proofs
