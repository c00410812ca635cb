/- Fit: each, rows, whole, list (printed by gen2.py) -/
import Derived.Test.YtgmdpfoccnalnaaGreatE12
set_option linter.unusedSimpArgs false
set_option linter.unusedVariables false
set_option maxRecDepth 100000
namespace Go.Proofs
open Go.Sy Go.Lib

noncomputable def FEach_L1 (l : List Dcl) (rec : Ty → Val → Option (Int)) (t : Ty) (vs : List Val) (s1 : Int) : Option ((Int) ⊕ ((Int) ⊕ (Unit))) :=
  cond (decide (s1 < (vs.length : Int))) (chk ((0 : Int) ≤ s1 ∧ s1 < (vs.length : Int)) (Option.bind (rec t (vs.getD (Int.toNat s1) default)) (fun r9 => cond (r9 != 0) (some (Sum.inr ((Sum.inl r9)))) (some (Sum.inl (IntKind.i64.wrap (s1 + 1))))))) (some (Sum.inr ((Sum.inr ()))))
noncomputable def FEach_F (l : List Dcl) (rec : Ty → Val → Option (Int)) (t : Ty) (vs : List Val) : Option (Int) :=
  Option.bind (Iter (FEach_L1 l rec t vs) 0) (Sum.elim (fun c13 => some c13) (fun b6 => some 0))
theorem FEach_w (b : Nat) (l : List Dcl) (hP : Prep l) (hW : WellL l) (rec : Ty → Val → Option (Int)) (t : Ty) (vs : List Val) (r : Int) (hrec : ∀ t v r, rec t v = some r → FnA Tryz.prog 135 [.cp [PT b 0], .agg (Ty.c t), .agg (Val.c v)] [dscS b l] (fun x cs' => x = I64 r ∧ cs' = [dscS b l])) (h : FEach_F l rec t vs = some r) : FnA Tryz.prog 259 [.cp [PT b 0], .agg (Ty.c t), SL 5 Val.c vs] [dscS b l] (fun x cs' => x = I64 r ∧ cs' = [dscS b l]) := by
  unfold FEach_F at h
  refine FnA.intro Tryz.tabOK Tryz.wide_ Tryz.func259 rfl (by decide) rfl (fun X => ?_)
  iterate 2 refine sc rfl ?_
  first|refine so rfl ?_|refine sb rfl ?_
  refine O_le _ (Le.freezebox 4 rfl rfl rfl) ?_
  first|refine so rfl ?_|refine sb rfl ?_
  refine so rfl ?_
  iterate 3 refine sc rfl ?_
  iterate 3 (first|refine so rfl ?_|refine sb rfl ?_)
  refine so rfl ?_
  obtain ⟨o2, ho2, h⟩ := bT h
  refine C_joinP ((fun b6 : Unit => (⟨[], [.abs (dscS b l)]⟩ : St)) (match o2 with | (.inl b6) => default | (.inr b6) => b6)) (∃ b, o2 = (.inr b)) ?_ (fun s hs hp => ?_)
  · refine sc rfl ?_
    refine C_iter (fun s1 : Int => ⟨[(0, .cp [PT b 0]), (4, .cp [I64 t.kind, .s t.name, .sl t.of.length 3 (Ty.rows t.of)]), (10, SL 5 Val.c vs), (11, I64 (vs.length : Int)), (12, I64 s1)], [.abs (dscS b l)]⟩) ho2 (Le.sub [1000000] ⟨rfl, rfl, rfl, rfl, rfl, trivial⟩ rfl) (fun s1 y3 hy4 hr5 => ?_)
    unfold FEach_L1 at hy4
    iterate 2 refine sc rfl ?_
    first|refine so rfl ?_|refine sb rfl ?_
    refine so rfl ?_
    refine sc rfl ?_
    refine C_if rfl (fun hb7 => ?_) (fun hb7 => ?_)
    · replace hy4 := cT hb7 hy4
      iterate 5 refine sc rfl ?_
      obtain ⟨g8, hy4⟩ := gT hy4
      refine so rfl (And.intro g8 ?_)
      first|refine so rfl ?_|refine sb rfl ?_
      iterate 2 (first|refine so rfl ?_|refine sb rfl ?_)
      refine O_le _ (Le.freezebox 8 rfl rfl rfl) ?_
      refine so rfl ?_
      iterate 2 refine sc rfl ?_
      iterate 2 (first|refine so rfl ?_|refine sb rfl ?_)
      first|refine so rfl ?_|refine sb rfl ?_
      obtain ⟨r9, hr10, hy4⟩ := bT hy4
      refine O_callA [0] (hrec _ _ _ hr10) (by rfl) (by rfl) (by rfl) (by rfl) (by rfl) ?_
      rintro q11 cs' ⟨rfl, rfl⟩
      first|refine so rfl ?_|refine sb rfl ?_
      refine so rfl ?_
      iterate 2 refine sc rfl ?_
      iterate 2 (first|refine so rfl ?_|refine sb rfl ?_)
      refine so rfl ?_
      refine C_if rfl (fun hb12 => ?_) (fun hb12 => ?_)
      · replace hy4 := cT hb12 hy4
        iterate 2 refine sc rfl ?_
        iterate 2 (first|refine so rfl ?_|refine sb rfl ?_)
        refine so rfl ?_
        refine sc rfl ?_
        obtain rfl := Option.some.inj hy4
        have ho22 := hr5 _ rfl
        subst ho22
        obtain rfl := Option.some.inj h
        exact ⟨_, [_], _, rfl, pickA_perm (is := [0]) (As := [_]) rfl, rfl, rfl, rfl⟩
      · replace hy4 := cF hb12 hy4
        iterate 2 refine sc rfl ?_
        iterate 2 (first|refine so rfl ?_|refine sb rfl ?_)
        refine so rfl ?_
        obtain rfl := Option.some.inj hy4
        exact ⟨_, rfl, Le.sub [1000000] ⟨rfl, rfl, rfl, rfl, rfl, trivial⟩ rfl⟩
    · replace hy4 := cF hb7 hy4
      refine sc rfl ?_
      obtain rfl := Option.some.inj hy4
      have ho22 := hr5 _ rfl
      subst ho22
      exact ⟨Le.sub [1000000] trivial rfl, ⟨_, rfl⟩⟩
  obtain ⟨b6, rfl⟩ := hp
  refine C_le ⟨[], [.abs (dscS b l)]⟩ hs ?_
  iterate 2 refine sc rfl ?_
  first|refine so rfl ?_|refine sb rfl ?_
  refine so rfl ?_
  refine sc rfl ?_
  obtain rfl := Option.some.inj h
  exact ⟨_, [_], _, rfl, pickA_perm (is := [0]) (As := [_]) rfl, rfl, rfl, rfl⟩
noncomputable def FRows_L1 (l : List Dcl) (rec : Ty → Val → Option (Int)) (t : Ty) (v : Val) (s1 : Int) : Option ((Int) ⊕ ((Int) ⊕ (Unit))) :=
  cond (decide (s1 < (v.tags.length : Int))) (chk ((0 : Int) ≤ s1 ∧ s1 < (v.tags.length : Int)) (Option.bind (DRow_F2 l t.name (v.tags.getD (Int.toNat s1) default)) (fun r9 => cond (!r9.2) (some (Sum.inr ((Sum.inl 9)))) (chk ((0 : Int) ≤ s1 ∧ s1 < (v.items.length : Int)) (Option.bind (rec r9.1.ty (v.items.getD (Int.toNat s1) default)) (fun r13 => cond (r13 != 0) (some (Sum.inr ((Sum.inl r13)))) (some (Sum.inl (IntKind.i64.wrap (s1 + 1)))))))))) (some (Sum.inr ((Sum.inr ()))))
noncomputable def FRows_F (l : List Dcl) (rec : Ty → Val → Option (Int)) (t : Ty) (v : Val) : Option (Int) :=
  Option.bind (Iter (FRows_L1 l rec t v) 0) (Sum.elim (fun c16 => some c16) (fun b6 => some 0))
theorem FRows_w (b : Nat) (l : List Dcl) (hP : Prep l) (hW : WellL l) (rec : Ty → Val → Option (Int)) (t : Ty) (v : Val) (r : Int) (hrec : ∀ t v r, rec t v = some r → FnA Tryz.prog 135 [.cp [PT b 0], .agg (Ty.c t), .agg (Val.c v)] [dscS b l] (fun x cs' => x = I64 r ∧ cs' = [dscS b l])) (h : FRows_F l rec t v = some r) : FnA Tryz.prog 260 [.cp [PT b 0], .agg (Ty.c t), .agg (Val.c v)] [dscS b l] (fun x cs' => x = I64 r ∧ cs' = [dscS b l]) := by
  unfold FRows_F at h
  refine FnA.intro Tryz.tabOK Tryz.wide_ Tryz.func260 rfl (by decide) rfl (fun X => ?_)
  iterate 2 refine sc rfl ?_
  first|refine so rfl ?_|refine sb rfl ?_
  refine O_le _ (Le.freezebox 4 rfl rfl rfl) ?_
  first|refine so rfl ?_|refine sb rfl ?_
  refine O_le _ (Le.freezebox 5 rfl rfl rfl) ?_
  first|refine so rfl ?_|refine sb rfl ?_
  refine so rfl ?_
  iterate 3 refine sc rfl ?_
  iterate 4 (first|refine so rfl ?_|refine sb rfl ?_)
  refine so rfl ?_
  obtain ⟨o2, ho2, h⟩ := bT h
  refine C_joinP ((fun b6 : Unit => (⟨[], [.abs (dscS b l)]⟩ : St)) (match o2 with | (.inl b6) => default | (.inr b6) => b6)) (∃ b, o2 = (.inr b)) ?_ (fun s hs hp => ?_)
  · refine sc rfl ?_
    refine C_iter (fun s1 : Int => ⟨[(0, .cp [PT b 0]), (4, .cp [I64 t.kind, .s t.name, .sl t.of.length 3 (Ty.rows t.of)]), (5, .cp [I64 v.kind, I64 v.num, .s v.text, SL 1 INTc v.tags, .sl v.items.length 5 (Val.rows v.items)]), (13, SL 1 INTc v.tags), (14, I64 (v.tags.length : Int)), (15, I64 s1)], [.abs (dscS b l)]⟩) ho2 (Le.sub [1000000] ⟨rfl, rfl, rfl, rfl, rfl, rfl, trivial⟩ rfl) (fun s1 y3 hy4 hr5 => ?_)
    unfold FRows_L1 at hy4
    iterate 2 refine sc rfl ?_
    first|refine so rfl ?_|refine sb rfl ?_
    refine so rfl ?_
    refine sc rfl ?_
    refine C_if rfl (fun hb7 => ?_) (fun hb7 => ?_)
    · replace hy4 := cT hb7 hy4
      iterate 5 refine sc rfl ?_
      first|refine so rfl ?_|refine sb rfl ?_
      obtain ⟨g8, hy4⟩ := gT hy4
      refine so rfl (And.intro g8 ?_)
      iterate 3 (first|refine so rfl ?_|refine sb rfl ?_)
      refine so rfl ?_
      refine sc rfl ?_
      obtain ⟨r9, hr10, hy4⟩ := bT hy4
      refine C_drawM (⟨[[], [], [], [], [], [], [], [], [], [], [], [], [0, 1, 2, 3, 4, 5, 6, 7, 8, 9, 11], []], [11, 12], [(11, 9)], []⟩ : Pl) (fun L => ((bif L 11 then [.box 9 65 (bif L 12 then [I64 r9.1.tag, .s r9.1.name, I64 r9.1.ty.kind, .s r9.1.ty.name, .sl r9.1.ty.of.length 3 (Ty.rows r9.1.ty.of)] else [I64 0, .s [], I64 0, .s [], NIL])] else []) ++ [.abs (dscS b l)] : List Ch)) rfl (by kernel_rfl) (fun L L' h => by show ((bif L 11 then [.box 9 65 (bif L 12 then [I64 r9.1.tag, .s r9.1.name, I64 r9.1.ty.kind, .s r9.1.ty.name, .sl r9.1.ty.of.length 3 (Ty.rows r9.1.ty.of)] else [I64 0, .s [], I64 0, .s [], NIL])] else []) ++ [.abs (dscS b l)] : List Ch) = ((bif L' 11 then [.box 9 65 (bif L' 12 then [I64 r9.1.tag, .s r9.1.name, I64 r9.1.ty.kind, .s r9.1.ty.name, .sl r9.1.ty.of.length 3 (Ty.rows r9.1.ty.of)] else [I64 0, .s [], I64 0, .s [], NIL])] else []) ++ [.abs (dscS b l)] : List Ch); rw [h 11 (by decide), h 12 (by decide)]) rfl ?_
      refine sm rfl ⟨trivial, ?_⟩
      refine sm rfl ⟨trivial, ?_⟩
      refine sm rfl ⟨trivial, ?_⟩
      refine sm rfl ⟨trivial, ?_⟩
      refine sm rfl ⟨trivial, ?_⟩
      refine sm rfl ⟨trivial, ?_⟩
      refine sm rfl ⟨trivial, ?_⟩
      refine SM (.tup [.agg (Fld.c r9.1), B r9.2]) rfl (fun L h1 h2 h3 => ?_) ?_
      · show StepX _ _ _ _ _ ((bif L 11 then [.box 9 65 (bif L 12 then [I64 r9.1.tag, .s r9.1.name, I64 r9.1.ty.kind, .s r9.1.ty.name, .sl r9.1.ty.of.length 3 (Ty.rows r9.1.ty.of)] else [I64 0, .s [], I64 0, .s [], NIL])] else []) ++ [.abs (dscS b l)] : List Ch) ((bif L 11 then [.box 9 65 (bif L 12 then [I64 r9.1.tag, .s r9.1.name, I64 r9.1.ty.kind, .s r9.1.ty.name, .sl r9.1.ty.of.length 3 (Ty.rows r9.1.ty.of)] else [I64 0, .s [], I64 0, .s [], NIL])] else []) ++ [.abs (dscS b l)] : List Ch) _ _ _
        cases L 11 <;> cases L 12 <;> first | exact X_callK [0] (DRow_w b l hP hW _ _ _ hr10) rfl rfl rfl rfl rfl | exact X_callK [1] (DRow_w b l hP hW _ _ _ hr10) rfl rfl rfl rfl rfl
      refine sm rfl ⟨trivial, ?_⟩
      refine sm rfl ⟨trivial, ?_⟩
      refine sm rfl ⟨trivial, ?_⟩
      refine SM (.bp 9 0) rfl (fun L h1 h2 h3 => ?_) ?_
      · show StepX _ _ _ _ _ ((bif L 11 then [.box 9 65 (bif L 12 then [I64 r9.1.tag, .s r9.1.name, I64 r9.1.ty.kind, .s r9.1.ty.name, .sl r9.1.ty.of.length 3 (Ty.rows r9.1.ty.of)] else [I64 0, .s [], I64 0, .s [], NIL])] else []) ++ [.abs (dscS b l)] : List Ch) ((bif true then [.box 9 65 (bif (L 12) then [I64 r9.1.tag, .s r9.1.name, I64 r9.1.ty.kind, .s r9.1.ty.name, .sl r9.1.ty.of.length 3 (Ty.rows r9.1.ty.of)] else [I64 0, .s [], I64 0, .s [], NIL])] else []) ++ [.abs (dscS b l)] : List Ch) _ _ _
        rw [show L 11 = false from h3, h2 12 (show (11 : Nat) ∈ Pl.anc (⟨[[], [], [], [], [], [], [], [], [], [], [], [], [0, 1, 2, 3, 4, 5, 6, 7, 8, 9, 11], []], [11, 12], [(11, 9)], []⟩ : Pl) 12 by decide)]
        exact X_alloc rfl rfl rfl rfl (show ((11, 9) : Nat × Nat) ∈ Pl.cre (⟨[[], [], [], [], [], [], [], [], [], [], [], [], [0, 1, 2, 3, 4, 5, 6, 7, 8, 9, 11], []], [11, 12], [(11, 9)], []⟩ : Pl) by decide) rfl rfl rfl
      refine SM .bad rfl (fun L h1 h2 h3 => ?_) ?_
      · show StepX _ _ _ _ _ ((bif L 11 then [.box 9 65 (bif L 12 then [I64 r9.1.tag, .s r9.1.name, I64 r9.1.ty.kind, .s r9.1.ty.name, .sl r9.1.ty.of.length 3 (Ty.rows r9.1.ty.of)] else [I64 0, .s [], I64 0, .s [], NIL])] else []) ++ [.abs (dscS b l)] : List Ch) ((bif (L 11) then [.box 9 65 (bif true then [I64 r9.1.tag, .s r9.1.name, I64 r9.1.ty.kind, .s r9.1.ty.name, .sl r9.1.ty.of.length 3 (Ty.rows r9.1.ty.of)] else [I64 0, .s [], I64 0, .s [], NIL])] else []) ++ [.abs (dscS b l)] : List Ch) _ _ _
        rw [show L 12 = false from h3, h1 11 (show (11 : Nat) ∈ Pl.anc (⟨[[], [], [], [], [], [], [], [], [], [], [], [], [0, 1, 2, 3, 4, 5, 6, 7, 8, 9, 11], []], [11, 12], [(11, 9)], []⟩ : Pl) 12 by decide)]
        exact X_storeK rfl rfl rfl rfl rfl rfl rfl rfl rfl
      refine sm rfl ⟨trivial, ?_⟩
      refine sm rfl ?_
      show SymC _ _ _ ⟨_, [.box 9 65 [I64 r9.1.tag, .s r9.1.name, I64 r9.1.ty.kind, .s r9.1.ty.name, .sl r9.1.ty.of.length 3 (Ty.rows r9.1.ty.of)], .abs (dscS b l)]⟩ _
      refine C_le _ (Le.freezebox 9 rfl rfl rfl) ?_
      iterate 3 refine sc rfl ?_
      iterate 2 (first|refine so rfl ?_|refine sb rfl ?_)
      refine so rfl ?_
      refine C_if rfl (fun hb11 => ?_) (fun hb11 => ?_)
      · replace hy4 := cT hb11 hy4
        iterate 2 refine sc rfl ?_
        first|refine so rfl ?_|refine sb rfl ?_
        refine so rfl ?_
        refine sc rfl ?_
        obtain rfl := Option.some.inj hy4
        have ho22 := hr5 _ rfl
        subst ho22
        obtain rfl := Option.some.inj h
        exact ⟨_, [_], _, rfl, pickA_perm (is := [0]) (As := [_]) rfl, rfl, rfl, rfl⟩
      · replace hy4 := cF hb11 hy4
        iterate 2 refine sc rfl ?_
        refine C_drawD rfl (by kernel_rfl) ?_
        iterate 4 (first | refine sd rfl ?_ | refine sdb rfl ?_)
        refine sdw (SL 5 Val.c v.items) rfl rfl rfl (.row (Val.rows_eq _)) ?_
        iterate 1 (first | refine sd rfl ?_ | refine sdb rfl ?_)
        obtain ⟨g12, hy4⟩ := gT hy4
        refine sd rfl (And.intro g12 ?_)
        iterate 1 (first | refine sd rfl ?_ | refine sdb rfl ?_)
        obtain ⟨r13, hr14, hy4⟩ := bT hy4
        refine D_callA [0] (hrec _ _ _ hr14) rfl rfl rfl rfl rfl ?_
        iterate 1 (first | refine sd rfl ?_ | refine sdb rfl ?_)
        refine sd rfl ?_
        iterate 2 refine sc rfl ?_
        iterate 2 (first|refine so rfl ?_|refine sb rfl ?_)
        refine so rfl ?_
        refine C_if rfl (fun hb15 => ?_) (fun hb15 => ?_)
        · replace hy4 := cT hb15 hy4
          iterate 2 refine sc rfl ?_
          iterate 2 (first|refine so rfl ?_|refine sb rfl ?_)
          refine so rfl ?_
          refine sc rfl ?_
          obtain rfl := Option.some.inj hy4
          have ho22 := hr5 _ rfl
          subst ho22
          obtain rfl := Option.some.inj h
          exact ⟨_, [_], _, rfl, pickA_perm (is := [0]) (As := [_]) rfl, rfl, rfl, rfl⟩
        · replace hy4 := cF hb15 hy4
          iterate 2 refine sc rfl ?_
          iterate 2 (first|refine so rfl ?_|refine sb rfl ?_)
          refine so rfl ?_
          obtain rfl := Option.some.inj hy4
          exact ⟨_, rfl, Le.sub [1000000] ⟨rfl, rfl, rfl, rfl, rfl, rfl, trivial⟩ rfl⟩
    · replace hy4 := cF hb7 hy4
      refine sc rfl ?_
      obtain rfl := Option.some.inj hy4
      have ho22 := hr5 _ rfl
      subst ho22
      exact ⟨Le.sub [1000000] trivial rfl, ⟨_, rfl⟩⟩
  obtain ⟨b6, rfl⟩ := hp
  refine C_le ⟨[], [.abs (dscS b l)]⟩ hs ?_
  iterate 2 refine sc rfl ?_
  first|refine so rfl ?_|refine sb rfl ?_
  refine so rfl ?_
  refine sc rfl ?_
  obtain rfl := Option.some.inj h
  exact ⟨_, [_], _, rfl, pickA_perm (is := [0]) (As := [_]) rfl, rfl, rfl, rfl⟩
noncomputable def FWhole_L3 (l : List Dcl) (t : Ty) (v : Val) (r1 : List Fld) (s3 : Int × Int) : Option ((Int × Int) ⊕ ((Int) ⊕ (Unit))) :=
  cond (decide (s3.2 < (r1.length : Int))) (chk ((0 : Int) ≤ s3.2 ∧ s3.2 < (r1.length : Int)) (cond (decide (s3.1 < (v.tags.length : Int))) (chk ((0 : Int) ≤ s3.1 ∧ s3.1 < (v.tags.length : Int)) (cond ((v.tags.getD (Int.toNat s3.1) default) == ((r1.getD (Int.toNat s3.2) default).tag)) (some (Sum.inl (IntKind.i64.wrap (s3.1 + 1), IntKind.i64.wrap (s3.2 + 1)))) (cond ((((r1.getD (Int.toNat s3.2) default).ty).kind) != 9) (some (Sum.inr ((Sum.inl 12)))) (some (Sum.inl (s3.1, IntKind.i64.wrap (s3.2 + 1))))))) (cond ((((r1.getD (Int.toNat s3.2) default).ty).kind) != 9) (some (Sum.inr ((Sum.inl 12)))) (some (Sum.inl (s3.1, IntKind.i64.wrap (s3.2 + 1))))))) (some (Sum.inr ((Sum.inr ()))))
noncomputable def FWhole_F (l : List Dcl) (t : Ty) (v : Val) : Option (Int) :=
  Option.bind (DRows_F l t.name) (fun r1 => Option.bind (Iter (FWhole_L3 l t v r1) (0, 0)) (Sum.elim (fun c16 => some c16) (fun b8 => some 0)))
theorem FWhole_w (b : Nat) (l : List Dcl) (hP : Prep l) (hW : WellL l) (t : Ty) (v : Val) (r : Int) (h : FWhole_F l t v = some r) : FnA Tryz.prog 261 [.cp [PT b 0], .agg (Ty.c t), .agg (Val.c v)] [dscS b l] (fun x cs' => x = I64 r ∧ cs' = [dscS b l]) := by
  unfold FWhole_F at h
  refine FnA.intro Tryz.tabOK Tryz.wide_ Tryz.func261 rfl (by decide) rfl (fun X => ?_)
  iterate 2 refine sc rfl ?_
  first|refine so rfl ?_|refine sb rfl ?_
  refine O_le _ (Le.freezebox 4 rfl rfl rfl) ?_
  first|refine so rfl ?_|refine sb rfl ?_
  refine O_le _ (Le.freezebox 5 rfl rfl rfl) ?_
  first|refine so rfl ?_|refine sb rfl ?_
  refine so rfl ?_
  iterate 2 refine sc rfl ?_
  first|refine so rfl ?_|refine sb rfl ?_
  refine so rfl ?_
  iterate 2 refine sc rfl ?_
  refine C_drawD rfl (by kernel_rfl) ?_
  iterate 6 (first | refine sd rfl ?_ | refine sdb rfl ?_)
  obtain ⟨r1, hr2, h⟩ := bT h
  refine D_callA [0] (DRows_w b l hP hW _ _ hr2) rfl rfl rfl rfl rfl ?_
  iterate 2 (first | refine sd rfl ?_ | refine sdb rfl ?_)
  refine sd rfl ?_
  obtain ⟨o4, ho4, h⟩ := bT h
  refine C_joinP ((fun b8 : Unit => (⟨[], [.abs (dscS b l)]⟩ : St)) (match o4 with | (.inl b8) => default | (.inr b8) => b8)) (∃ b, o4 = (.inr b)) ?_ (fun s hs hp => ?_)
  · refine sc rfl ?_
    refine C_iter (fun s3 : Int × Int => ⟨[(5, .cp [I64 v.kind, I64 v.num, .s v.text, SL 1 INTc v.tags, .sl v.items.length 5 (Val.rows v.items)]), (7, I64 s3.1), (17, SL 5 Fld.c r1), (18, I64 (r1.length : Int)), (19, I64 s3.2)], [.abs (dscS b l)]⟩) ho4 (Le.sub [1000000] ⟨rfl, rfl, rfl, rfl, rfl, trivial⟩ rfl) (fun s3 y5 hy6 hr7 => ?_)
    unfold FWhole_L3 at hy6
    iterate 2 refine sc rfl ?_
    first|refine so rfl ?_|refine sb rfl ?_
    refine so rfl ?_
    refine sc rfl ?_
    refine C_if rfl (fun hb9 => ?_) (fun hb9 => ?_)
    · replace hy6 := cT hb9 hy6
      iterate 5 refine sc rfl ?_
      obtain ⟨g10, hy6⟩ := gT hy6
      refine so rfl (And.intro g10 ?_)
      first|refine so rfl ?_|refine sb rfl ?_
      iterate 2 (first|refine so rfl ?_|refine sb rfl ?_)
      refine O_le _ (Le.freezebox 9 rfl rfl rfl) ?_
      refine so rfl ?_
      refine sc rfl ?_
      refine C_drawD rfl (by kernel_rfl) ?_
      iterate 6 (first | refine sd rfl ?_ | refine sdb rfl ?_)
      refine D_case 5 rfl (fun hb11 => ?_) (fun hb11 => ?_)
      · replace hy6 := cT hb11 hy6
        iterate 3 (first | refine sd rfl ?_ | refine sdb rfl ?_)
        obtain ⟨g12, hy6⟩ := gT hy6
        refine sd rfl (And.intro g12 ?_)
        iterate 6 (first | refine sd rfl ?_ | refine sdb rfl ?_)
        refine sd rfl ?_
        iterate 3 refine sc rfl ?_
        iterate 2 (first|refine so rfl ?_|refine sb rfl ?_)
        refine so rfl ?_
        refine C_if rfl (fun hb13 => ?_) (fun hb13 => ?_)
        · replace hy6 := cT hb13 hy6
          refine sc rfl ?_
          iterate 3 (first|refine so rfl ?_|refine sb rfl ?_)
          refine so rfl ?_
          refine sc rfl ?_
          iterate 2 (first|refine so rfl ?_|refine sb rfl ?_)
          refine so rfl ?_
          obtain rfl := Option.some.inj hy6
          exact ⟨_, rfl, Le.sub [1000000] ⟨rfl, rfl, rfl, rfl, rfl, trivial⟩ rfl⟩
        · replace hy6 := cF hb13 hy6
          iterate 2 refine sc rfl ?_
          iterate 5 (first|refine so rfl ?_|refine sb rfl ?_)
          refine so rfl ?_
          refine C_if rfl (fun hb14 => ?_) (fun hb14 => ?_)
          · replace hy6 := cT hb14 hy6
            iterate 2 refine sc rfl ?_
            first|refine so rfl ?_|refine sb rfl ?_
            refine so rfl ?_
            refine sc rfl ?_
            obtain rfl := Option.some.inj hy6
            have ho42 := hr7 _ rfl
            subst ho42
            obtain rfl := Option.some.inj h
            exact ⟨_, [_], _, rfl, pickA_perm (is := [0]) (As := [_]) rfl, rfl, rfl, rfl⟩
          · replace hy6 := cF hb14 hy6
            iterate 2 refine sc rfl ?_
            iterate 2 (first|refine so rfl ?_|refine sb rfl ?_)
            refine so rfl ?_
            obtain rfl := Option.some.inj hy6
            exact ⟨_, rfl, Le.sub [1000000] ⟨rfl, rfl, rfl, rfl, rfl, trivial⟩ rfl⟩
      · replace hy6 := cF hb11 hy6
        iterate 10 (first | refine sd rfl ?_ | refine sdb rfl ?_)
        refine sd rfl ?_
        iterate 3 refine sc rfl ?_
        iterate 2 (first|refine so rfl ?_|refine sb rfl ?_)
        refine so rfl ?_
        refine C_false rfl rfl ?_
        iterate 2 refine sc rfl ?_
        iterate 5 (first|refine so rfl ?_|refine sb rfl ?_)
        refine so rfl ?_
        refine C_if rfl (fun hb15 => ?_) (fun hb15 => ?_)
        · replace hy6 := cT hb15 hy6
          iterate 2 refine sc rfl ?_
          first|refine so rfl ?_|refine sb rfl ?_
          refine so rfl ?_
          refine sc rfl ?_
          obtain rfl := Option.some.inj hy6
          have ho42 := hr7 _ rfl
          subst ho42
          obtain rfl := Option.some.inj h
          exact ⟨_, [_], _, rfl, pickA_perm (is := [0]) (As := [_]) rfl, rfl, rfl, rfl⟩
        · replace hy6 := cF hb15 hy6
          iterate 2 refine sc rfl ?_
          iterate 2 (first|refine so rfl ?_|refine sb rfl ?_)
          refine so rfl ?_
          obtain rfl := Option.some.inj hy6
          exact ⟨_, rfl, Le.sub [1000000] ⟨rfl, rfl, rfl, rfl, rfl, trivial⟩ rfl⟩
    · replace hy6 := cF hb9 hy6
      refine sc rfl ?_
      obtain rfl := Option.some.inj hy6
      have ho42 := hr7 _ rfl
      subst ho42
      exact ⟨Le.sub [1000000] trivial rfl, ⟨_, rfl⟩⟩
  obtain ⟨b8, rfl⟩ := hp
  refine C_le ⟨[], [.abs (dscS b l)]⟩ hs ?_
  iterate 2 refine sc rfl ?_
  first|refine so rfl ?_|refine sb rfl ?_
  refine so rfl ?_
  refine sc rfl ?_
  obtain rfl := Option.some.inj h
  exact ⟨_, [_], _, rfl, pickA_perm (is := [0]) (As := [_]) rfl, rfl, rfl, rfl⟩
noncomputable def FList_L9 (l : List Dcl) (rec : Ty → Val → Option (Int)) (t : Ty) (v : Val) (s9 : Int) : Option ((Int) ⊕ ((Int) ⊕ (Unit))) :=
  cond (decide (s9 < (v.items.length : Int))) (chk ((0 : Int) ≤ s9 ∧ s9 < (v.items.length : Int)) (chk ((2 : Int) ≠ 0) (chk ((0 : Int) ≤ (Int.tmod s9 2) ∧ (Int.tmod s9 2) < (t.of.length : Int)) (Option.bind (rec (t.of.getD (Int.toNat (Int.tmod s9 2)) default) (v.items.getD (Int.toNat s9) default)) (fun r19 => cond (r19 != 0) (some (Sum.inr ((Sum.inl r19)))) (some (Sum.inl (IntKind.i64.wrap (s9 + 1))))))))) (some (Sum.inr ((Sum.inr ()))))
noncomputable def FList_F (l : List Dcl) (rec : Ty → Val → Option (Int)) (t : Ty) (v : Val) : Option (Int) :=
  cond (t.kind == 7) (cond ((t.of.length : Int) != 1) (some 8) (cond (v.kind != 7) (some 4) (chk ((0 : Int) ≤ 0 ∧ 0 < (t.of.length : Int)) (Option.bind (FEach_F l rec (t.of.getD (Int.toNat 0) default) v.items) (fun r5 => some r5))))) (cond ((t.of.length : Int) != 2) (some 8) (cond (v.kind != 8) (some 4) (Option.bind (Iter (FList_L9 l rec t v) 0) (Sum.elim (fun c22 => some c22) (fun b14 => some 0)))))
theorem FList_w (b : Nat) (l : List Dcl) (hP : Prep l) (hW : WellL l) (rec : Ty → Val → Option (Int)) (t : Ty) (v : Val) (r : Int) (hrec : ∀ t v r, rec t v = some r → FnA Tryz.prog 135 [.cp [PT b 0], .agg (Ty.c t), .agg (Val.c v)] [dscS b l] (fun x cs' => x = I64 r ∧ cs' = [dscS b l])) (h : FList_F l rec t v = some r) : FnA Tryz.prog 209 [.cp [PT b 0], .agg (Ty.c t), .agg (Val.c v)] [dscS b l] (fun x cs' => x = I64 r ∧ cs' = [dscS b l]) := by
  unfold FList_F at h
  refine FnA.intro Tryz.tabOK Tryz.wide_ Tryz.func209 rfl (by decide) rfl (fun X => ?_)
  iterate 2 refine sc rfl ?_
  first|refine so rfl ?_|refine sb rfl ?_
  refine O_le _ (Le.freezebox 4 rfl rfl rfl) ?_
  first|refine so rfl ?_|refine sb rfl ?_
  refine O_le _ (Le.freezebox 5 rfl rfl rfl) ?_
  first|refine so rfl ?_|refine sb rfl ?_
  refine so rfl ?_
  iterate 3 refine sc rfl ?_
  iterate 3 (first|refine so rfl ?_|refine sb rfl ?_)
  refine so rfl ?_
  refine C_if rfl (fun hb1 => ?_) (fun hb1 => ?_)
  · replace h := cT hb1 h
    iterate 3 refine sc rfl ?_
    iterate 2 (first|refine so rfl ?_|refine sb rfl ?_)
    refine O_le _ (Le.one 14 (SL 3 Ty.c t.of) rfl (.row (Ty.rows_eq _))) ?_
    iterate 2 (first|refine so rfl ?_|refine sb rfl ?_)
    refine so rfl ?_
    refine C_if rfl (fun hb2 => ?_) (fun hb2 => ?_)
    · replace h := cT hb2 h
      iterate 2 refine sc rfl ?_
      first|refine so rfl ?_|refine sb rfl ?_
      refine so rfl ?_
      refine sc rfl ?_
      obtain rfl := Option.some.inj h
      exact ⟨_, [_], _, rfl, pickA_perm (is := [0]) (As := [_]) rfl, rfl, rfl, rfl⟩
    · replace h := cF hb2 h
      iterate 4 refine sc rfl ?_
      iterate 3 (first|refine so rfl ?_|refine sb rfl ?_)
      refine so rfl ?_
      refine C_if rfl (fun hb3 => ?_) (fun hb3 => ?_)
      · replace h := cT hb3 h
        iterate 2 refine sc rfl ?_
        first|refine so rfl ?_|refine sb rfl ?_
        refine so rfl ?_
        refine sc rfl ?_
        obtain rfl := Option.some.inj h
        exact ⟨_, [_], _, rfl, pickA_perm (is := [0]) (As := [_]) rfl, rfl, rfl, rfl⟩
      · replace h := cF hb3 h
        iterate 2 refine sc rfl ?_
        refine C_drawD rfl (by kernel_rfl) ?_
        iterate 2 (first | refine sd rfl ?_ | refine sdb rfl ?_)
        refine sdw (SL 3 Ty.c t.of) rfl rfl rfl (.row (Ty.rows_eq _)) ?_
        obtain ⟨g4, h⟩ := gT h
        refine sd rfl (And.intro g4 ?_)
        iterate 2 (first | refine sd rfl ?_ | refine sdb rfl ?_)
        refine sdw (SL 5 Val.c v.items) rfl rfl rfl (.row (Val.rows_eq _)) ?_
        obtain ⟨r5, hr6, h⟩ := bT h
        refine D_callA [0] (FEach_w b l hP hW rec _ _ _ hrec hr6) rfl rfl rfl rfl rfl ?_
        iterate 1 (first | refine sd rfl ?_ | refine sdb rfl ?_)
        refine sd rfl ?_
        refine sc rfl ?_
        obtain rfl := Option.some.inj h
        exact ⟨_, [_], _, rfl, pickA_perm (is := [0]) (As := [_]) rfl, rfl, rfl, rfl⟩
  · replace h := cF hb1 h
    iterate 4 refine sc rfl ?_
    iterate 2 (first|refine so rfl ?_|refine sb rfl ?_)
    refine O_le _ (Le.one 29 (SL 3 Ty.c t.of) rfl (.row (Ty.rows_eq _))) ?_
    iterate 2 (first|refine so rfl ?_|refine sb rfl ?_)
    refine so rfl ?_
    refine C_if rfl (fun hb7 => ?_) (fun hb7 => ?_)
    · replace h := cT hb7 h
      iterate 2 refine sc rfl ?_
      first|refine so rfl ?_|refine sb rfl ?_
      refine so rfl ?_
      refine sc rfl ?_
      obtain rfl := Option.some.inj h
      exact ⟨_, [_], _, rfl, pickA_perm (is := [0]) (As := [_]) rfl, rfl, rfl, rfl⟩
    · replace h := cF hb7 h
      iterate 4 refine sc rfl ?_
      iterate 3 (first|refine so rfl ?_|refine sb rfl ?_)
      refine so rfl ?_
      refine C_if rfl (fun hb8 => ?_) (fun hb8 => ?_)
      · replace h := cT hb8 h
        iterate 2 refine sc rfl ?_
        first|refine so rfl ?_|refine sb rfl ?_
        refine so rfl ?_
        refine sc rfl ?_
        obtain rfl := Option.some.inj h
        exact ⟨_, [_], _, rfl, pickA_perm (is := [0]) (As := [_]) rfl, rfl, rfl, rfl⟩
      · replace h := cF hb8 h
        iterate 4 refine sc rfl ?_
        iterate 2 (first|refine so rfl ?_|refine sb rfl ?_)
        refine O_le _ (Le.one 36 (SL 5 Val.c v.items) rfl (.row (Val.rows_eq _))) ?_
        iterate 2 (first|refine so rfl ?_|refine sb rfl ?_)
        refine so rfl ?_
        obtain ⟨o10, ho10, h⟩ := bT h
        refine C_joinP ((fun b14 : Unit => (⟨[], [.abs (dscS b l)]⟩ : St)) (match o10 with | (.inl b14) => default | (.inr b14) => b14)) (∃ b, o10 = (.inr b)) ?_ (fun s hs hp => ?_)
        · refine sc rfl ?_
          refine C_iter (fun s9 : Int => ⟨[(0, .cp [PT b 0]), (4, .cp [I64 t.kind, .s t.name, .sl t.of.length 3 (Ty.rows t.of)]), (36, SL 5 Val.c v.items), (37, I64 (v.items.length : Int)), (38, I64 s9)], [.abs (dscS b l)]⟩) ho10 (Le.sub [1000000] ⟨rfl, rfl, rfl, rfl, rfl, trivial⟩ rfl) (fun s9 y11 hy12 hr13 => ?_)
          unfold FList_L9 at hy12
          iterate 2 refine sc rfl ?_
          first|refine so rfl ?_|refine sb rfl ?_
          refine so rfl ?_
          refine sc rfl ?_
          refine C_if rfl (fun hb15 => ?_) (fun hb15 => ?_)
          · replace hy12 := cT hb15 hy12
            iterate 5 refine sc rfl ?_
            first|refine so rfl ?_|refine sb rfl ?_
            obtain ⟨g16, hy12⟩ := gT hy12
            refine so rfl (And.intro g16 ?_)
            first|refine so rfl ?_|refine sb rfl ?_
            iterate 3 (first|refine so rfl ?_|refine sb rfl ?_)
            refine O_le _ (Le.freezebox 8 rfl rfl rfl) ?_
            refine so rfl ?_
            refine sc rfl ?_
            refine C_drawD rfl (by kernel_rfl) ?_
            iterate 2 (first | refine sd rfl ?_ | refine sdb rfl ?_)
            refine sdw (SL 3 Ty.c t.of) rfl rfl rfl (.row (Ty.rows_eq _)) ?_
            iterate 1 (first | refine sd rfl ?_ | refine sdb rfl ?_)
            obtain ⟨g17, hy12⟩ := gT hy12
            refine sd rfl (And.intro g17 ?_)
            obtain ⟨g18, hy12⟩ := gT hy12
            refine sd rfl (And.intro g18 ?_)
            iterate 2 (first | refine sd rfl ?_ | refine sdb rfl ?_)
            obtain ⟨r19, hr20, hy12⟩ := bT hy12
            refine D_callA [0] (hrec _ _ _ hr20) rfl rfl rfl rfl rfl ?_
            iterate 1 (first | refine sd rfl ?_ | refine sdb rfl ?_)
            refine sd rfl ?_
            iterate 2 refine sc rfl ?_
            iterate 2 (first|refine so rfl ?_|refine sb rfl ?_)
            refine so rfl ?_
            refine C_if rfl (fun hb21 => ?_) (fun hb21 => ?_)
            · replace hy12 := cT hb21 hy12
              iterate 2 refine sc rfl ?_
              iterate 2 (first|refine so rfl ?_|refine sb rfl ?_)
              refine so rfl ?_
              refine sc rfl ?_
              obtain rfl := Option.some.inj hy12
              have ho102 := hr13 _ rfl
              subst ho102
              obtain rfl := Option.some.inj h
              exact ⟨_, [_], _, rfl, pickA_perm (is := [0]) (As := [_]) rfl, rfl, rfl, rfl⟩
            · replace hy12 := cF hb21 hy12
              iterate 2 refine sc rfl ?_
              iterate 2 (first|refine so rfl ?_|refine sb rfl ?_)
              refine so rfl ?_
              obtain rfl := Option.some.inj hy12
              exact ⟨_, rfl, Le.sub [1000000] ⟨rfl, rfl, rfl, rfl, rfl, trivial⟩ rfl⟩
          · replace hy12 := cF hb15 hy12
            refine sc rfl ?_
            obtain rfl := Option.some.inj hy12
            have ho102 := hr13 _ rfl
            subst ho102
            exact ⟨Le.sub [1000000] trivial rfl, ⟨_, rfl⟩⟩
        obtain ⟨b14, rfl⟩ := hp
        refine C_le ⟨[], [.abs (dscS b l)]⟩ hs ?_
        iterate 2 refine sc rfl ?_
        first|refine so rfl ?_|refine sb rfl ?_
        refine so rfl ?_
        refine sc rfl ?_
        obtain rfl := Option.some.inj h
        exact ⟨_, [_], _, rfl, pickA_perm (is := [0]) (As := [_]) rfl, rfl, rfl, rfl⟩
end Go.Proofs

namespace Go.Proofs
open Go.Sy Go.Lib

noncomputable def FNamed_F (l : List Dcl) (rec : Ty → Val → Option (Int)) (t : Ty) (v : Val) : Option (Int) :=
  Option.bind (DKind_F l t.name) (fun r1 => cond (((lkN r1 [(1, 9), (2, 10), (3, 6)]).getD 0) == 0) (some 8) (cond (v.kind != ((lkN r1 [(1, 9), (2, 10), (3, 6)]).getD 0)) (some 4) (cond (((lkN r1 [(1, 9), (2, 10), (3, 6)]).getD 0) == 6) (Option.bind (DRow_F2 l t.name v.num) (fun r6 => cond (!r6.2) (some 9) (some 0))) (Option.bind (FRows_F l rec t v) (fun r9 => Option.bind (α := Bool) (cond (r9 != 0) (some true) (some (((lkN r1 [(1, 9), (2, 10), (3, 6)]).getD 0) == 10))) (fun m12 => cond m12 (some r9) (Option.bind (FWhole_F l  t v) (fun r15 => some r15))))))))
theorem FNamed_w (b : Nat) (l : List Dcl) (hP : Prep l) (hW : WellL l) (rec : Ty → Val → Option (Int)) (t : Ty) (v : Val) (r : Int) (hrec : ∀ t v r, rec t v = some r → FnA Tryz.prog 135 [.cp [PT b 0], .agg (Ty.c t), .agg (Val.c v)] [dscS b l] (fun x cs' => x = I64 r ∧ cs' = [dscS b l])) (h : FNamed_F l rec t v = some r) : FnA Tryz.prog 210 [.cp [PT b 0], .agg (Ty.c t), .agg (Val.c v)] [dscS b l] (fun x cs' => x = I64 r ∧ cs' = [dscS b l]) := by
  unfold FNamed_F at h
  refine FnA.intro Tryz.tabOK Tryz.wide_ Tryz.func210 rfl (by decide) rfl (fun X => ?_)
  iterate 2 refine sc rfl ?_
  first|refine so rfl ?_|refine sb rfl ?_
  refine O_le _ (Le.freezebox 4 rfl rfl rfl) ?_
  first|refine so rfl ?_|refine sb rfl ?_
  refine O_le _ (Le.freezebox 5 rfl rfl rfl) ?_
  first|refine so rfl ?_|refine sb rfl ?_
  refine so rfl ?_
  refine sc rfl ?_
  obtain ⟨r1, hr2, h⟩ := bT h
  refine C_drawM (⟨[[], [0], [0], [0], [0, 1, 2, 3], [], [], [], [], [], [], [], [0, 1, 2, 3], [0, 1, 2, 3]], [0, 1, 2, 3], [(0, 11)], []⟩ : Pl) (fun L => ((bif (L 0) then [MPC 11 ((bif (L 1) then [(1, 9)] else []) ++ (bif (L 2) then [(2, 10)] else []) ++ (bif (L 3) then [(3, 6)] else []))] else []) ++ [.abs (dscS b l)] : List Ch)) rfl (by kernel_rfl) (fun L L' h => by show ((bif (L 0) then [MPC 11 ((bif (L 1) then [(1, 9)] else []) ++ (bif (L 2) then [(2, 10)] else []) ++ (bif (L 3) then [(3, 6)] else []))] else []) ++ [.abs (dscS b l)] : List Ch) = ((bif (L' 0) then [MPC 11 ((bif (L' 1) then [(1, 9)] else []) ++ (bif (L' 2) then [(2, 10)] else []) ++ (bif (L' 3) then [(3, 6)] else []))] else []) ++ [.abs (dscS b l)] : List Ch); rw [h 0 (by decide), h 1 (by decide), h 2 (by decide), h 3 (by decide)]) rfl ?_
  refine SM (.mp 11) rfl (fun L h1 h2 h3 => ?_) ?_
  · show StepX _ _ _ _ _ ((bif (L 0) then [MPC 11 ((bif (L 1) then [(1, 9)] else []) ++ (bif (L 2) then [(2, 10)] else []) ++ (bif (L 3) then [(3, 6)] else []))] else []) ++ [.abs (dscS b l)] : List Ch) ((bif true then [MPC 11 ((bif (L 1) then [(1, 9)] else []) ++ (bif (L 2) then [(2, 10)] else []) ++ (bif (L 3) then [(3, 6)] else []))] else []) ++ [.abs (dscS b l)] : List Ch) _ _ _
    rw [show L 0 = false from h3, h2 1 (show (0 : Nat) ∈ Pl.anc (⟨[[], [0], [0], [0], [0, 1, 2, 3], [], [], [], [], [], [], [], [0, 1, 2, 3], [0, 1, 2, 3]], [0, 1, 2, 3], [(0, 11)], []⟩ : Pl) 1 by decide), h2 2 (show (0 : Nat) ∈ Pl.anc (⟨[[], [0], [0], [0], [0, 1, 2, 3], [], [], [], [], [], [], [], [0, 1, 2, 3], [0, 1, 2, 3]], [0, 1, 2, 3], [(0, 11)], []⟩ : Pl) 2 by decide), h2 3 (show (0 : Nat) ∈ Pl.anc (⟨[[], [0], [0], [0], [0, 1, 2, 3], [], [], [], [], [], [], [], [0, 1, 2, 3], [0, 1, 2, 3]], [0, 1, 2, 3], [(0, 11)], []⟩ : Pl) 3 by decide)]
    exact X_makeMapC rfl rfl (show ((0, 11) : Nat × Nat) ∈ Pl.cre (⟨[[], [0], [0], [0], [0, 1, 2, 3], [], [], [], [], [], [], [], [0, 1, 2, 3], [0, 1, 2, 3]], [0, 1, 2, 3], [(0, 11)], []⟩ : Pl) by decide) rfl rfl
  refine SM .bad rfl (fun L h1 h2 h3 => ?_) ?_
  · show StepX _ _ _ _ _ ((bif (L 0) then [MPC 11 ((bif (L 1) then [(1, 9)] else []) ++ (bif (L 2) then [(2, 10)] else []) ++ (bif (L 3) then [(3, 6)] else []))] else []) ++ [.abs (dscS b l)] : List Ch) ((bif (L 0) then [MPC 11 ((bif true then [(1, 9)] else []) ++ (bif (L 2) then [(2, 10)] else []) ++ (bif (L 3) then [(3, 6)] else []))] else []) ++ [.abs (dscS b l)] : List Ch) _ _ _
    rw [show L 1 = false from h3, h1 0 (show (0 : Nat) ∈ Pl.anc (⟨[[], [0], [0], [0], [0, 1, 2, 3], [], [], [], [], [], [], [], [0, 1, 2, 3], [0, 1, 2, 3]], [0, 1, 2, 3], [(0, 11)], []⟩ : Pl) 1 by decide)]
    cases L 2 <;> cases L 3 <;> exact X_insC Tryz.underlying302 Tryz.underlying3 rfl rfl rfl rfl rfl (by decide) (by decide)
  refine SM .bad rfl (fun L h1 h2 h3 => ?_) ?_
  · show StepX _ _ _ _ _ ((bif (L 0) then [MPC 11 ((bif (L 1) then [(1, 9)] else []) ++ (bif (L 2) then [(2, 10)] else []) ++ (bif (L 3) then [(3, 6)] else []))] else []) ++ [.abs (dscS b l)] : List Ch) ((bif (L 0) then [MPC 11 ((bif (L 1) then [(1, 9)] else []) ++ (bif true then [(2, 10)] else []) ++ (bif (L 3) then [(3, 6)] else []))] else []) ++ [.abs (dscS b l)] : List Ch) _ _ _
    rw [show L 2 = false from h3, h1 0 (show (0 : Nat) ∈ Pl.anc (⟨[[], [0], [0], [0], [0, 1, 2, 3], [], [], [], [], [], [], [], [0, 1, 2, 3], [0, 1, 2, 3]], [0, 1, 2, 3], [(0, 11)], []⟩ : Pl) 2 by decide)]
    cases L 1 <;> cases L 3 <;> exact X_insC Tryz.underlying302 Tryz.underlying3 rfl rfl rfl rfl rfl (by decide) (by decide)
  refine SM .bad rfl (fun L h1 h2 h3 => ?_) ?_
  · show StepX _ _ _ _ _ ((bif (L 0) then [MPC 11 ((bif (L 1) then [(1, 9)] else []) ++ (bif (L 2) then [(2, 10)] else []) ++ (bif (L 3) then [(3, 6)] else []))] else []) ++ [.abs (dscS b l)] : List Ch) ((bif (L 0) then [MPC 11 ((bif (L 1) then [(1, 9)] else []) ++ (bif (L 2) then [(2, 10)] else []) ++ (bif true then [(3, 6)] else []))] else []) ++ [.abs (dscS b l)] : List Ch) _ _ _
    rw [show L 3 = false from h3, h1 0 (show (0 : Nat) ∈ Pl.anc (⟨[[], [0], [0], [0], [0, 1, 2, 3], [], [], [], [], [], [], [], [0, 1, 2, 3], [0, 1, 2, 3]], [0, 1, 2, 3], [(0, 11)], []⟩ : Pl) 3 by decide)]
    cases L 1 <;> cases L 2 <;> exact X_insC Tryz.underlying302 Tryz.underlying3 rfl rfl rfl rfl rfl (by decide) (by decide)
  refine sm rfl ⟨trivial, ?_⟩
  refine sm rfl ⟨trivial, ?_⟩
  refine sm rfl ⟨trivial, ?_⟩
  refine sm rfl ⟨trivial, ?_⟩
  refine sm rfl ⟨trivial, ?_⟩
  refine sm rfl ⟨trivial, ?_⟩
  refine sm rfl ⟨trivial, ?_⟩
  refine SM (I64 r1) rfl (fun L h1 h2 h3 => ?_) ?_
  · show StepX _ _ _ _ _ ((bif (L 0) then [MPC 11 ((bif (L 1) then [(1, 9)] else []) ++ (bif (L 2) then [(2, 10)] else []) ++ (bif (L 3) then [(3, 6)] else []))] else []) ++ [.abs (dscS b l)] : List Ch) ((bif (L 0) then [MPC 11 ((bif (L 1) then [(1, 9)] else []) ++ (bif (L 2) then [(2, 10)] else []) ++ (bif (L 3) then [(3, 6)] else []))] else []) ++ [.abs (dscS b l)] : List Ch) _ _ _
    cases L 0 <;> first | exact X_callK [0] (DKind_w b l hP hW _ _ hr2) rfl rfl rfl rfl rfl | exact X_callK [1] (DKind_w b l hP hW _ _ hr2) rfl rfl rfl rfl rfl
  refine SM (I64 ((lkN r1 [(1, 9), (2, 10), (3, 6)]).getD 0)) rfl (fun L h1 h2 h3 => ?_) ?_
  · show StepX _ _ _ _ _ ((bif (L 0) then [MPC 11 ((bif (L 1) then [(1, 9)] else []) ++ (bif (L 2) then [(2, 10)] else []) ++ (bif (L 3) then [(3, 6)] else []))] else []) ++ [.abs (dscS b l)] : List Ch) ((bif (L 0) then [MPC 11 ((bif (L 1) then [(1, 9)] else []) ++ (bif (L 2) then [(2, 10)] else []) ++ (bif (L 3) then [(3, 6)] else []))] else []) ++ [.abs (dscS b l)] : List Ch) _ _ _
    rw [h1 0 (show (0 : Nat) ∈ Pl.anc (⟨[[], [0], [0], [0], [0, 1, 2, 3], [], [], [], [], [], [], [], [0, 1, 2, 3], [0, 1, 2, 3]], [0, 1, 2, 3], [(0, 11)], []⟩ : Pl) 12 by decide), h1 1 (show (1 : Nat) ∈ Pl.anc (⟨[[], [0], [0], [0], [0, 1, 2, 3], [], [], [], [], [], [], [], [0, 1, 2, 3], [0, 1, 2, 3]], [0, 1, 2, 3], [(0, 11)], []⟩ : Pl) 12 by decide), h1 2 (show (2 : Nat) ∈ Pl.anc (⟨[[], [0], [0], [0], [0, 1, 2, 3], [], [], [], [], [], [], [], [0, 1, 2, 3], [0, 1, 2, 3]], [0, 1, 2, 3], [(0, 11)], []⟩ : Pl) 12 by decide), h1 3 (show (3 : Nat) ∈ Pl.anc (⟨[[], [0], [0], [0], [0, 1, 2, 3], [], [], [], [], [], [], [], [0, 1, 2, 3], [0, 1, 2, 3]], [0, 1, 2, 3], [(0, 11)], []⟩ : Pl) 12 by decide)]
    exact X_lookC Tryz.underlying302 Tryz.underlying3 rfl rfl rfl rfl rfl rfl (by decide) rfl
  refine sm rfl ⟨trivial, ?_⟩
  refine sm rfl ?_
  refine C_le ⟨[(0, .cp [PT b 0]), (4, .cp [I64 t.kind, .s t.name, .sl t.of.length 3 (Ty.rows t.of)]), (5, .cp [I64 v.kind, I64 v.num, .s v.text, SL 1 INTc v.tags, .sl v.items.length 5 (Val.rows v.items)]), (7, I64 ((lkN r1 [(1, 9), (2, 10), (3, 6)]).getD 0))], [.abs (dscS b l)]⟩ (Le.sub [1000000] ⟨rfl, rfl, rfl, rfl, trivial⟩ rfl) ?_
  iterate 4 refine sc rfl ?_
  iterate 3 (first|refine so rfl ?_|refine sb rfl ?_)
  refine so rfl ?_
  refine C_if rfl (fun hb3 => ?_) (fun hb3 => ?_)
  · replace h := cT hb3 h
    iterate 2 refine sc rfl ?_
    first|refine so rfl ?_|refine sb rfl ?_
    refine so rfl ?_
    refine sc rfl ?_
    obtain rfl := Option.some.inj h
    exact ⟨_, [_], _, rfl, pickA_perm (is := [0]) (As := [_]) rfl, rfl, rfl, rfl⟩
  · replace h := cF hb3 h
    iterate 2 refine sc rfl ?_
    iterate 5 (first|refine so rfl ?_|refine sb rfl ?_)
    refine so rfl ?_
    refine C_if rfl (fun hb4 => ?_) (fun hb4 => ?_)
    · replace h := cT hb4 h
      iterate 2 refine sc rfl ?_
      first|refine so rfl ?_|refine sb rfl ?_
      refine so rfl ?_
      refine sc rfl ?_
      obtain rfl := Option.some.inj h
      exact ⟨_, [_], _, rfl, pickA_perm (is := [0]) (As := [_]) rfl, rfl, rfl, rfl⟩
    · replace h := cF hb4 h
      iterate 2 refine sc rfl ?_
      iterate 3 (first|refine so rfl ?_|refine sb rfl ?_)
      refine so rfl ?_
      refine C_if rfl (fun hb5 => ?_) (fun hb5 => ?_)
      · replace h := cT hb5 h
        iterate 2 refine sc rfl ?_
        obtain ⟨r6, hr7, h⟩ := bT h
        refine C_drawM (⟨[[], [], [], [], [], [], [], [], [], [], [], [], [], [0, 1, 2, 3, 4, 5, 6, 7, 8, 9, 10, 12], []], [12, 13], [(12, 8)], []⟩ : Pl) (fun L => ((bif L 12 then [.box 8 65 (bif L 13 then [I64 r6.1.tag, .s r6.1.name, I64 r6.1.ty.kind, .s r6.1.ty.name, .sl r6.1.ty.of.length 3 (Ty.rows r6.1.ty.of)] else [I64 0, .s [], I64 0, .s [], NIL])] else []) ++ [.abs (dscS b l)] : List Ch)) rfl (by kernel_rfl) (fun L L' h => by show ((bif L 12 then [.box 8 65 (bif L 13 then [I64 r6.1.tag, .s r6.1.name, I64 r6.1.ty.kind, .s r6.1.ty.name, .sl r6.1.ty.of.length 3 (Ty.rows r6.1.ty.of)] else [I64 0, .s [], I64 0, .s [], NIL])] else []) ++ [.abs (dscS b l)] : List Ch) = ((bif L' 12 then [.box 8 65 (bif L' 13 then [I64 r6.1.tag, .s r6.1.name, I64 r6.1.ty.kind, .s r6.1.ty.name, .sl r6.1.ty.of.length 3 (Ty.rows r6.1.ty.of)] else [I64 0, .s [], I64 0, .s [], NIL])] else []) ++ [.abs (dscS b l)] : List Ch); rw [h 12 (by decide), h 13 (by decide)]) rfl ?_
        refine sm rfl ⟨trivial, ?_⟩
        refine sm rfl ⟨trivial, ?_⟩
        refine sm rfl ⟨trivial, ?_⟩
        refine sm rfl ⟨trivial, ?_⟩
        refine sm rfl ⟨trivial, ?_⟩
        refine sm rfl ⟨trivial, ?_⟩
        refine sm rfl ⟨trivial, ?_⟩
        refine sm rfl ⟨trivial, ?_⟩
        refine SM (.tup [.agg (Fld.c r6.1), B r6.2]) rfl (fun L h1 h2 h3 => ?_) ?_
        · show StepX _ _ _ _ _ ((bif L 12 then [.box 8 65 (bif L 13 then [I64 r6.1.tag, .s r6.1.name, I64 r6.1.ty.kind, .s r6.1.ty.name, .sl r6.1.ty.of.length 3 (Ty.rows r6.1.ty.of)] else [I64 0, .s [], I64 0, .s [], NIL])] else []) ++ [.abs (dscS b l)] : List Ch) ((bif L 12 then [.box 8 65 (bif L 13 then [I64 r6.1.tag, .s r6.1.name, I64 r6.1.ty.kind, .s r6.1.ty.name, .sl r6.1.ty.of.length 3 (Ty.rows r6.1.ty.of)] else [I64 0, .s [], I64 0, .s [], NIL])] else []) ++ [.abs (dscS b l)] : List Ch) _ _ _
          cases L 12 <;> cases L 13 <;> first | exact X_callK [0] (DRow_w b l hP hW _ _ _ hr7) rfl rfl rfl rfl rfl | exact X_callK [1] (DRow_w b l hP hW _ _ _ hr7) rfl rfl rfl rfl rfl
        refine sm rfl ⟨trivial, ?_⟩
        refine sm rfl ⟨trivial, ?_⟩
        refine sm rfl ⟨trivial, ?_⟩
        refine SM (.bp 8 0) rfl (fun L h1 h2 h3 => ?_) ?_
        · show StepX _ _ _ _ _ ((bif L 12 then [.box 8 65 (bif L 13 then [I64 r6.1.tag, .s r6.1.name, I64 r6.1.ty.kind, .s r6.1.ty.name, .sl r6.1.ty.of.length 3 (Ty.rows r6.1.ty.of)] else [I64 0, .s [], I64 0, .s [], NIL])] else []) ++ [.abs (dscS b l)] : List Ch) ((bif true then [.box 8 65 (bif (L 13) then [I64 r6.1.tag, .s r6.1.name, I64 r6.1.ty.kind, .s r6.1.ty.name, .sl r6.1.ty.of.length 3 (Ty.rows r6.1.ty.of)] else [I64 0, .s [], I64 0, .s [], NIL])] else []) ++ [.abs (dscS b l)] : List Ch) _ _ _
          rw [show L 12 = false from h3, h2 13 (show (12 : Nat) ∈ Pl.anc (⟨[[], [], [], [], [], [], [], [], [], [], [], [], [], [0, 1, 2, 3, 4, 5, 6, 7, 8, 9, 10, 12], []], [12, 13], [(12, 8)], []⟩ : Pl) 13 by decide)]
          exact X_alloc rfl rfl rfl rfl (show ((12, 8) : Nat × Nat) ∈ Pl.cre (⟨[[], [], [], [], [], [], [], [], [], [], [], [], [], [0, 1, 2, 3, 4, 5, 6, 7, 8, 9, 10, 12], []], [12, 13], [(12, 8)], []⟩ : Pl) by decide) rfl rfl rfl
        refine SM .bad rfl (fun L h1 h2 h3 => ?_) ?_
        · show StepX _ _ _ _ _ ((bif L 12 then [.box 8 65 (bif L 13 then [I64 r6.1.tag, .s r6.1.name, I64 r6.1.ty.kind, .s r6.1.ty.name, .sl r6.1.ty.of.length 3 (Ty.rows r6.1.ty.of)] else [I64 0, .s [], I64 0, .s [], NIL])] else []) ++ [.abs (dscS b l)] : List Ch) ((bif (L 12) then [.box 8 65 (bif true then [I64 r6.1.tag, .s r6.1.name, I64 r6.1.ty.kind, .s r6.1.ty.name, .sl r6.1.ty.of.length 3 (Ty.rows r6.1.ty.of)] else [I64 0, .s [], I64 0, .s [], NIL])] else []) ++ [.abs (dscS b l)] : List Ch) _ _ _
          rw [show L 13 = false from h3, h1 12 (show (12 : Nat) ∈ Pl.anc (⟨[[], [], [], [], [], [], [], [], [], [], [], [], [], [0, 1, 2, 3, 4, 5, 6, 7, 8, 9, 10, 12], []], [12, 13], [(12, 8)], []⟩ : Pl) 13 by decide)]
          exact X_storeK rfl rfl rfl rfl rfl rfl rfl rfl rfl
        refine sm rfl ⟨trivial, ?_⟩
        refine sm rfl ?_
        show SymC _ _ _ ⟨_, [.box 8 65 [I64 r6.1.tag, .s r6.1.name, I64 r6.1.ty.kind, .s r6.1.ty.name, .sl r6.1.ty.of.length 3 (Ty.rows r6.1.ty.of)], .abs (dscS b l)]⟩ _
        refine C_le _ (Le.freezebox 8 rfl rfl rfl) ?_
        iterate 2 refine sc rfl ?_
        iterate 2 (first|refine so rfl ?_|refine sb rfl ?_)
        refine so rfl ?_
        refine C_if rfl (fun hb8 => ?_) (fun hb8 => ?_)
        · replace h := cT hb8 h
          iterate 2 refine sc rfl ?_
          first|refine so rfl ?_|refine sb rfl ?_
          refine so rfl ?_
          refine sc rfl ?_
          obtain rfl := Option.some.inj h
          exact ⟨_, [_], _, rfl, pickA_perm (is := [0]) (As := [_]) rfl, rfl, rfl, rfl⟩
        · replace h := cF hb8 h
          iterate 3 refine sc rfl ?_
          first|refine so rfl ?_|refine sb rfl ?_
          refine so rfl ?_
          refine sc rfl ?_
          obtain rfl := Option.some.inj h
          exact ⟨_, [_], _, rfl, pickA_perm (is := [0]) (As := [_]) rfl, rfl, rfl, rfl⟩
      · replace h := cF hb5 h
        iterate 4 refine sc rfl ?_
        iterate 2 (first|refine so rfl ?_|refine sb rfl ?_)
        first|refine so rfl ?_|refine sb rfl ?_
        obtain ⟨r9, hr10, h⟩ := bT h
        refine O_callA [0] (FRows_w b l hP hW rec _ _ _ hrec hr10) (by rfl) (by rfl) (by rfl) (by rfl) (by rfl) ?_
        rintro q11 cs' ⟨rfl, rfl⟩
        first|refine so rfl ?_|refine sb rfl ?_
        refine so rfl ?_
        refine sc rfl ?_
        obtain ⟨m12, hm12, h⟩ := bT h
        refine C_join ⟨[(0, .cp [PT b 0]), (4, .cp [I64 t.kind, .s t.name, .sl t.of.length 3 (Ty.rows t.of)]), (5, .cp [I64 v.kind, I64 v.num, .s v.text, SL 1 INTc v.tags, .sl v.items.length 5 (Val.rows v.items)]), (10, I64 r9), (55, B m12)], [.abs (dscS b l)]⟩ ?_ (fun s hm12s => C_le _ hm12s ?_)
        · refine sc rfl ?_
          iterate 3 (first|refine so rfl ?_|refine sb rfl ?_)
          refine O_case 52 rfl (fun hb13 => ?_) (fun hb13 => ?_)
          · replace hm12 := cT hb13 hm12
            iterate 3 (first|refine so rfl ?_|refine sb rfl ?_)
            refine so rfl ?_
            obtain rfl := Option.some.inj hm12
            exact Le.sub [1000000] ⟨rfl, rfl, rfl, rfl, rfl, trivial⟩ rfl
          · replace hm12 := cF hb13 hm12
            iterate 3 (first|refine so rfl ?_|refine sb rfl ?_)
            refine so rfl ?_
            obtain rfl := Option.some.inj hm12
            exact Le.sub [1000000] ⟨rfl, rfl, rfl, rfl, rfl, trivial⟩ rfl
        refine C_if rfl (fun hb14 => ?_) (fun hb14 => ?_)
        · replace h := cT hb14 h
          iterate 2 refine sc rfl ?_
          iterate 2 (first|refine so rfl ?_|refine sb rfl ?_)
          refine so rfl ?_
          refine sc rfl ?_
          obtain rfl := Option.some.inj h
          exact ⟨_, [_], _, rfl, pickA_perm (is := [0]) (As := [_]) rfl, rfl, rfl, rfl⟩
        · replace h := cF hb14 h
          iterate 3 refine sc rfl ?_
          iterate 2 (first|refine so rfl ?_|refine sb rfl ?_)
          first|refine so rfl ?_|refine sb rfl ?_
          obtain ⟨r15, hr16, h⟩ := bT h
          refine O_callA [0] (FWhole_w b l hP hW  _ _ _ hr16) (by rfl) (by rfl) (by rfl) (by rfl) (by rfl) ?_
          rintro q17 cs' ⟨rfl, rfl⟩
          first|refine so rfl ?_|refine sb rfl ?_
          refine so rfl ?_
          refine sc rfl ?_
          obtain rfl := Option.some.inj h
          exact ⟨_, [_], _, rfl, pickA_perm (is := [0]) (As := [_]) rfl, rfl, rfl, rfl⟩
noncomputable def FFits_F (l : List Dcl) (rec : Ty → Val → Option (Int)) (t : Ty) (v : Val) : Option (Int) :=
  Option.bind (α := Bool) (cond (t.kind == 7) (some (t.kind == 7)) (some (t.kind == 8))) (fun m1 => cond m1 (Option.bind (FList_F l rec t v) (fun r4 => some r4)) (cond (t.kind == 6) (Option.bind (FNamed_F l rec t v) (fun r8 => some r8)) (cond (t.kind == 9) (cond ((t.of.length : Int) != 1) (some 8) (chk ((0 : Int) ≤ 0 ∧ 0 < (t.of.length : Int)) (Option.bind (rec (t.of.getD (Int.toNat 0) default) v) (fun r14 => some r14)))) (Option.bind (FKind_F t.kind) (fun r16 => cond (r16 == 0) (some 8) (cond (r16 == v.kind) (some 0) (some 4)))))))
theorem FFits_wb (b : Nat) (l : List Dcl) (hP : Prep l) (hW : WellL l) (rec : Ty → Val → Option (Int)) (t : Ty) (v : Val) (r : Int) (hrec : ∀ t v r, rec t v = some r → FnA Tryz.prog 135 [.cp [PT b 0], .agg (Ty.c t), .agg (Val.c v)] [dscS b l] (fun x cs' => x = I64 r ∧ cs' = [dscS b l])) (h : FFits_F l rec t v = some r) : FnA Tryz.prog 135 [.cp [PT b 0], .agg (Ty.c t), .agg (Val.c v)] [dscS b l] (fun x cs' => x = I64 r ∧ cs' = [dscS b l]) := by
  unfold FFits_F at h
  refine FnA.intro Tryz.tabOK Tryz.wide_ Tryz.func135 rfl (by decide) rfl (fun X => ?_)
  iterate 2 refine sc rfl ?_
  first|refine so rfl ?_|refine sb rfl ?_
  refine O_le _ (Le.freezebox 4 rfl rfl rfl) ?_
  first|refine so rfl ?_|refine sb rfl ?_
  refine O_le _ (Le.freezebox 5 rfl rfl rfl) ?_
  first|refine so rfl ?_|refine sb rfl ?_
  refine so rfl ?_
  iterate 2 refine sc rfl ?_
  first|refine so rfl ?_|refine sb rfl ?_
  refine O_makeBound rfl rfl rfl rfl ?_
  first|refine so rfl ?_|refine sb rfl ?_
  refine so rfl ?_
  iterate 3 refine sc rfl ?_
  iterate 2 (first|refine so rfl ?_|refine sb rfl ?_)
  refine so rfl ?_
  iterate 4 refine sc rfl ?_
  iterate 2 (first|refine so rfl ?_|refine sb rfl ?_)
  refine so rfl ?_
  obtain ⟨m1, hm1, h⟩ := bT h
  refine C_join ⟨[(0, .cp [PT b 0]), (4, .cp [I64 t.kind, .s t.name, .sl t.of.length 3 (Ty.rows t.of)]), (5, .cp [I64 v.kind, I64 v.num, .s v.text, SL 1 INTc v.tags, .sl v.items.length 5 (Val.rows v.items)]), (7, .p (bndRP 209 [.cp [PT b 0]])), (11, I64 t.kind), (21, B m1)], [.abs (dscS b l)]⟩ ?_ (fun s hm1s => C_le _ hm1s ?_)
  · refine C_if rfl (fun hb2 => ?_) (fun hb2 => ?_)
    · replace hm1 := cT hb2 hm1
      refine sc rfl ?_
      obtain rfl := Option.some.inj hm1
      exact Le.sub [1000000] ⟨rfl, rfl, rfl, rfl, rfl, rfl, trivial⟩ rfl
    · replace hm1 := cF hb2 hm1
      refine sc rfl ?_
      iterate 2 (first|refine so rfl ?_|refine sb rfl ?_)
      refine so rfl ?_
      obtain rfl := Option.some.inj hm1
      exact Le.sub [1000000] ⟨rfl, rfl, rfl, rfl, rfl, rfl, trivial⟩ rfl
  refine C_if rfl (fun hb3 => ?_) (fun hb3 => ?_)
  · replace h := cT hb3 h
    iterate 3 refine sc rfl ?_
    iterate 2 (first|refine so rfl ?_|refine sb rfl ?_)
    first|refine so rfl ?_|refine sb rfl ?_
    obtain ⟨r4, hr5, h⟩ := bT h
    refine O_callBound [0] (fs := [.cp [PT b 0]]) (avs := [.agg (Ty.c t), .agg (Val.c v)]) (by exact FList_w b l hP hW rec _ _ _ hrec hr5) rfl (by rfl) (by rfl) (by rfl) (by rfl) (by rfl) ?_
    rintro q6 cs' ⟨rfl, rfl⟩
    first|refine so rfl ?_|refine sb rfl ?_
    refine so rfl ?_
    refine sc rfl ?_
    obtain rfl := Option.some.inj h
    exact ⟨_, [_], _, rfl, pickA_perm (is := [0]) (As := [_]) rfl, rfl, rfl, rfl⟩
  · replace h := cF hb3 h
    iterate 2 refine sc rfl ?_
    iterate 2 (first|refine so rfl ?_|refine sb rfl ?_)
    refine so rfl ?_
    refine C_if rfl (fun hb7 => ?_) (fun hb7 => ?_)
    · replace h := cT hb7 h
      refine sc rfl ?_
      first|refine so rfl ?_|refine sb rfl ?_
      refine O_makeBound rfl rfl rfl rfl ?_
      first|refine so rfl ?_|refine sb rfl ?_
      refine so rfl ?_
      iterate 2 refine sc rfl ?_
      iterate 2 (first|refine so rfl ?_|refine sb rfl ?_)
      first|refine so rfl ?_|refine sb rfl ?_
      obtain ⟨r8, hr9, h⟩ := bT h
      refine O_callBound [0] (fs := [.cp [PT b 0]]) (avs := [.agg (Ty.c t), .agg (Val.c v)]) (by exact FNamed_w b l hP hW rec _ _ _ hrec hr9) rfl (by rfl) (by rfl) (by rfl) (by rfl) (by rfl) ?_
      rintro q10 cs' ⟨rfl, rfl⟩
      first|refine so rfl ?_|refine sb rfl ?_
      refine so rfl ?_
      refine sc rfl ?_
      obtain rfl := Option.some.inj h
      exact ⟨_, [_], _, rfl, pickA_perm (is := [0]) (As := [_]) rfl, rfl, rfl, rfl⟩
    · replace h := cF hb7 h
      iterate 2 refine sc rfl ?_
      iterate 2 (first|refine so rfl ?_|refine sb rfl ?_)
      refine so rfl ?_
      refine C_if rfl (fun hb11 => ?_) (fun hb11 => ?_)
      · replace h := cT hb11 h
        iterate 3 refine sc rfl ?_
        iterate 2 (first|refine so rfl ?_|refine sb rfl ?_)
        refine O_le _ (Le.one 31 (SL 3 Ty.c t.of) rfl (.row (Ty.rows_eq _))) ?_
        iterate 2 (first|refine so rfl ?_|refine sb rfl ?_)
        refine so rfl ?_
        refine C_if rfl (fun hb12 => ?_) (fun hb12 => ?_)
        · replace h := cT hb12 h
          iterate 2 refine sc rfl ?_
          first|refine so rfl ?_|refine sb rfl ?_
          refine so rfl ?_
          refine sc rfl ?_
          obtain rfl := Option.some.inj h
          exact ⟨_, [_], _, rfl, pickA_perm (is := [0]) (As := [_]) rfl, rfl, rfl, rfl⟩
        · replace h := cF hb12 h
          iterate 2 refine sc rfl ?_
          refine C_drawD rfl (by kernel_rfl) ?_
          iterate 2 (first | refine sd rfl ?_ | refine sdb rfl ?_)
          refine sdw (SL 3 Ty.c t.of) rfl rfl rfl (.row (Ty.rows_eq _)) ?_
          obtain ⟨g13, h⟩ := gT h
          refine sd rfl (And.intro g13 ?_)
          iterate 2 (first | refine sd rfl ?_ | refine sdb rfl ?_)
          obtain ⟨r14, hr15, h⟩ := bT h
          refine D_callA [0] (hrec _ _ _ hr15) rfl rfl rfl rfl rfl ?_
          iterate 1 (first | refine sd rfl ?_ | refine sdb rfl ?_)
          refine sd rfl ?_
          refine sc rfl ?_
          obtain rfl := Option.some.inj h
          exact ⟨_, [_], _, rfl, pickA_perm (is := [0]) (As := [_]) rfl, rfl, rfl, rfl⟩
      · replace h := cF hb11 h
        iterate 3 refine sc rfl ?_
        iterate 2 (first|refine so rfl ?_|refine sb rfl ?_)
        obtain ⟨r16, hr17, h⟩ := bT h
        refine O_call (FKind_w _ _ hr17) (by rfl) (by rfl) (by rfl) (by rfl) (fun q18 hq18 => ?_)
        subst hq18
        refine so rfl ?_
        iterate 3 refine sc rfl ?_
        iterate 2 (first|refine so rfl ?_|refine sb rfl ?_)
        refine so rfl ?_
        refine C_if rfl (fun hb19 => ?_) (fun hb19 => ?_)
        · replace h := cT hb19 h
          iterate 2 refine sc rfl ?_
          first|refine so rfl ?_|refine sb rfl ?_
          refine so rfl ?_
          refine sc rfl ?_
          obtain rfl := Option.some.inj h
          exact ⟨_, [_], _, rfl, pickA_perm (is := [0]) (As := [_]) rfl, rfl, rfl, rfl⟩
        · replace h := cF hb19 h
          iterate 2 refine sc rfl ?_
          iterate 4 (first|refine so rfl ?_|refine sb rfl ?_)
          refine so rfl ?_
          refine C_if rfl (fun hb20 => ?_) (fun hb20 => ?_)
          · replace h := cT hb20 h
            iterate 2 refine sc rfl ?_
            first|refine so rfl ?_|refine sb rfl ?_
            refine so rfl ?_
            refine sc rfl ?_
            obtain rfl := Option.some.inj h
            exact ⟨_, [_], _, rfl, pickA_perm (is := [0]) (As := [_]) rfl, rfl, rfl, rfl⟩
          · replace h := cF hb20 h
            iterate 3 refine sc rfl ?_
            first|refine so rfl ?_|refine sb rfl ?_
            refine so rfl ?_
            refine sc rfl ?_
            obtain rfl := Option.some.inj h
            exact ⟨_, [_], _, rfl, pickA_perm (is := [0]) (As := [_]) rfl, rfl, rfl, rfl⟩
noncomputable def FFits_X (l : List Dcl) : Nat → Ty → Val → Option (Int)
  | 0 => fun _ _ => none
  | n + 1 => FFits_F l (FFits_X l n)
theorem FFits_wn (b : Nat) (l : List Dcl) (hP : Prep l) (hW : WellL l) : ∀ (n : Nat) (t : Ty) (v : Val) (r : Int), FFits_X l n t v = some r → FnA Tryz.prog 135 [.cp [PT b 0], .agg (Ty.c t), .agg (Val.c v)] [dscS b l] (fun x cs' => x = I64 r ∧ cs' = [dscS b l])
  | 0, _, _, _, h => by cases h
  | n + 1, t, v, r, h => FFits_wb b l hP hW (FFits_X l n) t v r (fun t v r hr => FFits_wn b l hP hW n t v r hr) h
theorem FFits_w (b : Nat) (l : List Dcl) (hP : Prep l) (hW : WellL l) (t : Ty) (v : Val) (r : Int) (h : FFits_X l FU t v = some r) : FnA Tryz.prog 135 [.cp [PT b 0], .agg (Ty.c t), .agg (Val.c v)] [dscS b l] (fun x cs' => x = I64 r ∧ cs' = [dscS b l]) := FFits_wn b l hP hW FU t v r h
end Go.Proofs

namespace Go.Proofs
open Go.Sy Go.Lib

def shapeA (k : Int) : AV :=
  if k = 1 then .ifc 351 (.agg (Sgl.c ⟨0, 1⟩)) else if k = 2 ∨ k = 3 then .ifc 351 (.agg (Sgl.c ⟨-9223372036854775808, 9223372036854775807⟩)) else if k = 6 then .ifc 351 (.agg (Sgl.c ⟨0, 9999⟩))
  else if k = 4 ∨ k = 5 then .ifc 353 (.agg (Wds.c ⟨k == 4⟩)) else if k = 7 then .ifc 354 (.agg (Mny.c ⟨⟩)) else if k = 8 then .ifc 355 (.agg (Prs.c ⟨⟩))
  else if k = 9 then .ifc 357 (.agg (Tgd.c ⟨0⟩)) else if k = 10 then .ifc 357 (.agg (Tgd.c ⟨1⟩)) else .v .nilIface

theorem shape_c (k : Int) : FnP Tryz.prog 206 [I64 k] (fun r => r = shapeA k) := by
  refine FnP.intro Tryz.tabOK Tryz.wide_ Tryz.func206 rfl (by decide) rfl (fun X => ?_)
  repeat (first|refine sc rfl ?_|refine so rfl ?_|refine sb rfl ?_)
  refine C_if rfl (fun c1 => ?_) (fun c1 => ?_) <;> simp only [pL] at c1
  · skip
    repeat (first | refine O_Xd (X_ifc Tryz.underlying351 (fun ms h => by cases h) rfl rfl rfl) ?_ | refine sc rfl ?_ | refine so rfl ?_ | refine sb rfl ?_)
    exact ⟨_, rfl, rfl, by rw [shapeA, if_pos c1]; rfl⟩
  repeat (first|refine sc rfl ?_|refine so rfl ?_|refine sb rfl ?_)
  refine C_if rfl (fun c2 => ?_) (fun c2 => ?_) <;> simp only [pL] at c2
  · repeat (first|refine sc rfl ?_|refine so rfl ?_|refine sb rfl ?_)
    refine C_true rfl (by simpa using c2) ?_
    repeat (first | refine O_Xd (X_ifc Tryz.underlying351 (fun ms h => by cases h) rfl rfl rfl) ?_ | refine sc rfl ?_ | refine so rfl ?_ | refine sb rfl ?_)
    exact ⟨_, rfl, rfl, by rw [shapeA, if_neg c1, if_pos (.inl c2)]; rfl⟩
  repeat (first|refine sc rfl ?_|refine so rfl ?_|refine sb rfl ?_)
  refine C_if rfl (fun c3 => ?_) (fun c3 => ?_) <;> simp only [pL] at c3
  · skip
    repeat (first | refine O_Xd (X_ifc Tryz.underlying351 (fun ms h => by cases h) rfl rfl rfl) ?_ | refine sc rfl ?_ | refine so rfl ?_ | refine sb rfl ?_)
    exact ⟨_, rfl, rfl, by rw [shapeA, if_neg c1, if_pos (.inr c3)]; rfl⟩
  repeat (first|refine sc rfl ?_|refine so rfl ?_|refine sb rfl ?_)
  refine C_if rfl (fun c6 => ?_) (fun c6 => ?_) <;> simp only [pL] at c6
  · skip
    repeat (first | refine O_Xd (X_ifc Tryz.underlying351 (fun ms h => by cases h) rfl rfl rfl) ?_ | refine sc rfl ?_ | refine so rfl ?_ | refine sb rfl ?_)
    exact ⟨_, rfl, rfl, by rw [shapeA, if_neg c1, if_neg (by omega), if_pos c6]; rfl⟩
  repeat (first|refine sc rfl ?_|refine so rfl ?_|refine sb rfl ?_)
  refine C_if rfl (fun c4 => ?_) (fun c4 => ?_) <;> simp only [pL] at c4
  · repeat (first|refine sc rfl ?_|refine so rfl ?_|refine sb rfl ?_)
    refine C_true rfl (by simpa using c4) ?_
    repeat (first | refine O_Xd (X_ifc Tryz.underlying353 (fun ms h => by cases h) rfl rfl rfl) ?_ | refine sc rfl ?_ | refine so rfl ?_ | refine sb rfl ?_)
    exact ⟨_, rfl, rfl, by rw [shapeA, if_neg c1, if_neg (by omega), if_neg c6, if_pos (.inl c4)]; rfl⟩
  repeat (first|refine sc rfl ?_|refine so rfl ?_|refine sb rfl ?_)
  refine C_if rfl (fun c5 => ?_) (fun c5 => ?_) <;> simp only [pL] at c5
  · skip
    repeat (first | refine O_Xd (X_ifc Tryz.underlying353 (fun ms h => by cases h) rfl rfl rfl) ?_ | refine sc rfl ?_ | refine so rfl ?_ | refine sb rfl ?_)
    exact ⟨_, rfl, rfl, by rw [shapeA, if_neg c1, if_neg (by omega), if_neg c6, if_pos (.inr c5)]; rfl⟩
  repeat (first|refine sc rfl ?_|refine so rfl ?_|refine sb rfl ?_)
  refine C_if rfl (fun c7 => ?_) (fun c7 => ?_) <;> simp only [pL] at c7
  · skip
    repeat (first | refine O_Xd (X_ifc Tryz.underlying354 (fun ms h => by cases h) rfl rfl rfl) ?_ | refine sc rfl ?_ | refine so rfl ?_ | refine sb rfl ?_)
    exact ⟨_, rfl, rfl, by rw [shapeA, if_neg c1, if_neg (by omega), if_neg c6, if_neg (by omega), if_pos c7]; rfl⟩
  repeat (first|refine sc rfl ?_|refine so rfl ?_|refine sb rfl ?_)
  refine C_if rfl (fun c8 => ?_) (fun c8 => ?_) <;> simp only [pL] at c8
  · skip
    repeat (first | refine O_Xd (X_ifc Tryz.underlying355 (fun ms h => by cases h) rfl rfl rfl) ?_ | refine sc rfl ?_ | refine so rfl ?_ | refine sb rfl ?_)
    exact ⟨_, rfl, rfl, by rw [shapeA, if_neg c1, if_neg (by omega), if_neg c6, if_neg (by omega), if_neg c7, if_pos c8]; rfl⟩
  repeat (first|refine sc rfl ?_|refine so rfl ?_|refine sb rfl ?_)
  refine C_if rfl (fun c9 => ?_) (fun c9 => ?_) <;> simp only [pL] at c9
  · skip
    repeat (first | refine O_Xd (X_ifc Tryz.underlying357 (fun ms h => by cases h) rfl rfl rfl) ?_ | refine sc rfl ?_ | refine so rfl ?_ | refine sb rfl ?_)
    exact ⟨_, rfl, rfl, by rw [shapeA, if_neg c1, if_neg (by omega), if_neg c6, if_neg (by omega), if_neg c7, if_neg c8, if_pos c9]; rfl⟩
  repeat (first|refine sc rfl ?_|refine so rfl ?_|refine sb rfl ?_)
  refine C_if rfl (fun ca => ?_) (fun ca => ?_) <;> simp only [pL] at ca
  · skip
    repeat (first | refine O_Xd (X_ifc Tryz.underlying357 (fun ms h => by cases h) rfl rfl rfl) ?_ | refine sc rfl ?_ | refine so rfl ?_ | refine sb rfl ?_)
    exact ⟨_, rfl, rfl, by rw [shapeA, if_neg c1, if_neg (by omega), if_neg c6, if_neg (by omega), if_neg c7, if_neg c8, if_neg c9, if_pos ca]; rfl⟩
  repeat (first|refine sc rfl ?_|refine so rfl ?_|refine sb rfl ?_)
  exact ⟨_, rfl, rfl, by rw [shapeA, if_neg c1, if_neg (by omega), if_neg c6, if_neg (by omega), if_neg c7, if_neg c8, if_neg c9, if_neg ca]⟩

def idxF (q : Val → Option Bool) : List Val → Int → Option Int
  | [], _ => some (-1)
  | x :: xs, i => Option.bind (q x) (fun b => cond b (some i) (idxF q xs (i + 1)))

theorem IndexFunc_w (g : FuncId) (q : Val → Option Bool) (hq : ∀ x r, q x = some r → FnP Tryz.prog g [.agg (Val.c x)] (· = B r)) (vs : List Val) (hv : vs.length ≤ 1000000) (r : Int) (h : idxF q vs 0 = some r) :
    FnP Tryz.prog 258 [SL 5 Val.c vs, .v (.func (.func g) #[] #[])] (· = I64 r) := by
  refine FnP.intro Tryz.tabOK Tryz.wide_ Tryz.func258 rfl (by decide) rfl (fun X => ?_)
  repeat (first|refine sc rfl ?_|refine so rfl ?_|refine sb rfl ?_)
  refine C_loop (fun i : Nat => ⟨[(0, SL 5 Val.c vs), (1, .v (.func (.func g) #[] #[])), (7, I64 (vs.length : Nat)), (8, I64 (i : Nat))], []⟩) (fun i => i ≤ vs.length ∧ idxF q (vs.drop i) (i : Nat) = some r) (fun i => vs.length - i) 0 ⟨Nat.zero_le _, h⟩ (Le.sub [] ⟨rfl, rfl, rfl, rfl, trivial⟩ rfl) ?_
  rintro i ⟨hi, hF⟩
  repeat (first|refine sc rfl ?_|refine so rfl ?_|refine sb rfl ?_)
  refine C_if rfl (fun m1 => ?_) (fun m1 => ?_) <;> simp only [pL] at m1
  · have hil : i < vs.length := by omega
    rw [drop_at hil] at hF
    simp only [idxF] at hF
    obtain ⟨b, hb, hF⟩ := bT hF
    repeat (first|refine sc rfl ?_|refine so rfl ?_|refine sb rfl ?_)
    refine ⟨by omega, ?_⟩
    rw [Int.toNat_natCast]
    repeat (first|refine sc rfl ?_|refine so rfl ?_|refine sb rfl ?_)
    refine O_callAV (isClo_func g) rfl (avs := [.agg (Val.c (vs.getD i default))]) (cs := []) (cr := []) (by exact (hq _ _ hb).toA []) rfl (by rfl) (by rfl) (by rfl) (.refl _) (by rfl) ?_
    rintro r' cs' ⟨rfl, rfl⟩
    repeat (first|refine sc rfl ?_|refine so rfl ?_|refine sb rfl ?_)
    cases b with
    | true =>
      obtain rfl := Option.some.inj hF
      refine C_true rfl rfl ?_
      repeat (first|refine sc rfl ?_|refine so rfl ?_|refine sb rfl ?_)
      exact ⟨_, rfl, rfl, rfl⟩
    | false =>
      refine C_false rfl rfl ?_
      repeat (first|refine sc rfl ?_|refine so rfl ?_|refine sb rfl ?_)
      rw [w64 (x := (i : Int) + 1) (by omega) (by omega)]
      exact ⟨i + 1, ⟨hil, hF⟩, by omega, Le.sub [] ⟨rfl, rfl, rfl, rfl, trivial⟩ rfl⟩
  · obtain rfl : i = vs.length := by omega
    rw [List.drop_length] at hF
    obtain rfl := Option.some.inj hF
    repeat (first|refine sc rfl ?_|refine so rfl ?_|refine sb rfl ?_)
    exact ⟨_, rfl, rfl, rfl⟩

theorem Contains_w (g : FuncId) (q : Val → Option Bool) (hq : ∀ x r, q x = some r → FnP Tryz.prog g [.agg (Val.c x)] (· = B r)) (vs : List Val) (hv : vs.length ≤ 1000000) (r : Int) (h : idxF q vs 0 = some r) :
    FnP Tryz.prog 207 [SL 5 Val.c vs, .v (.func (.func g) #[] #[])] (· = B (decide (0 ≤ r))) := by
  refine FnP.intro Tryz.tabOK Tryz.wide_ Tryz.func207 rfl (by decide) rfl (fun X => ?_)
  repeat (first|refine sc rfl ?_|refine so rfl ?_|refine sb rfl ?_)
  refine O_call (IndexFunc_w g q hq vs hv r h) (by rfl) (by rfl) (by rfl) (by rfl) (fun r' hr => ?_)
  subst hr
  repeat (first|refine sc rfl ?_|refine so rfl ?_|refine sb rfl ?_)
  exact ⟨_, rfl, rfl, rfl⟩

theorem notWell_w (rec : Val → Option Bool) (hrec : ∀ v r, rec v = some r → FnP Tryz.prog 133 [.agg (Val.c v)] (· = B r)) (x : Val) (r : Bool) (h : Option.bind (rec x) (fun b => some (!b)) = some r) :
    FnP Tryz.prog 208 [.agg (Val.c x)] (· = B r) := by
  obtain ⟨b, hb, h⟩ := bT h
  obtain rfl := Option.some.inj h
  refine FnP.intro Tryz.tabOK Tryz.wide_ Tryz.func208 rfl (by decide) rfl (fun X => ?_)
  repeat (first|refine sc rfl ?_|refine so rfl ?_|refine sb rfl ?_)
  refine O_call (hrec _ _ hb) (by rfl) (by rfl) (by rfl) (by rfl) (fun r' hr => ?_)
  subst hr
  repeat (first|refine sc rfl ?_|refine so rfl ?_|refine sb rfl ?_)
  exact ⟨_, rfl, rfl, rfl⟩
end Go.Proofs

namespace Go.Proofs
open Go.Sy Go.Lib

theorem BadNil_c : FnP Tryz.prog 351 [.s []] (· = I64 (-1)) := by
  refine FnP.intro Tryz.tabOK Tryz.wide_ Tryz.func351 rfl (by decide) rfl (fun X => ?_)
  repeat (first|refine sc rfl ?_|refine so rfl ?_|refine sb rfl ?_)
  refine O_range rfl rfl rfl rfl rfl rfl rfl ?_
  repeat (first|refine sc rfl ?_|refine so rfl ?_|refine sb rfl ?_)
  refine C_loop (fun _ : Unit => ⟨[(8, .bp 8 0)], [.obj 8 (.stringIter ⟨([] : List UInt8).toArray⟩ 0)]⟩) (fun _ => True) (fun _ => 0) () trivial (Le.sub [8] ⟨rfl, trivial⟩ rfl) ?_
  rintro _ _
  repeat (first|refine sc rfl ?_|refine so rfl ?_|refine sb rfl ?_)
  refine O_next rfl rfl rfl rfl (fun hlt => absurd hlt (Nat.not_lt_zero _)) (fun hlt => ?_)
  repeat (first|refine sc rfl ?_|refine so rfl ?_|refine sb rfl ?_)
  refine C_false rfl rfl ?_
  repeat (first|refine sc rfl ?_|refine so rfl ?_|refine sb rfl ?_)
  exact ⟨_, rfl, rfl, rfl⟩
noncomputable def ValidV_F (s : List UInt8) : Option Bool := if s = [] then some true else none
theorem ValidV_w (s : List UInt8) (r : Bool) (h : ValidV_F s = some r) : FnP Tryz.prog 350 [.s s] (· = B r) := by
  unfold ValidV_F at h
  split at h
  · rename_i hs
    subst hs
    obtain rfl := Option.some.inj h
    refine FnP.intro Tryz.tabOK Tryz.wide_ Tryz.func350 rfl (by decide) rfl (fun X => ?_)
    repeat (first|refine sc rfl ?_|refine so rfl ?_|refine sb rfl ?_)
    refine O_call BadNil_c (by rfl) (by rfl) (by rfl) (by rfl) (fun r' hr => ?_)
    subst hr
    repeat (first|refine sc rfl ?_|refine so rfl ?_|refine sb rfl ?_)
    exact ⟨_, rfl, rfl, rfl⟩
  · cases h
def CmpV_F (a b : Val) : Option Int := none
theorem CmpV_w (a b : Val) (r : Int) (h : CmpV_F a b = some r) : FnP Tryz.prog 357 [.agg (Val.c a), .agg (Val.c b)] (· = I64 r) := by cases h
end Go.Proofs

namespace Go.Proofs
open Go.Sy Go.Lib

noncomputable def WdsV_F (sh : Wds) (v : Val) : Option (Bool) :=
  Option.bind (α := Bool) (Option.bind (BareV_F v) (fun r2 => cond r2 (cond (v.num == 0) (cond (!sh.right) (some true) (Option.bind (ValidV_F v.text) (fun r8 => some r8))) (some false)) (some false))) (fun m1 => some m1)
theorem WdsV_w (sh : Wds) (v : Val) (r : Bool) (h : WdsV_F sh v = some r) : FnP Tryz.prog 349 [.agg (Wds.c sh), .agg (Val.c v)] (· = B r) := by
  unfold WdsV_F at h
  refine FnP.intro Tryz.tabOK Tryz.wide_ Tryz.func349 rfl (by decide) rfl (fun X => ?_)
  iterate 2 refine sc rfl ?_
  first|refine so rfl ?_|refine sb rfl ?_
  refine O_le _ (Le.freezebox 2 rfl rfl rfl) ?_
  first|refine so rfl ?_|refine sb rfl ?_
  refine O_le _ (Le.freezebox 3 rfl rfl rfl) ?_
  first|refine so rfl ?_|refine sb rfl ?_
  refine so rfl ?_
  refine sc rfl ?_
  obtain ⟨m1, hm1, h⟩ := bT h
  refine C_join ⟨[(4, B m1)], []⟩ ?_ (fun s hm1s => C_le _ hm1s ?_)
  · refine sc rfl ?_
    first|refine so rfl ?_|refine sb rfl ?_
    obtain ⟨r2, hr3, hm1⟩ := bT hm1
    refine O_call (BareV_w _ _ hr3) (by rfl) (by rfl) (by rfl) (by rfl) (fun q4 hq4 => ?_)
    subst hq4
    first|refine so rfl ?_|refine sb rfl ?_
    refine O_case 7 rfl (fun hb5 => ?_) (fun hb5 => ?_)
    · replace hm1 := cT hb5 hm1
      iterate 5 (first|refine so rfl ?_|refine sb rfl ?_)
      refine O_case 12 rfl (fun hb6 => ?_) (fun hb6 => ?_)
      · replace hm1 := cT hb6 hm1
        iterate 4 (first|refine so rfl ?_|refine sb rfl ?_)
        refine O_case 16 rfl (fun hb7 => ?_) (fun hb7 => ?_)
        · replace hm1 := cT hb7 hm1
          iterate 6 (first|refine so rfl ?_|refine sb rfl ?_)
          refine so rfl ?_
          obtain rfl := Option.some.inj hm1
          exact Le.sub [] ⟨rfl, trivial⟩ rfl
        · replace hm1 := cF hb7 hm1
          iterate 2 (first|refine so rfl ?_|refine sb rfl ?_)
          obtain ⟨r8, hr9, hm1⟩ := bT hm1
          refine O_call (ValidV_w _ _ hr9) (by rfl) (by rfl) (by rfl) (by rfl) (fun q10 hq10 => ?_)
          subst hq10
          iterate 3 (first|refine so rfl ?_|refine sb rfl ?_)
          refine so rfl ?_
          obtain rfl := Option.some.inj hm1
          exact Le.sub [] ⟨rfl, trivial⟩ rfl
      · replace hm1 := cF hb6 hm1
        iterate 10 (first|refine so rfl ?_|refine sb rfl ?_)
        refine so rfl ?_
        obtain rfl := Option.some.inj hm1
        exact Le.sub [] ⟨rfl, trivial⟩ rfl
    · replace hm1 := cF hb5 hm1
      iterate 15 (first|refine so rfl ?_|refine sb rfl ?_)
      refine so rfl ?_
      obtain rfl := Option.some.inj hm1
      exact Le.sub [] ⟨rfl, trivial⟩ rfl
  refine sc rfl ?_
  obtain rfl := Option.some.inj h
  exact ⟨_, rfl, rfl, rfl⟩
noncomputable def PrsV_L7 (sh : Prs) (v : Val) (m1 : Bool) (s7 : Int) : Option ((Int) ⊕ ((Bool) ⊕ (Unit))) :=
  cond (decide (s7 < (v.items.length : Int))) (chk ((0 : Int) ≤ s7 ∧ s7 < (v.items.length : Int)) (Option.bind (KeyedV_F ((v.items.getD (Int.toNat s7) default).kind)) (fun r15 => cond (!r15) (some (Sum.inr ((Sum.inl false)))) (cond (decide (0 < s7)) (chk ((0 : Int) ≤ 0 ∧ 0 < (v.items.length : Int)) (cond (((v.items.getD (Int.toNat s7) default).kind) != ((v.items.getD (Int.toNat 0) default).kind)) (some (Sum.inr ((Sum.inl false)))) (chk ((0 : Int) ≤ (IntKind.i64.wrap (s7 - 2)) ∧ (IntKind.i64.wrap (s7 - 2)) < (v.items.length : Int)) (Option.bind (CmpV_F (v.items.getD (Int.toNat (IntKind.i64.wrap (s7 - 2))) default) (v.items.getD (Int.toNat s7) default)) (fun r22 => cond (decide (0 ≤ r22)) (some (Sum.inr ((Sum.inl false)))) (some (Sum.inl (IntKind.i64.wrap (s7 + 2))))))))) (some (Sum.inl (IntKind.i64.wrap (s7 + 2)))))))) (some (Sum.inr ((Sum.inr ()))))
noncomputable def PrsV_F (sh : Prs) (v : Val) : Option (Bool) :=
  Option.bind (α := Bool) (cond (v.num != 0) (some true) (cond (!(v.text == [])) (some true) (cond (decide (0 < (v.tags.length : Int))) (some true) (chk ((2 : Int) ≠ 0) (some ((Int.tmod (v.items.length : Int) 2) != 0)))))) (fun m1 => cond m1 (some false) (Option.bind (Iter (PrsV_L7 sh v m1) 0) (Sum.elim (fun c25 => some c25) (fun b12 => some true))))
theorem PrsV_w (sh : Prs) (v : Val) (r : Bool) (h : PrsV_F sh v = some r) : FnP Tryz.prog 355 [.agg (Prs.c (⟨⟩ : Prs)), .agg (Val.c v)] (· = B r) := by
  unfold PrsV_F at h
  refine FnP.intro Tryz.tabOK Tryz.wide_ Tryz.func355 rfl (by decide) rfl (fun X => ?_)
  iterate 2 refine sc rfl ?_
  first|refine so rfl ?_|refine sb rfl ?_
  refine O_le _ (Le.freezebox 2 rfl rfl rfl) ?_
  first|refine so rfl ?_|refine sb rfl ?_
  refine O_le _ (Le.freezebox 3 rfl rfl rfl) ?_
  first|refine so rfl ?_|refine sb rfl ?_
  refine so rfl ?_
  iterate 2 refine sc rfl ?_
  obtain ⟨m1, hm1, h⟩ := bT h
  refine C_join ⟨[(3, .cp [I64 v.kind, I64 v.num, .s v.text, SL 1 INTc v.tags, .sl v.items.length 5 (Val.rows v.items)]), (27, B m1)], []⟩ ?_ (fun s hm1s => C_le _ hm1s ?_)
  · refine sc rfl ?_
    iterate 4 (first|refine so rfl ?_|refine sb rfl ?_)
    refine O_case 10 rfl (fun hb2 => ?_) (fun hb2 => ?_)
    · replace hm1 := cT hb2 hm1
      iterate 17 (first|refine so rfl ?_|refine sb rfl ?_)
      refine so rfl ?_
      obtain rfl := Option.some.inj hm1
      exact Le.sub [] ⟨rfl, rfl, trivial⟩ rfl
    · replace hm1 := cF hb2 hm1
      iterate 5 (first|refine so rfl ?_|refine sb rfl ?_)
      refine O_case 15 rfl (fun hb3 => ?_) (fun hb3 => ?_)
      · replace hm1 := cT hb3 hm1
        iterate 12 (first|refine so rfl ?_|refine sb rfl ?_)
        refine so rfl ?_
        obtain rfl := Option.some.inj hm1
        exact Le.sub [] ⟨rfl, rfl, trivial⟩ rfl
      · replace hm1 := cF hb3 hm1
        iterate 6 (first|refine so rfl ?_|refine sb rfl ?_)
        refine O_case 21 rfl (fun hb4 => ?_) (fun hb4 => ?_)
        · replace hm1 := cT hb4 hm1
          iterate 6 (first|refine so rfl ?_|refine sb rfl ?_)
          refine so rfl ?_
          obtain rfl := Option.some.inj hm1
          exact Le.sub [] ⟨rfl, rfl, trivial⟩ rfl
        · replace hm1 := cF hb4 hm1
          iterate 2 (first|refine so rfl ?_|refine sb rfl ?_)
          refine O_le _ (Le.one 23 (SL 5 Val.c v.items) rfl (.row (Val.rows_eq _))) ?_
          first|refine so rfl ?_|refine sb rfl ?_
          obtain ⟨g5, hm1⟩ := gT hm1
          refine so rfl (And.intro g5 ?_)
          iterate 2 (first|refine so rfl ?_|refine sb rfl ?_)
          refine so rfl ?_
          obtain rfl := Option.some.inj hm1
          exact Le.sub [] ⟨rfl, rfl, trivial⟩ rfl
  refine C_if rfl (fun hb6 => ?_) (fun hb6 => ?_)
  · replace h := cT hb6 h
    iterate 2 refine sc rfl ?_
    first|refine so rfl ?_|refine sb rfl ?_
    refine so rfl ?_
    refine sc rfl ?_
    obtain rfl := Option.some.inj h
    exact ⟨_, rfl, rfl, rfl⟩
  · replace h := cF hb6 h
    iterate 4 refine sc rfl ?_
    first|refine so rfl ?_|refine sb rfl ?_
    refine so rfl ?_
    obtain ⟨o8, ho8, h⟩ := bT h
    refine C_joinP ((fun b12 : Unit => (⟨[], []⟩ : St)) (match o8 with | (.inl b12) => default | (.inr b12) => b12)) (∃ b, o8 = (.inr b)) ?_ (fun s hs hp => ?_)
    · refine sc rfl ?_
      refine C_iter (fun s7 : Int => ⟨[(3, .cp [I64 v.kind, I64 v.num, .s v.text, SL 1 INTc v.tags, .sl v.items.length 5 (Val.rows v.items)]), (5, I64 s7)], []⟩) ho8 (Le.sub [] ⟨rfl, rfl, trivial⟩ rfl) (fun s7 y9 hy10 hr11 => ?_)
      unfold PrsV_L7 at hy10
      iterate 3 refine sc rfl ?_
      iterate 3 (first|refine so rfl ?_|refine sb rfl ?_)
      refine O_le _ (Le.one 30 (SL 5 Val.c v.items) rfl (.row (Val.rows_eq _))) ?_
      iterate 2 (first|refine so rfl ?_|refine sb rfl ?_)
      refine so rfl ?_
      refine C_if rfl (fun hb13 => ?_) (fun hb13 => ?_)
      · replace hy10 := cT hb13 hy10
        iterate 5 refine sc rfl ?_
        iterate 2 (first|refine so rfl ?_|refine sb rfl ?_)
        refine O_le _ (Le.one 36 (SL 5 Val.c v.items) rfl (.row (Val.rows_eq _))) ?_
        first|refine so rfl ?_|refine sb rfl ?_
        obtain ⟨g14, hy10⟩ := gT hy10
        refine so rfl (And.intro g14 ?_)
        first|refine so rfl ?_|refine sb rfl ?_
        iterate 2 (first|refine so rfl ?_|refine sb rfl ?_)
        refine O_le _ (Le.freezebox 6 rfl rfl rfl) ?_
        refine so rfl ?_
        refine sc rfl ?_
        refine C_drawD rfl (by kernel_rfl) ?_
        iterate 2 (first | refine sd rfl ?_ | refine sdb rfl ?_)
        obtain ⟨r15, hr16, hy10⟩ := bT hy10
        refine D_call (KeyedV_w _ _ hr16) rfl rfl rfl rfl ?_
        iterate 2 (first | refine sd rfl ?_ | refine sdb rfl ?_)
        refine D_case 4 rfl (fun hb17 => ?_) (fun hb17 => ?_)
        · replace hy10 := cT hb17 hy10
          iterate 24 (first | refine sd rfl ?_ | refine sdb rfl ?_)
          refine sd rfl ?_
          refine C_true rfl rfl ?_
          iterate 2 refine sc rfl ?_
          first|refine so rfl ?_|refine sb rfl ?_
          refine so rfl ?_
          refine sc rfl ?_
          obtain rfl := Option.some.inj hy10
          have ho82 := hr11 _ rfl
          subst ho82
          obtain rfl := Option.some.inj h
          exact ⟨_, rfl, rfl, rfl⟩
        · replace hy10 := cF hb17 hy10
          iterate 3 (first | refine sd rfl ?_ | refine sdb rfl ?_)
          refine D_case 7 rfl (fun hb18 => ?_) (fun hb18 => ?_)
          · replace hy10 := cT hb18 hy10
            iterate 3 (first | refine sd rfl ?_ | refine sdb rfl ?_)
            refine sdw (SL 5 Val.c v.items) rfl rfl rfl (.row (Val.rows_eq _)) ?_
            obtain ⟨g19, hy10⟩ := gT hy10
            refine sd rfl (And.intro g19 ?_)
            iterate 4 (first | refine sd rfl ?_ | refine sdb rfl ?_)
            refine D_case 16 rfl (fun hb20 => ?_) (fun hb20 => ?_)
            · replace hy10 := cT hb20 hy10
              iterate 12 (first | refine sd rfl ?_ | refine sdb rfl ?_)
              refine sd rfl ?_
              refine C_true rfl rfl ?_
              iterate 2 refine sc rfl ?_
              first|refine so rfl ?_|refine sb rfl ?_
              refine so rfl ?_
              refine sc rfl ?_
              obtain rfl := Option.some.inj hy10
              have ho82 := hr11 _ rfl
              subst ho82
              obtain rfl := Option.some.inj h
              exact ⟨_, rfl, rfl, rfl⟩
            · replace hy10 := cF hb20 hy10
              iterate 1 (first | refine sd rfl ?_ | refine sdb rfl ?_)
              refine sdw (SL 5 Val.c v.items) rfl rfl rfl (.row (Val.rows_eq _)) ?_
              iterate 2 (first | refine sd rfl ?_ | refine sdb rfl ?_)
              obtain ⟨g21, hy10⟩ := gT hy10
              refine sd rfl (And.intro g21 ?_)
              iterate 2 (first | refine sd rfl ?_ | refine sdb rfl ?_)
              obtain ⟨r22, hr23, hy10⟩ := bT hy10
              refine D_call (CmpV_w _ _ _ hr23) rfl rfl rfl rfl ?_
              iterate 4 (first | refine sd rfl ?_ | refine sdb rfl ?_)
              refine sd rfl ?_
              refine C_if rfl (fun hb24 => ?_) (fun hb24 => ?_)
              · replace hy10 := cT hb24 hy10
                iterate 2 refine sc rfl ?_
                first|refine so rfl ?_|refine sb rfl ?_
                refine so rfl ?_
                refine sc rfl ?_
                obtain rfl := Option.some.inj hy10
                have ho82 := hr11 _ rfl
                subst ho82
                obtain rfl := Option.some.inj h
                exact ⟨_, rfl, rfl, rfl⟩
              · replace hy10 := cF hb24 hy10
                iterate 2 refine sc rfl ?_
                iterate 3 (first|refine so rfl ?_|refine sb rfl ?_)
                refine so rfl ?_
                obtain rfl := Option.some.inj hy10
                exact ⟨_, rfl, Le.sub [] ⟨rfl, rfl, trivial⟩ rfl⟩
          · replace hy10 := cF hb18 hy10
            iterate 21 (first | refine sd rfl ?_ | refine sdb rfl ?_)
            refine sd rfl ?_
            refine C_false rfl rfl ?_
            iterate 2 refine sc rfl ?_
            iterate 3 (first|refine so rfl ?_|refine sb rfl ?_)
            refine so rfl ?_
            obtain rfl := Option.some.inj hy10
            exact ⟨_, rfl, Le.sub [] ⟨rfl, rfl, trivial⟩ rfl⟩
      · replace hy10 := cF hb13 hy10
        refine sc rfl ?_
        obtain rfl := Option.some.inj hy10
        have ho82 := hr11 _ rfl
        subst ho82
        exact ⟨Le.sub [] trivial rfl, ⟨_, rfl⟩⟩
    obtain ⟨b12, rfl⟩ := hp
    refine C_le ⟨[], []⟩ hs ?_
    iterate 2 refine sc rfl ?_
    first|refine so rfl ?_|refine sb rfl ?_
    refine so rfl ?_
    refine sc rfl ?_
    obtain rfl := Option.some.inj h
    exact ⟨_, rfl, rfl, rfl⟩
end Go.Proofs

namespace Go.Proofs
open Go.Sy Go.Lib

noncomputable def vheadF (v : Val) : Option Bool :=
  if v.kind = 1 then SglV_F ⟨0, 1⟩ v else if v.kind = 2 ∨ v.kind = 3 then SglV_F ⟨-9223372036854775808, 9223372036854775807⟩ v else if v.kind = 6 then SglV_F ⟨0, 9999⟩ v
  else if v.kind = 4 ∨ v.kind = 5 then WdsV_F ⟨v.kind == 4⟩ v else if v.kind = 7 then MnyV_F ⟨⟩ v else if v.kind = 8 then PrsV_F ⟨⟩ v
  else if v.kind = 9 then TgdV_F ⟨0⟩ v else if v.kind = 10 then TgdV_F ⟨1⟩ v else some false
noncomputable def vnotq (rec : Val → Option Bool) (x : Val) : Option Bool := Option.bind (rec x) (fun b => some (!b))
noncomputable def vtailF (rec : Val → Option Bool) (v : Val) (h : Bool) : Option Bool := cond h (Option.bind (idxF (vnotq rec) v.items 0) (fun r => some (!(decide (0 ≤ r))))) (some false)

theorem inv_sgl : Invokes Tryz.prog 351 "concourse/value.well" 347 := fun v args w => by rfl
theorem inv_wds : Invokes Tryz.prog 353 "concourse/value.well" 349 := fun v args w => by rfl
theorem inv_mny : Invokes Tryz.prog 354 "concourse/value.well" 354 := fun v args w => by rfl
theorem inv_prs : Invokes Tryz.prog 355 "concourse/value.well" 355 := fun v args w => by rfl
theorem inv_tgd : Invokes Tryz.prog 357 "concourse/value.well" 365 := fun v args w => by rfl

theorem Well_core (rec : Val → Option Bool) (hrec : ∀ v r, rec v = some r → FnP Tryz.prog 133 [.agg (Val.c v)] (· = B r)) (v : Val) (hv : v.items.length ≤ 1000000) (t : Nat) (y : AV) (f : FuncId) (hm : Invokes Tryz.prog t "concourse/value.well" f) (hs : shapeA v.kind = .ifc t y) (hy : y.imm = true)
    (h : Bool) (hf : FnP Tryz.prog f [y, .agg (Val.c v)] (· = B h)) (r : Bool) (hr : vtailF rec v h = some r) : FnP Tryz.prog 133 [.agg (Val.c v)] (· = B r) := by
  refine FnP.intro Tryz.tabOK Tryz.wide_ Tryz.func133 rfl (by decide) rfl (fun X => ?_)
  repeat (first|refine sc rfl ?_|refine so rfl ?_|refine sb rfl ?_)
  refine O_call (shape_c v.kind) (by rfl) (by rfl) (by rfl) (by rfl) (fun r' hr' => ?_)
  subst hr'
  rw [hs]
  repeat (first | refine O_Xd (X_ifcnil Tryz.underlying312 rfl rfl rfl) ?_ | refine sc rfl ?_ | refine so rfl ?_ | refine sb rfl ?_)
  refine O_invoke [] hm (by exact hf.toA []) rfl (by rfl) (by rfl) (by simpa [AV.imm.immL] using ⟨hy, rfl⟩) (by rfl) (by rfl) ?_
  rintro r' cs' ⟨rfl, rfl⟩
  repeat (first|refine sc rfl ?_|refine so rfl ?_|refine sb rfl ?_)
  unfold vtailF at hr
  cases h with
  | false =>
    obtain rfl := Option.some.inj hr
    refine C_true rfl rfl ?_
    repeat (first|refine sc rfl ?_|refine so rfl ?_|refine sb rfl ?_)
    exact ⟨_, rfl, rfl, rfl⟩
  | true =>
    obtain ⟨q, hq, hr⟩ := bT hr
    obtain rfl := Option.some.inj hr
    refine C_false rfl rfl ?_
    repeat (first | refine O_le _ (Le.one 16 (SL 5 Val.c v.items) rfl (.row (Val.rows_eq _))) ?_ | refine sc rfl ?_ | refine so rfl ?_ | refine sb rfl ?_)
    refine O_call (Contains_w 208 (vnotq rec) (fun x r h => notWell_w rec hrec x r h) v.items hv q hq) (by rfl) (by rfl) (by rfl) (by rfl) (fun r' hr' => ?_)
    subst hr'
    repeat (first|refine sc rfl ?_|refine so rfl ?_|refine sb rfl ?_)
    exact ⟨_, rfl, rfl, rfl⟩

theorem Well_nil (v : Val) (hs : shapeA v.kind = .v .nilIface) : FnP Tryz.prog 133 [.agg (Val.c v)] (· = B false) := by
  refine FnP.intro Tryz.tabOK Tryz.wide_ Tryz.func133 rfl (by decide) rfl (fun X => ?_)
  repeat (first|refine sc rfl ?_|refine so rfl ?_|refine sb rfl ?_)
  refine O_call (shape_c v.kind) (by rfl) (by rfl) (by rfl) (by rfl) (fun r' hr' => ?_)
  subst hr'
  rw [hs]
  repeat (first | refine O_Xd (X_nilifcnil Tryz.underlying312 rfl rfl rfl) ?_ | refine sc rfl ?_ | refine so rfl ?_ | refine sb rfl ?_)
  refine C_true rfl rfl ?_
  repeat (first|refine sc rfl ?_|refine so rfl ?_|refine sb rfl ?_)
  exact ⟨_, rfl, rfl, rfl⟩

theorem Well_wb (rec : Val → Option Bool) (hrec : ∀ v r, rec v = some r → FnP Tryz.prog 133 [.agg (Val.c v)] (· = B r)) (v : Val) (hv : v.items.length ≤ 1000000) (r : Bool) (h : Option.bind (vheadF v) (vtailF rec v) = some r) :
    FnP Tryz.prog 133 [.agg (Val.c v)] (· = B r) := by
  obtain ⟨b, hb, h⟩ := bT h
  unfold vheadF at hb
  by_cases c1 : v.kind = 1
  · rw [if_pos c1] at hb
    exact Well_core rec hrec v hv _ _ _ inv_sgl (by rw [shapeA, if_pos c1]) rfl b (SglV_w _ _ _ hb) r h
  rw [if_neg c1] at hb
  by_cases c2 : v.kind = 2 ∨ v.kind = 3
  · rw [if_pos c2] at hb
    exact Well_core rec hrec v hv _ _ _ inv_sgl (by rw [shapeA, if_neg c1, if_pos c2]) rfl b (SglV_w _ _ _ hb) r h
  rw [if_neg c2] at hb
  by_cases c6 : v.kind = 6
  · rw [if_pos c6] at hb
    exact Well_core rec hrec v hv _ _ _ inv_sgl (by rw [shapeA, if_neg c1, if_neg c2, if_pos c6]) rfl b (SglV_w _ _ _ hb) r h
  rw [if_neg c6] at hb
  by_cases c4 : v.kind = 4 ∨ v.kind = 5
  · rw [if_pos c4] at hb
    exact Well_core rec hrec v hv _ _ _ inv_wds (by rw [shapeA, if_neg c1, if_neg c2, if_neg c6, if_pos c4]) rfl b (WdsV_w _ _ _ hb) r h
  rw [if_neg c4] at hb
  by_cases c7 : v.kind = 7
  · rw [if_pos c7] at hb
    exact Well_core rec hrec v hv _ _ _ inv_mny (by rw [shapeA, if_neg c1, if_neg c2, if_neg c6, if_neg c4, if_pos c7]) rfl b (MnyV_w _ _ _ hb) r h
  rw [if_neg c7] at hb
  by_cases c8 : v.kind = 8
  · rw [if_pos c8] at hb
    exact Well_core rec hrec v hv _ _ _ inv_prs (by rw [shapeA, if_neg c1, if_neg c2, if_neg c6, if_neg c4, if_neg c7, if_pos c8]) rfl b (PrsV_w _ _ _ hb) r h
  rw [if_neg c8] at hb
  by_cases c9 : v.kind = 9
  · rw [if_pos c9] at hb
    exact Well_core rec hrec v hv _ _ _ inv_tgd (by rw [shapeA, if_neg c1, if_neg c2, if_neg c6, if_neg c4, if_neg c7, if_neg c8, if_pos c9]) rfl b (TgdV_w _ _ _ hb) r h
  rw [if_neg c9] at hb
  by_cases ca : v.kind = 10
  · rw [if_pos ca] at hb
    exact Well_core rec hrec v hv _ _ _ inv_tgd (by rw [shapeA, if_neg c1, if_neg c2, if_neg c6, if_neg c4, if_neg c7, if_neg c8, if_neg c9, if_pos ca]) rfl b (TgdV_w _ _ _ hb) r h
  rw [if_neg ca] at hb
  obtain rfl := Option.some.inj hb
  obtain rfl := Option.some.inj h
  exact Well_nil v (by rw [shapeA, if_neg c1, if_neg c2, if_neg c6, if_neg c4, if_neg c7, if_neg c8, if_neg c9, if_neg ca])

noncomputable def WellV_X : Nat → Val → Option Bool
  | 0, _ => none
  | n + 1, v => if v.items.length ≤ 1000000 then Option.bind (vheadF v) (vtailF (WellV_X n) v) else none
theorem WellV_wn : ∀ (n : Nat) (v : Val) (r : Bool), WellV_X n v = some r → FnP Tryz.prog 133 [.agg (Val.c v)] (· = B r)
  | 0, _, _, h => by cases h
  | n + 1, v, r, h => by
    simp only [WellV_X] at h
    split at h
    · rename_i hv
      exact Well_wb (WellV_X n) (fun v r hr => WellV_wn n v r hr) v hv r h
    · cases h
theorem WellV_w (v : Val) (r : Bool) (h : WellV_X FU v = some r) : FnP Tryz.prog 133 [.agg (Val.c v)] (· = B r) := WellV_wn FU v r h
end Go.Proofs

namespace Go.Proofs
open Go.Sy Go.Lib

noncomputable def FitFits_F (l : List Dcl) (t : Ty) (v : Val) : Option (Int) :=
  Option.bind (WellV_X FU v) (fun r1 => cond (!r1) (some 1) (Option.bind (DeepV_X FU v) (fun r5 => cond (decide (8 < r5)) (some 10) (Option.bind (FFits_X l FU t v) (fun r9 => some r9)))))
theorem FitFits_w (b : Nat) (l : List Dcl) (hP : Prep l) (hW : WellL l) (t : Ty) (v : Val) (r : Int) (h : FitFits_F l t v = some r) : FnA Tryz.prog 84 [PT b 0, .agg (Ty.c t), .agg (Val.c v)] [dscS b l] (fun x cs' => x = I64 r ∧ cs' = [dscS b l]) := by
  unfold FitFits_F at h
  refine FnA.intro Tryz.tabOK Tryz.wide_ Tryz.func84 rfl (by decide) rfl (fun X => ?_)
  iterate 2 refine sc rfl ?_
  first|refine so rfl ?_|refine sb rfl ?_
  refine O_le _ (Le.freezebox 4 rfl rfl rfl) ?_
  first|refine so rfl ?_|refine sb rfl ?_
  refine O_le _ (Le.freezebox 5 rfl rfl rfl) ?_
  first|refine so rfl ?_|refine sb rfl ?_
  refine so rfl ?_
  iterate 4 refine sc rfl ?_
  first|refine so rfl ?_|refine sb rfl ?_
  obtain ⟨r1, hr2, h⟩ := bT h
  refine O_call (WellV_w _ _ hr2) (by rfl) (by rfl) (by rfl) (by rfl) (fun q3 hq3 => ?_)
  subst hq3
  iterate 2 (first|refine so rfl ?_|refine sb rfl ?_)
  refine so rfl ?_
  refine C_if rfl (fun hb4 => ?_) (fun hb4 => ?_)
  · replace h := cT hb4 h
    iterate 2 refine sc rfl ?_
    first|refine so rfl ?_|refine sb rfl ?_
    refine so rfl ?_
    refine sc rfl ?_
    obtain rfl := Option.some.inj h
    exact ⟨_, [_], _, rfl, pickA_perm (is := [0]) (As := [_]) rfl, rfl, rfl, rfl⟩
  · replace h := cF hb4 h
    iterate 2 refine sc rfl ?_
    first|refine so rfl ?_|refine sb rfl ?_
    obtain ⟨r5, hr6, h⟩ := bT h
    refine O_call (DeepV_w _ _ hr6) (by rfl) (by rfl) (by rfl) (by rfl) (fun q7 hq7 => ?_)
    subst hq7
    iterate 2 (first|refine so rfl ?_|refine sb rfl ?_)
    refine so rfl ?_
    refine C_if rfl (fun hb8 => ?_) (fun hb8 => ?_)
    · replace h := cT hb8 h
      iterate 2 refine sc rfl ?_
      first|refine so rfl ?_|refine sb rfl ?_
      refine so rfl ?_
      refine sc rfl ?_
      obtain rfl := Option.some.inj h
      exact ⟨_, [_], _, rfl, pickA_perm (is := [0]) (As := [_]) rfl, rfl, rfl, rfl⟩
    · replace h := cF hb8 h
      iterate 3 refine sc rfl ?_
      iterate 3 (first|refine so rfl ?_|refine sb rfl ?_)
      refine O_le _ (Le.freezebox 18 rfl rfl rfl) ?_
      first|refine so rfl ?_|refine sb rfl ?_
      refine so rfl ?_
      iterate 2 refine sc rfl ?_
      iterate 2 (first|refine so rfl ?_|refine sb rfl ?_)
      first|refine so rfl ?_|refine sb rfl ?_
      obtain ⟨r9, hr10, h⟩ := bT h
      refine O_callA [0] (FFits_w b l hP hW  _ _ _ hr10) (by rfl) (by rfl) (by rfl) (by rfl) (by rfl) ?_
      rintro q11 cs' ⟨rfl, rfl⟩
      first|refine so rfl ?_|refine sb rfl ?_
      refine so rfl ?_
      refine sc rfl ?_
      obtain rfl := Option.some.inj h
      exact ⟨_, [_], _, rfl, pickA_perm (is := [0]) (As := [_]) rfl, rfl, rfl, rfl⟩
noncomputable def FitStruct_F (l : List Dcl) (nm : List UInt8) (v : Val) : Option (Int) :=
  Option.bind (DKind_F l nm) (fun r1 => cond (r1 != 1) (some 8) (Option.bind (FitFits_F l  (⟨6, nm, ([] : List Ty)⟩ : Ty) v) (fun r5 => some r5)))
theorem FitStruct_w (b : Nat) (l : List Dcl) (hP : Prep l) (hW : WellL l) (nm : List UInt8) (v : Val) (r : Int) (h : FitStruct_F l nm v = some r) : FnA Tryz.prog 36 [PT b 0, .s nm, .agg (Val.c v)] [dscS b l] (fun x cs' => x = I64 r ∧ cs' = [dscS b l]) := by
  unfold FitStruct_F at h
  refine FnA.intro Tryz.tabOK Tryz.wide_ Tryz.func36 rfl (by decide) rfl (fun X => ?_)
  iterate 2 refine sc rfl ?_
  first|refine so rfl ?_|refine sb rfl ?_
  refine O_le _ (Le.freezebox 5 rfl rfl rfl) ?_
  first|refine so rfl ?_|refine sb rfl ?_
  refine so rfl ?_
  iterate 3 refine sc rfl ?_
  iterate 2 (first|refine so rfl ?_|refine sb rfl ?_)
  obtain ⟨r1, hr2, h⟩ := bT h
  refine O_callA [0] (DKind_w b l hP hW _ _ hr2) (by rfl) (by rfl) (by rfl) (by rfl) (by rfl) ?_
  rintro q3 cs' ⟨rfl, rfl⟩
  first|refine so rfl ?_|refine sb rfl ?_
  refine so rfl ?_
  refine C_if rfl (fun hb4 => ?_) (fun hb4 => ?_)
  · replace h := cT hb4 h
    iterate 2 refine sc rfl ?_
    first|refine so rfl ?_|refine sb rfl ?_
    refine so rfl ?_
    refine sc rfl ?_
    obtain rfl := Option.some.inj h
    exact ⟨_, [_], _, rfl, pickA_perm (is := [0]) (As := [_]) rfl, rfl, rfl, rfl⟩
  · replace h := cF hb4 h
    iterate 3 refine sc rfl ?_
    iterate 3 (first|refine so rfl ?_|refine sb rfl ?_)
    refine O_le _ (Le.agg 13 [I64 6, .s nm, .sl ([] : List Ty).length 3 (Ty.rows ([] : List Ty))] rfl (.cons .refl (.cons .refl (.cons .nil .nil)))) ?_
    first|refine so rfl ?_|refine sb rfl ?_
    obtain ⟨r5, hr6, h⟩ := bT h
    refine O_callA [0] (FitFits_w b l hP hW  _ _ _ hr6) (by rfl) (by rfl) (by rfl) (by rfl) (by rfl) ?_
    rintro q7 cs' ⟨rfl, rfl⟩
    first|refine so rfl ?_|refine sb rfl ?_
    refine so rfl ?_
    refine sc rfl ?_
    obtain rfl := Option.some.inj h
    exact ⟨_, [_], _, rfl, pickA_perm (is := [0]) (As := [_]) rfl, rfl, rfl, rfl⟩
end Go.Proofs
