/- Contracts of desc: Same, of a schema with one that is the same. -/
import Derived.Test.YtgmdpfoccnalnaaGreatE13
import Derived.JoinedOf
import Derived.HandedShaped
import Derived.Test.YtgmdpfoccnalnaaGreatRows
set_option linter.unusedSimpArgs false
set_option linter.unusedVariables false
set_option maxRecDepth 100000
namespace Go.Proofs
open Go.Sy Go.Lib

theorem EqT_c (L : List Ty) (hl : L.length ≤ 1000) (h : ∀ x, x ∈ L → FnP Tryz.prog 73 ([.agg (Ty.c x), .agg (Ty.c x)] ++ []) (· = B true)) : FnP Tryz.prog 128 [SL 3 Ty.c L, SL 3 Ty.c L, .v (.func (.func 73) #[] #[])] (· = B true) := by
  refine FnP.intro Tryz.tabOK Tryz.wide_ Tryz.func128 rfl (by decide) rfl (fun X => ?_)
  repeat (first | refine sc rfl ?_ | refine so rfl ?_ | refine sb rfl ?_)
  refine C_false rfl (by simp) ?_
  repeat (first | refine sc rfl ?_ | refine so rfl ?_ | refine sb rfl ?_)
  refine C_loop (fun i : Nat => ⟨[(1, SL 3 Ty.c L), (2, .v (.func (.func 73) #[] #[])), (15, SL 3 Ty.c L), (16, I64 (L.length : Nat)), (17, I64 (i : Nat))], []⟩) (fun i => i ≤ L.length) (fun i => L.length - i) 0 (Nat.zero_le _) (Le.sub [] ⟨rfl, rfl, rfl, rfl, rfl, trivial⟩ rfl) ?_
  intro i hi
  repeat (first | refine sc rfl ?_ | refine so rfl ?_ | refine sb rfl ?_)
  refine C_if rfl (fun m1 => ?_) (fun m1 => ?_) <;> simp only [decide_eq_true_eq, decide_eq_false_iff_not, Bool.not_eq_true', Bool.not_eq_false', beq_iff_eq, beq_eq_false_iff_ne, bne_iff_ne, ne_eq, bne_eq_false_iff_eq, Decidable.not_not] at m1
  · have hil : i < L.length := by omega
    have hm : L.getD i default ∈ L := by rw [getD_at hil]; exact List.getElem_mem hil
    repeat (first | refine sc rfl ?_ | refine so rfl ?_ | refine sb rfl ?_)
    refine ⟨by omega, ?_⟩
    rw [Int.toNat_natCast]
    repeat (first | refine sc rfl ?_ | refine so rfl ?_ | refine sb rfl ?_)
    refine ⟨by omega, ?_⟩
    rw [Int.toNat_natCast]
    repeat (first | refine sc rfl ?_ | refine so rfl ?_ | refine sb rfl ?_)
    refine O_callAV (isClo_func 73) rfl (FnP.toA (h _ hm) []) rfl rfl rfl rfl (cs := []) (.refl _) rfl ?_
    rintro r cs' ⟨rfl, rfl⟩
    repeat (first | refine sc rfl ?_ | refine so rfl ?_ | refine sb rfl ?_)
    refine C_false rfl rfl ?_
    repeat (first | refine sc rfl ?_ | refine so rfl ?_ | refine sb rfl ?_)
    rw [w64 (x := (i : Int) + 1) (by omega) (by omega)]
    exact ⟨i + 1, hil, by omega, Le.sub [] ⟨rfl, rfl, rfl, rfl, rfl, trivial⟩ rfl⟩
  · repeat (first | refine sc rfl ?_ | refine so rfl ?_ | refine sb rfl ?_)
    exact ⟨_, rfl, rfl, rfl⟩
theorem EqF_c (L : List Fld) (hl : L.length ≤ 1000) (h : ∀ x, x ∈ L → FnP Tryz.prog 72 ([.agg (Fld.c x), .agg (Fld.c x)] ++ []) (· = B true)) : FnP Tryz.prog 77 [SL 5 Fld.c L, SL 5 Fld.c L, .v (.func (.func 72) #[] #[])] (· = B true) := by
  refine FnP.intro Tryz.tabOK Tryz.wide_ Tryz.func77 rfl (by decide) rfl (fun X => ?_)
  repeat (first | refine sc rfl ?_ | refine so rfl ?_ | refine sb rfl ?_)
  refine C_false rfl (by simp) ?_
  repeat (first | refine sc rfl ?_ | refine so rfl ?_ | refine sb rfl ?_)
  refine C_loop (fun i : Nat => ⟨[(1, SL 5 Fld.c L), (2, .v (.func (.func 72) #[] #[])), (15, SL 5 Fld.c L), (16, I64 (L.length : Nat)), (17, I64 (i : Nat))], []⟩) (fun i => i ≤ L.length) (fun i => L.length - i) 0 (Nat.zero_le _) (Le.sub [] ⟨rfl, rfl, rfl, rfl, rfl, trivial⟩ rfl) ?_
  intro i hi
  repeat (first | refine sc rfl ?_ | refine so rfl ?_ | refine sb rfl ?_)
  refine C_if rfl (fun m1 => ?_) (fun m1 => ?_) <;> simp only [decide_eq_true_eq, decide_eq_false_iff_not, Bool.not_eq_true', Bool.not_eq_false', beq_iff_eq, beq_eq_false_iff_ne, bne_iff_ne, ne_eq, bne_eq_false_iff_eq, Decidable.not_not] at m1
  · have hil : i < L.length := by omega
    have hm : L.getD i default ∈ L := by rw [getD_at hil]; exact List.getElem_mem hil
    repeat (first | refine sc rfl ?_ | refine so rfl ?_ | refine sb rfl ?_)
    refine ⟨by omega, ?_⟩
    rw [Int.toNat_natCast]
    repeat (first | refine sc rfl ?_ | refine so rfl ?_ | refine sb rfl ?_)
    refine ⟨by omega, ?_⟩
    rw [Int.toNat_natCast]
    repeat (first | refine sc rfl ?_ | refine so rfl ?_ | refine sb rfl ?_)
    refine O_callAV (isClo_func 72) rfl (FnP.toA (h _ hm) []) rfl rfl rfl rfl (cs := []) (.refl _) rfl ?_
    rintro r cs' ⟨rfl, rfl⟩
    repeat (first | refine sc rfl ?_ | refine so rfl ?_ | refine sb rfl ?_)
    refine C_false rfl rfl ?_
    repeat (first | refine sc rfl ?_ | refine so rfl ?_ | refine sb rfl ?_)
    rw [w64 (x := (i : Int) + 1) (by omega) (by omega)]
    exact ⟨i + 1, hil, by omega, Le.sub [] ⟨rfl, rfl, rfl, rfl, rfl, trivial⟩ rfl⟩
  · repeat (first | refine sc rfl ?_ | refine so rfl ?_ | refine sb rfl ?_)
    exact ⟨_, rfl, rfl, rfl⟩
theorem EqD_c (L : List Dcl) (hl : L.length ≤ 1000) (h : ∀ x, x ∈ L → FnP Tryz.prog 75 ([.agg (Dcl.c x), .agg (Dcl.c x)] ++ [.cp [.v (.func (.func 72) #[] #[])]]) (· = B true)) : FnP Tryz.prog 74 [SL 5 Dcl.c L, SL 5 Dcl.c L, .p (cloRP 75 [.cp [.v (.func (.func 72) #[] #[])]])] (· = B true) := by
  refine FnP.intro Tryz.tabOK Tryz.wide_ Tryz.func74 rfl (by decide) rfl (fun X => ?_)
  repeat (first | refine sc rfl ?_ | refine so rfl ?_ | refine sb rfl ?_)
  refine C_false rfl (by simp) ?_
  repeat (first | refine sc rfl ?_ | refine so rfl ?_ | refine sb rfl ?_)
  refine C_loop (fun i : Nat => ⟨[(1, SL 5 Dcl.c L), (2, .p (cloRP 75 [.cp [.v (.func (.func 72) #[] #[])]])), (15, SL 5 Dcl.c L), (16, I64 (L.length : Nat)), (17, I64 (i : Nat))], []⟩) (fun i => i ≤ L.length) (fun i => L.length - i) 0 (Nat.zero_le _) (Le.sub [] ⟨rfl, rfl, rfl, rfl, rfl, trivial⟩ rfl) ?_
  intro i hi
  repeat (first | refine sc rfl ?_ | refine so rfl ?_ | refine sb rfl ?_)
  refine C_if rfl (fun m1 => ?_) (fun m1 => ?_) <;> simp only [decide_eq_true_eq, decide_eq_false_iff_not, Bool.not_eq_true', Bool.not_eq_false', beq_iff_eq, beq_eq_false_iff_ne, bne_iff_ne, ne_eq, bne_eq_false_iff_eq, Decidable.not_not] at m1
  · have hil : i < L.length := by omega
    have hm : L.getD i default ∈ L := by rw [getD_at hil]; exact List.getElem_mem hil
    repeat (first | refine sc rfl ?_ | refine so rfl ?_ | refine sb rfl ?_)
    refine ⟨by omega, ?_⟩
    rw [Int.toNat_natCast]
    repeat (first | refine sc rfl ?_ | refine so rfl ?_ | refine sb rfl ?_)
    refine ⟨by omega, ?_⟩
    rw [Int.toNat_natCast]
    repeat (first | refine sc rfl ?_ | refine so rfl ?_ | refine sb rfl ?_)
    refine O_callAV (isClo_p _ _) rfl (FnP.toA (h _ hm) []) rfl rfl rfl rfl (cs := []) (.refl _) rfl ?_
    rintro r cs' ⟨rfl, rfl⟩
    repeat (first | refine sc rfl ?_ | refine so rfl ?_ | refine sb rfl ?_)
    refine C_false rfl rfl ?_
    repeat (first | refine sc rfl ?_ | refine so rfl ?_ | refine sb rfl ?_)
    rw [w64 (x := (i : Int) + 1) (by omega) (by omega)]
    exact ⟨i + 1, hil, by omega, Le.sub [] ⟨rfl, rfl, rfl, rfl, rfl, trivial⟩ rfl⟩
  · repeat (first | refine sc rfl ?_ | refine so rfl ?_ | refine sb rfl ?_)
    exact ⟨_, rfl, rfl, rfl⟩
theorem sameTy_c : ∀ (n : Nat) (t : Ty), SizeOf.sizeOf t ≤ n → FewT t → FnP Tryz.prog 73 [.agg (Ty.c t), .agg (Ty.c t)] (· = B true)
  | 0, t, h, _ => by cases t; simp at h
  | n + 1, t, hn, ⟨hlen, hsub⟩ => by
    refine FnP.intro Tryz.tabOK Tryz.wide_ Tryz.func73 rfl (by decide) rfl (fun X => ?_)
    have hrec : ∀ x, x ∈ t.of → FnP Tryz.prog 73 ([.agg (Ty.c x), .agg (Ty.c x)] ++ []) (· = B true) := fun x hx => by
      obtain ⟨i, hi, rfl⟩ := List.mem_iff_getElem.1 hx
      have h1 := of_lt hi
      have h2 := hsub i hi
      rw [getD_at hi] at h1 h2
      exact sameTy_c n _ (by omega) h2
    repeat (first | refine sc rfl ?_ | refine so rfl ?_ | refine sb rfl ?_)
    refine O_case 10 rfl (fun c1 => ?_) (fun c1 => by simp at c1)
    repeat (first | refine sc rfl ?_ | refine so rfl ?_ | refine sb rfl ?_)
    refine O_case 17 rfl (fun c2 => ?_) (fun c2 => by simp at c2)
    repeat (first | refine sc rfl ?_ | refine so rfl ?_ | refine sb rfl ?_)
    refine O_le _ (Le.one 19 (SL 3 Ty.c t.of) rfl (.row (Ty.rows_eq _))) ?_
    refine O_le _ (Le.one 21 (SL 3 Ty.c t.of) rfl (.row (Ty.rows_eq _))) ?_
    refine O_call (EqT_c t.of hlen hrec) (by rfl) (by rfl) (by rfl) (by rfl) (fun r hr => ?_)
    subst hr
    repeat (first | refine sc rfl ?_ | refine so rfl ?_ | refine sb rfl ?_)
    exact ⟨_, rfl, rfl, rfl⟩
theorem sameFld_c (f : Fld) (hf : FewT f.ty) : FnP Tryz.prog 72 ([.agg (Fld.c f), .agg (Fld.c f)] ++ []) (· = B true) := by
  refine FnP.intro Tryz.tabOK Tryz.wide_ Tryz.func72 rfl (by decide) rfl (fun X => ?_)
  repeat (first | refine sc rfl ?_ | refine so rfl ?_ | refine sb rfl ?_)
  refine O_case 10 rfl (fun c1 => ?_) (fun c1 => by simp at c1)
  repeat (first | refine sc rfl ?_ | refine so rfl ?_ | refine sb rfl ?_)
  refine O_case 17 rfl (fun c2 => ?_) (fun c2 => by simp at c2)
  repeat (first | refine sc rfl ?_ | refine so rfl ?_ | refine sb rfl ?_)
  refine O_call (sameTy_c _ f.ty (Nat.le_refl _) hf) (by rfl) (by rfl) (by rfl) (by rfl) (fun r hr => ?_)
  subst hr
  repeat (first | refine sc rfl ?_ | refine so rfl ?_ | refine sb rfl ?_)
  exact ⟨_, rfl, rfl, rfl⟩
def mthV (m : Mth) : Array Value := #[.int .i64 m.tag, S m.name, S m.fin, S m.fout, .bool m.oneWay]
theorem rep_mth (m : Mth) (e : Env) (ys : List Value) (h : RepL e (Mth.c m) ys) : ys = (mthV m).toList := by
  simp only [Mth.c, RepL, Rep] at h
  obtain ⟨z1, t1, rfl, rfl, _, z2, t2, rfl, rfl, _, z3, t3, rfl, rfl, _, z4, t4, rfl, rfl, _, z5, t5, rfl, rfl, _, rfl⟩ := h
  rfl
theorem eq_mth (m : Mth) (w : World) : (Op.equalIn 10000 92 (.agg (mthV m)) (.agg (mthV m))).run Tryz.prog w = .ok true w := by
  rw [run_equalIn_struct w 9999 92 _ _ Tryz.underlying92 Tryz.stoodInHeld92]
  unfold Program.fieldsOf
  rw [Tryz.underlying92]
  have p0 : (part 3 (mthV m) 0).run Tryz.prog w = .ok (.int .i64 m.tag) w := by simp [part, isAgg, run_underlying Tryz.underlying3, mthV]
  have p1 : (part 9 (mthV m) 1).run Tryz.prog w = .ok (S m.name) w := by simp [part, isAgg, run_underlying Tryz.underlying9, mthV]
  have p2 : (part 9 (mthV m) 2).run Tryz.prog w = .ok (S m.fin) w := by simp [part, isAgg, run_underlying Tryz.underlying9, mthV]
  have p3 : (part 9 (mthV m) 3).run Tryz.prog w = .ok (S m.fout) w := by simp [part, isAgg, run_underlying Tryz.underlying9, mthV]
  have p4 : (part 4 (mthV m) 4).run Tryz.prog w = .ok (.bool m.oneWay) w := by simp [part, isAgg, run_underlying Tryz.underlying4, mthV]
  have e0 : (Op.equalIn 9999 3 (.int .i64 m.tag) (.int .i64 m.tag)).run Tryz.prog w = .ok true w := by rw [run_equalIn_int w 9998 3 .i64 .i64 _ _ Tryz.underlying3]; simp
  have e1 : ∀ l, (Op.equalIn 9999 9 (S l) (S l)).run Tryz.prog w = .ok true w := fun l => by unfold S; rw [run_equalIn_string w 9998 9 _ _ Tryz.underlying9]; simp
  have e2 : (Op.equalIn 9999 4 (.bool m.oneWay) (.bool m.oneWay)).run Tryz.prog w = .ok true w := by rw [run_equalIn_bool' w 9998 4 _ _ Tryz.underlying4]; simp
  simp only [Op.eqFields]
  rw [if_pos (by decide), if_pos (by decide), if_pos (by decide), if_pos (by decide), if_pos (by decide)]
  simp [Sem.run_bind, p0, p1, p2, p3, p4, e0, e1, e2]
theorem EqM_c (L : List Mth) (hl : L.length ≤ 1000) : FnP Tryz.prog 76 [SL 5 Mth.c L, SL 5 Mth.c L] (· = B true) := by
  refine FnP.intro Tryz.tabOK Tryz.wide_ Tryz.func76 rfl (by decide) rfl (fun X => ?_)
  repeat (first | refine sc rfl ?_ | refine so rfl ?_ | refine sb rfl ?_)
  refine C_false rfl (by simp) ?_
  repeat (first | refine sc rfl ?_ | refine so rfl ?_ | refine sb rfl ?_)
  refine C_loop (fun i : Nat => ⟨[(0, SL 5 Mth.c L), (1, SL 5 Mth.c L), (11, SL 5 Mth.c L), (12, I64 (L.length : Nat)), (13, I64 (i : Nat))], []⟩) (fun i => i ≤ L.length) (fun i => L.length - i) 0 (Nat.zero_le _) (Le.sub [] ⟨rfl, rfl, rfl, rfl, rfl, trivial⟩ rfl) ?_
  intro i hi
  repeat (first | refine sc rfl ?_ | refine so rfl ?_ | refine sb rfl ?_)
  refine C_if rfl (fun m1 => ?_) (fun m1 => ?_) <;> simp only [decide_eq_true_eq, decide_eq_false_iff_not, Bool.not_eq_true', Bool.not_eq_false', beq_iff_eq, beq_eq_false_iff_ne, bne_iff_ne, ne_eq, bne_eq_false_iff_eq, Decidable.not_not] at m1
  · have hil : i < L.length := by omega
    repeat (first | refine sc rfl ?_ | refine so rfl ?_ | refine sb rfl ?_)
    refine C_drawD rfl (by kernel_rfl) ?_
    refine sd rfl ?_
    refine sd rfl ?_
    refine sd rfl ⟨by omega, ?_⟩
    rw [Int.toNat_natCast]
    refine sd rfl ?_
    refine sd rfl ?_
    refine sd rfl ?_
    refine sd rfl ⟨by omega, ?_⟩
    rw [Int.toNat_natCast]
    refine sd rfl ?_
    refine D_X (B false) (X_aggC (us := mthV (L.getD i default)) (vs := mthV (L.getD i default)) (b := true) (op := .neq) (fun e ys h => rep_mth _ e ys h) (fun e ys h => rep_mth _ e ys h) (fun w => eq_mth _ w) Tryz.eqGuardType92 (.inr rfl) rfl rfl rfl rfl) ?_
    repeat (first | refine sd rfl ?_ | refine sdb rfl ?_ | refine sds rfl ?_)
    repeat (first | refine sc rfl ?_ | refine so rfl ?_ | refine sb rfl ?_)
    refine C_false rfl rfl ?_
    repeat (first | refine sc rfl ?_ | refine so rfl ?_ | refine sb rfl ?_)
    rw [w64 (x := (i : Int) + 1) (by omega) (by omega)]
    exact ⟨i + 1, hil, by omega, Le.sub [] ⟨rfl, rfl, rfl, rfl, rfl, trivial⟩ rfl⟩
  · repeat (first | refine sc rfl ?_ | refine so rfl ?_ | refine sb rfl ?_)
    exact ⟨_, rfl, rfl, rfl⟩
theorem sameDcl_c (d : Dcl) (hd : FewD d) : FnP Tryz.prog 75 ([.agg (Dcl.c d), .agg (Dcl.c d)] ++ [.cp [.v (.func (.func 72) #[] #[])]]) (· = B true) := by
  refine FnP.intro Tryz.tabOK Tryz.wide_ Tryz.func75 rfl (by decide) rfl (fun X => ?_)
  have hF : ∀ x, x ∈ d.fields → FnP Tryz.prog 72 ([.agg (Fld.c x), .agg (Fld.c x)] ++ []) (· = B true) := fun x hx => by
    obtain ⟨i, hi, rfl⟩ := getD_mem hx
    exact sameFld_c _ (hd.f.2 i hi)
  repeat (first | refine sc rfl ?_ | refine so rfl ?_ | refine sb rfl ?_)
  refine O_case 11 rfl (fun c1 => ?_) (fun c1 => by simp at c1)
  repeat (first | refine sc rfl ?_ | refine so rfl ?_ | refine sb rfl ?_)
  refine O_case 18 rfl (fun c2 => ?_) (fun c2 => by simp at c2)
  repeat (first | refine sc rfl ?_ | refine so rfl ?_ | refine sb rfl ?_)
  refine O_call (EqM_c d.methods hd.m) (by rfl) (by rfl) (by rfl) (by rfl) (fun r hr => ?_)
  subst hr
  repeat (first | refine sc rfl ?_ | refine so rfl ?_ | refine sb rfl ?_)
  refine O_call (EqF_c d.fields hd.f.1 hF) (by rfl) (by rfl) (by rfl) (by rfl) (fun r hr => ?_)
  subst hr
  repeat (first | refine sc rfl ?_ | refine so rfl ?_ | refine sb rfl ?_)
  exact ⟨_, rfl, rfl, rfl⟩
/-- A schema is the same as one that has the same declarations. -/
theorem Same_S (b b2 : Nat) (l : List Dcl) (hl : FewL l) : FnA Tryz.prog 26 [PT b 0, PT b2 0] [dscS b l, dscS b2 l] (fun r cs' => r = B true ∧ cs' = [dscS b l, dscS b2 l]) := by
  refine FnA.intro Tryz.tabOK Tryz.wide_ Tryz.func26 rfl (by decide) rfl (fun X => ?_)
  have hD : ∀ x, x ∈ l → FnP Tryz.prog 75 ([.agg (Dcl.c x), .agg (Dcl.c x)] ++ [.cp [.v (.func (.func 72) #[] #[])]]) (· = B true) := fun x hx => by
    obtain ⟨i, hi, rfl⟩ := getD_mem hx
    exact sameDcl_c _ (hl.2 i hi)
  repeat (first | refine sc rfl ?_ | refine so rfl ?_ | refine sb rfl ?_)
  refine O_le _ (Le.freezebox 5 rfl rfl rfl) ?_
  refine O_callA [0] (decls_S b l hl) (by rfl) (by rfl) (by rfl) (by rfl) (by rfl) ?_
  rintro r cs' ⟨rfl, rfl⟩
  repeat (first | refine sc rfl ?_ | refine so rfl ?_ | refine sb rfl ?_)
  refine O_callA [1] (decls_S b2 l hl) (by rfl) (by rfl) (by rfl) (by rfl) (by rfl) ?_
  rintro r cs' ⟨rfl, rfl⟩
  repeat (first | refine sc rfl ?_ | refine so rfl ?_ | refine sb rfl ?_)
  refine O_makeFunc rfl rfl rfl rfl ?_
  repeat (first | refine sc rfl ?_ | refine so rfl ?_ | refine sb rfl ?_)
  refine O_call (EqD_c l hl.1 hD) (by rfl) (by rfl) (by rfl) (by rfl) (fun r hr => ?_)
  subst hr
  repeat (first | refine sc rfl ?_ | refine so rfl ?_ | refine sb rfl ?_)
  exact ⟨_, [_, _], _, rfl, pickA_perm (is := [1, 0]) (As := [_, _]) rfl, rfl, rfl, rfl⟩
end Go.Proofs

/- The law's own example (chapter 13): read, and its rows. -/
set_option linter.unusedSimpArgs false
set_option linter.unusedVariables false
set_option maxRecDepth 100000
namespace Go.Proofs
open Go.Sy Go.Lib

def tx3 : List UInt8 := [115, 116, 114, 117, 99, 116, 32, 80, 32, 123, 32, 50, 32, 98, 58, 32, 105, 110, 116, 59, 32, 49, 32, 97, 58, 32, 116, 101, 120, 116, 59, 32, 125]
def gA : Fld := ⟨1, [97], ⟨4, [], []⟩⟩
def gB : Fld := ⟨2, [98], ⟨2, [], []⟩⟩
def sc3 : List Dcl := [⟨1, [80], [gB, gA], [], 0⟩]
theorem par3 : parseF tx3 = (sc3, 0, 0) := by rfl
theorem fewL3 : FewL sc3 := by
  have h := parse_fewL (s := tx3) (by rw [par3])
  rw [par3] at h; exact h
theorem well3 : WellL sc3 := fun i hi => by
  obtain rfl : i = 0 := by have : i < 1 := hi; omega
  have hm : ∀ f : Fld, f ∈ [gB, gA] → f = gB ∨ f = gA := fun f hf => by simpa using hf
  refine ⟨rfl, .inl rfl, ⟨fun f hf => ?_, fun f hf _ => ?_⟩, ⟨(fun m hm => by cases hm), (fun m hm => by cases hm)⟩, by decide, by decide, fun h => by rcases h with h | h <;> exact absurd h (by decide)⟩
  · rcases hm f hf with rfl | rfl <;> decide
  · rcases hm f hf with rfl | rfl
    · exact ⟨tyOK0 _ _ (.inl rfl), by decide⟩
    · exact ⟨tyOK0 _ _ (.inr rfl), by decide⟩
theorem fin3 : FinL sc3 := fun i hi => by
  obtain rfl : i = 0 := by have : i < 1 := hi; omega
  decide
theorem prep3 : Prep sc3 := by
  have h := parse_prep (s := tx3) (by rw [par3]) (by rw [par3]; exact well3)
  rw [par3] at h; exact h
theorem rows3 : RowsOK sc3 [[gA, gB]] := ⟨rfl, fun i hi => by
  obtain rfl : i = 0 := by have : i < 1 := hi; omega
  show SrtOf [gB, gA] [gA, gB]
  refine ⟨rfl, ⟨fun i => 1 - i, fun i => 1 - i, fun i h1 h2 => ?_, fun i h => ?_⟩, fun i j _ hij hj => ?_⟩
  · have h2' : i < 2 := h2
    rcases i with _ | _ | i
    · exact ⟨by decide, by decide, rfl, rfl, rfl⟩
    · exact ⟨by decide, by decide, rfl, rfl, rfl⟩
    · omega
  · have : ¬ i < 2 := fun hh => h ⟨Nat.zero_le _, hh⟩
    rcases i with _ | _ | i
    · omega
    · omega
    · rfl
  · have hj' : j < 2 := hj
    rcases j with _ | _ | j
    · obtain rfl : i = 0 := by omega
      decide
    · have hi' : i < 2 := by omega
      rcases i with _ | _ | i
      · decide
      · decide
      · omega
    · omega⟩
theorem rowsU3 : rowsU sc3 [80] = [gA, gB] := by rw [← rowsU_eq well3 rows3]; rfl

def flt0 : Array Value := #[.int .i64 0, .int .i64 0]
theorem rep_flt0 (e : Env) (ys : List Value) (h : RepL e [I64 0, I64 0] ys) : ys = flt0.toList := by
  simp only [RepL, Rep] at h
  obtain ⟨z1, t1, rfl, rfl, _, z2, t2, rfl, rfl, _, rfl⟩ := h
  rfl
theorem eq_flt0 (w : World) : (Op.equalIn 10000 50 (.agg flt0) (.agg flt0)).run Tryz.prog w = .ok true w := by
  rw [run_equalIn_struct w 9999 50 _ _ Tryz.underlying50 Tryz.stoodInHeld50]
  unfold Program.fieldsOf
  rw [Tryz.underlying50]
  have p0 : (part 26 flt0 0).run Tryz.prog w = .ok (.int .i64 0) w := by simp [part, isAgg, run_underlying Tryz.underlying26, flt0]
  have p1 : (part 3 flt0 1).run Tryz.prog w = .ok (.int .i64 0) w := by simp [part, isAgg, run_underlying Tryz.underlying3, flt0]
  have e0 : (Op.equalIn 9999 26 (.int .i64 0) (.int .i64 0)).run Tryz.prog w = .ok true w := by rw [run_equalIn_int w 9998 26 .i64 .i64 _ _ Tryz.underlying26]; simp
  have e1 : (Op.equalIn 9999 3 (.int .i64 0) (.int .i64 0)).run Tryz.prog w = .ok true w := by rw [run_equalIn_int w 9998 3 .i64 .i64 _ _ Tryz.underlying3]; simp
  simp only [Op.eqFields]
  rw [if_pos (by decide), if_pos (by decide)]
  simp [Sem.run_bind, p0, p1, e0, e1]

theorem awake13_A (m : Int) : FnA Tryz.prog 22 [] [glbA m] (fun r cs' => r = B true ∧ cs' = [glbA m]) := by
  refine FnA.intro Tryz.tabOK Tryz.wide_ Tryz.func22 rfl (by decide) rfl (fun X => ?_)
  repeat (first | refine sc rfl ?_ | refine so rfl ?_ | refine sb rfl ?_)
  refine O_callA [0] (Read_A m tx3 sc3 (.inl par3) fewL3 ⟨well3, fin3⟩) (by rfl) (by rfl) (by rfl) (by rfl) (by rfl) ?_
  rintro r cs' ⟨b1, rfl, rfl⟩
  repeat (first | refine sc rfl ?_ | refine so rfl ?_ | refine sb rfl ?_)
  first
    | refine O_callA [0] (DRows_S b1 sc3 prep3 well3 [80]) (by rfl) (by rfl) (by rfl) (by rfl) (by rfl) ?_
    | refine O_callA [1] (DRows_S b1 sc3 prep3 well3 [80]) (by rfl) (by rfl) (by rfl) (by rfl) (by rfl) ?_
    | refine O_callA [2] (DRows_S b1 sc3 prep3 well3 [80]) (by rfl) (by rfl) (by rfl) (by rfl) (by rfl) ?_
    | refine O_callA [3] (DRows_S b1 sc3 prep3 well3 [80]) (by rfl) (by rfl) (by rfl) (by rfl) (by rfl) ?_
    | refine O_callA [4] (DRows_S b1 sc3 prep3 well3 [80]) (by rfl) (by rfl) (by rfl) (by rfl) (by rfl) ?_
  rintro r cs' ⟨rfl, rfl⟩
  rw [rowsU3]
  repeat (first | refine sc rfl ?_ | refine so rfl ?_ | refine sb rfl ?_)
  refine O_Xd (X_aggC (us := flt0) (vs := flt0) (b := true) (op := .eql) rep_flt0 rep_flt0 eq_flt0 Tryz.eqGuardType50 (.inl rfl) rfl rfl rfl rfl) ?_
  repeat (first | refine sc rfl ?_ | refine so rfl ?_ | refine sb rfl ?_)
  refine ⟨by decide, ?_⟩
  repeat (first | refine sc rfl ?_ | refine so rfl ?_ | refine sb rfl ?_)
  refine ⟨by decide, ?_⟩
  repeat (first | refine sc rfl ?_ | refine so rfl ?_ | refine sb rfl ?_)
  first
    | exact ⟨_, [_], _, rfl, pickA_perm (is := [0]) (As := [_]) rfl, rfl, rfl, rfl⟩
    | exact ⟨_, [_], _, rfl, pickA_perm (is := [1]) (As := [_]) rfl, rfl, rfl, rfl⟩
    | exact ⟨_, [_], _, rfl, pickA_perm (is := [2]) (As := [_]) rfl, rfl, rfl, rfl⟩
    | exact ⟨_, [_], _, rfl, pickA_perm (is := [3]) (As := [_]) rfl, rfl, rfl, rfl⟩
    | exact ⟨_, [_], _, rfl, pickA_perm (is := [4]) (As := [_]) rfl, rfl, rfl, rfl⟩
end Go.Proofs

/- Contracts of desc: Read, of any text. -/
set_option linter.unusedSimpArgs false
set_option linter.unusedVariables false
set_option maxRecDepth 100000
namespace Go.Proofs
open Go.Sy Go.Lib

theorem Of_bad (l : List Dcl) (hl : FewL l) (hn : ¬(WellL l ∧ FinL l)) : FnA Tryz.prog 24 [SL 5 Dcl.c l] [] (fun r cs' => (∃ f : Flt, r = .tup [.v (.pointer none), .agg (Flt.c f)] ∧ f.err ≠ 0) ∧ cs' = []) := by
  refine FnA.intro Tryz.tabOK Tryz.wide_ Tryz.func24 rfl (by decide) rfl (fun X => ?_)
  repeat (first | refine sc rfl ?_ | refine so rfl ?_ | refine sb rfl ?_)
  refine O_call (Check_c l hl.toFew) (by rfl) (by rfl) (by rfl) (by rfl) (fun r hr => ?_)
  obtain ⟨f, rfl, hf, hf2⟩ := hr
  repeat (first | refine sc rfl ?_ | refine so rfl ?_ | refine sb rfl ?_)
  refine C_if rfl (fun m1 => ?_) (fun m1 => ?_) <;> simp only [decide_eq_true_eq, decide_eq_false_iff_not, Bool.not_eq_true', Bool.not_eq_false', beq_iff_eq, beq_eq_false_iff_ne, bne_iff_ne, ne_eq, bne_eq_false_iff_eq, Decidable.not_not] at m1
  · repeat (first | refine sc rfl ?_ | refine so rfl ?_ | refine sb rfl ?_)
    refine C_drawU 20 2 rfl (by kernel_rfl) (by kernel_rfl) (by kernel_rfl) ?_
    repeat (first | refine sd rfl ?_ | refine sdb rfl ?_ | refine sds rfl ?_)
    repeat (first | refine sc rfl ?_ | refine so rfl ?_ | refine sb rfl ?_)
    exact ⟨_, [], _, rfl, .refl _, rfl, ⟨f, rfl, m1⟩, rfl⟩
  · exact absurd (hf.1 m1) hn

/-- A text that is none. -/
theorem Read_bad (m : Int) (s : List UInt8) (h : ¬((parseF s).2.1 = 0 ∧ WellL (parseF s).1 ∧ FinL (parseF s).1)) :
    FnA Tryz.prog 21 [.s s] [glbA m] (fun r cs' => (∃ f : Flt, r = .tup [.v (.pointer none), .agg (Flt.c f)] ∧ f.err ≠ 0) ∧ cs' = [glbA m]) := by
  refine FnA.intro Tryz.tabOK Tryz.wide_ Tryz.func21 rfl (by decide) rfl (fun X => ?_)
  repeat (first | refine sc rfl ?_ | refine so rfl ?_ | refine sb rfl ?_)
  refine O_callA [1] (Parse_A m s) (by rfl) (by rfl) (by rfl) (by rfl) (by rfl) ?_
  rintro r cs' ⟨⟨h0, rfl⟩ | ⟨h0, rfl⟩, rfl⟩
  · repeat (first | refine sc rfl ?_ | refine so rfl ?_ | refine sb rfl ?_)
    refine C_true rfl (by simpa using h0) ?_
    repeat (first | refine sc rfl ?_ | refine so rfl ?_ | refine sb rfl ?_)
    refine C_drawU 20 2 rfl (by kernel_rfl) (by kernel_rfl) (by kernel_rfl) ?_
    repeat (first | refine sd rfl ?_ | refine sdb rfl ?_ | refine sds rfl ?_)
    repeat (first | refine sc rfl ?_ | refine so rfl ?_ | refine sb rfl ?_)
    first
      | exact ⟨_, [_], _, rfl, pickA_perm (is := [0]) (As := [_]) rfl, rfl, ⟨⟨(parseF s).2.1, (parseF s).2.2⟩, rfl, h0⟩, rfl⟩
      | exact ⟨_, [_], _, rfl, pickA_perm (is := [1]) (As := [_]) rfl, rfl, ⟨⟨(parseF s).2.1, (parseF s).2.2⟩, rfl, h0⟩, rfl⟩
      | exact ⟨_, [_], _, rfl, pickA_perm (is := [2]) (As := [_]) rfl, rfl, ⟨⟨(parseF s).2.1, (parseF s).2.2⟩, rfl, h0⟩, rfl⟩
      | exact ⟨_, [_], _, rfl, pickA_perm (is := [3]) (As := [_]) rfl, rfl, ⟨⟨(parseF s).2.1, (parseF s).2.2⟩, rfl, h0⟩, rfl⟩
      | exact ⟨_, [_], _, rfl, pickA_perm (is := [4]) (As := [_]) rfl, rfl, ⟨⟨(parseF s).2.1, (parseF s).2.2⟩, rfl, h0⟩, rfl⟩
  · repeat (first | refine sc rfl ?_ | refine so rfl ?_ | refine sb rfl ?_)
    refine C_false rfl rfl ?_
    repeat (first | refine sc rfl ?_ | refine so rfl ?_ | refine sb rfl ?_)
    refine O_callA [] (Of_bad _ (parse_fewL h0) (fun hh => h ⟨h0, hh⟩)) (by rfl) (by rfl) (by rfl) (by rfl) (by rfl) ?_
    rintro r cs' ⟨⟨f, rfl, hf⟩, rfl⟩
    repeat (first | refine sc rfl ?_ | refine so rfl ?_ | refine sb rfl ?_)
    first
      | exact ⟨_, [_], _, rfl, pickA_perm (is := [0]) (As := [_]) rfl, rfl, ⟨f, rfl, hf⟩, rfl⟩
      | exact ⟨_, [_], _, rfl, pickA_perm (is := [1]) (As := [_]) rfl, rfl, ⟨f, rfl, hf⟩, rfl⟩
      | exact ⟨_, [_], _, rfl, pickA_perm (is := [2]) (As := [_]) rfl, rfl, ⟨f, rfl, hf⟩, rfl⟩
      | exact ⟨_, [_], _, rfl, pickA_perm (is := [3]) (As := [_]) rfl, rfl, ⟨f, rfl, hf⟩, rfl⟩
      | exact ⟨_, [_], _, rfl, pickA_perm (is := [4]) (As := [_]) rfl, rfl, ⟨f, rfl, hf⟩, rfl⟩
end Go.Proofs

/- The law DescOwn: what is handed out is written into. -/
set_option linter.unusedSimpArgs false
set_option linter.unusedVariables false
set_option maxRecDepth 100000
namespace Go.Proofs
open Go.Sy Go.Lib

/-- Fields, owned, whatever they hold. -/
def rawA (h : Value) (n : Nat) : Abs where
  bs := h.ownBlock.toList
  ok := fun G w => (h = .slice none 0 0 ∧ n = 0) ∨ ∃ g cc cur tt, h = HD g n cc ∧ w.heap[g]? = some (.cells cur tt (0, 0)) ∧ n * 5 ≤ cur.size
  keep := by
    rintro G H w w' hG hb (h1 | ⟨g, cc, cur, tt, rfl, h2, h3⟩)
    · exact .inl h1
    · exact .inr ⟨g, cc, cur, tt, rfl, by rw [hb g (by simp [Value.ownBlock])]; exact h2, h3⟩
theorem writes_raw {g n cc o : Nat} {x : AV} (ho : o < n * 5) : Writes (rawA (HD g n cc) n) g o x (rawA (HD g n cc) n) := by
  refine ⟨by simp [rawA, Value.ownBlock], rfl, ?_⟩
  rintro G w v (⟨h1, _⟩ | ⟨g', cc', cur, tt, h1, h2, h3⟩) hx hone
  · cases h1
  · cases h1
    refine ⟨?_, ?_, .inr ⟨g, cc, _, tt, rfl, setCell_heap h2, by simpa using h3⟩⟩
    · rw [cell_of_row w g o cur tt (0, 0) h2, Array.getElem?_eq_getElem (by omega)]; rfl
    · simp [World.frozen?, h2]
theorem raw_of {h : Value} {n : Nat} {row : Nat → List AV} {G : IM} {w : World} (hok : (vecA h 65 5 n row).ok G w) : (rawA h n).ok G w := by
  obtain ⟨xs, h1, h2⟩ := hok
  rcases h1.2 with ⟨rfl, hm⟩ | ⟨g, cap, cur, hsl, _, hg, hcap, hmax, hcs, htake⟩
  · exact .inl ⟨rfl, hm⟩
  · exact .inr ⟨g, cap, cur, 65, hsl, hg, by omega⟩
end Go.Proofs

/- The law DescOwn. -/
set_option linter.unusedSimpArgs false
set_option linter.unusedVariables false
set_option maxRecDepth 100000
namespace Go.Proofs
open Go.Sy Go.Lib

def raws (l : List Dcl) (hs : List Value) (n : Nat) : List Abs := (List.range n).map fun i => rawA (hsD hs i) (l.getD i default).fields.length
theorem raws_get (l : List Dcl) (hs : List Value) (n k : Nat) (hk : k < n) : (raws l hs n)[k]? = some (rawA (hsD hs k) (l.getD k default).fields.length) := by
  unfold raws
  rw [List.getElem?_map, List.getElem?_range hk]
  rfl
theorem raws_bs (l : List Dcl) (hs : List Value) (n : Nat) : (packA (raws l hs n)).bs = (packA (fks l hs n)).bs := by
  simp only [packA, blocks, raws, fks, List.flatMap_map]
  rfl
theorem raws_ok {l : List Dcl} {hs : List Value} {n : Nat} (G : IM) (w : World) (h : (packA (fks l hs n)).ok G w) : (packA (raws l hs n)).ok G w := by
  intro A hA
  obtain ⟨i, hi, rfl⟩ := List.mem_map.1 hA
  exact raw_of (h _ (List.mem_map.2 ⟨i, hi, rfl⟩))
/-- The declarations, some renamed. -/
def rrow (l : List Dcl) (hs : List Value) (i j : Nat) : List AV := if j < i then [I64 (l.getD j default).kind, .s [63], .v (hsD hs j), SL 5 Mth.c (l.getD j default).methods, I64 (l.getD j default).fat] else drow (l.getD j default) (hsD hs j)

theorem vec_len {a : Option Addr} {k c : Nat} {t : TypeId} {esz n : Nat} {row : Nat → List AV} {G : IM} {w : World} (hok : (vecA (.slice a k c) t esz n row).ok G w) : k = n := by
  obtain ⟨xs, h1, h2⟩ := hok
  rcases h1.2 with ⟨he, hm⟩ | ⟨g, cap, cur, he, _⟩
  · cases he; exact hm.symm
  · cases he; rfl
theorem raw_len {a : Option Addr} {k c : Nat} {n : Nat} {G : IM} {w : World} (hok : (rawA (.slice a k c) n).ok G w) : k = n ∧ (0 < n → ∃ g, a = some ⟨g, 0, none⟩) := by
  rcases hok with ⟨he, hm⟩ | ⟨g, cc, cur, tt, he, _⟩
  · cases he; exact ⟨hm.symm, fun h => by omega⟩
  · cases he; exact ⟨rfl, fun _ => ⟨g, rfl⟩⟩
theorem rrow0 (l : List Dcl) (hs : List Value) : (fun i => drow (l.getD i default) (hsD hs i)) = rrow l hs 0 := by
  funext j; simp [rrow]
theorem rrow_set (l : List Dcl) (hs : List Value) (i : Nat) : ∀ j, j < l.length → rrow l hs (i + 1) j = if j = i then (rrow l hs i i).set 1 (.s [63]) else rrow l hs i j := fun j _ => by
  unfold rrow
  by_cases hji : j = i
  · subst hji
    rw [if_pos rfl, if_pos (Nat.lt_succ_self _), if_neg (Nat.lt_irrefl _)]
    rfl
  · rw [if_neg hji]
    by_cases h : j < i
    · rw [if_pos h, if_pos (by omega)]
    · rw [if_neg h, if_neg (by omega)]
theorem descOwn_A (m : Int) (s : List UInt8) : FnA Tryz.prog 4 [.s s] [glbA m] (fun r cs' => r = B true ∧ cs' = [glbA m]) := by
  by_cases hok : (parseF s).2.1 = 0 ∧ WellL (parseF s).1 ∧ FinL (parseF s).1
  case neg =>
    refine FnA.intro Tryz.tabOK Tryz.wide_ Tryz.func4 rfl (by decide) rfl (fun X => ?_)
    repeat (first | refine sc rfl ?_ | refine so rfl ?_ | refine sb rfl ?_)
    first
      | refine O_callA [0] (Read_bad m s hok) (by rfl) (by rfl) (by rfl) (by rfl) (by rfl) ?_
      | refine O_callA [1] (Read_bad m s hok) (by rfl) (by rfl) (by rfl) (by rfl) (by rfl) ?_
      | refine O_callA [2] (Read_bad m s hok) (by rfl) (by rfl) (by rfl) (by rfl) (by rfl) ?_
      | refine O_callA [3] (Read_bad m s hok) (by rfl) (by rfl) (by rfl) (by rfl) (by rfl) ?_
      | refine O_callA [4] (Read_bad m s hok) (by rfl) (by rfl) (by rfl) (by rfl) (by rfl) ?_
    rintro r cs' ⟨⟨f, rfl, hf⟩, rfl⟩
    repeat (first | refine sc rfl ?_ | refine so rfl ?_ | refine sb rfl ?_)
    refine C_true rfl (by simpa using hf) ?_
    repeat (first | refine sc rfl ?_ | refine so rfl ?_ | refine sb rfl ?_)
    first
      | refine O_callA [0] (awake13_A m) (by rfl) (by rfl) (by rfl) (by rfl) (by rfl) ?_
      | refine O_callA [1] (awake13_A m) (by rfl) (by rfl) (by rfl) (by rfl) (by rfl) ?_
      | refine O_callA [2] (awake13_A m) (by rfl) (by rfl) (by rfl) (by rfl) (by rfl) ?_
      | refine O_callA [3] (awake13_A m) (by rfl) (by rfl) (by rfl) (by rfl) (by rfl) ?_
      | refine O_callA [4] (awake13_A m) (by rfl) (by rfl) (by rfl) (by rfl) (by rfl) ?_
    rintro r cs' ⟨rfl, rfl⟩
    repeat (first | refine sc rfl ?_ | refine so rfl ?_ | refine sb rfl ?_)
    first
      | exact ⟨_, [_], _, rfl, pickA_perm (is := [0]) (As := [_]) rfl, rfl, rfl, rfl⟩
      | exact ⟨_, [_], _, rfl, pickA_perm (is := [1]) (As := [_]) rfl, rfl, rfl, rfl⟩
      | exact ⟨_, [_], _, rfl, pickA_perm (is := [2]) (As := [_]) rfl, rfl, rfl, rfl⟩
      | exact ⟨_, [_], _, rfl, pickA_perm (is := [3]) (As := [_]) rfl, rfl, rfl, rfl⟩
      | exact ⟨_, [_], _, rfl, pickA_perm (is := [4]) (As := [_]) rfl, rfl, rfl, rfl⟩
  case pos =>
    obtain ⟨h0, hW, hFi⟩ := hok
    have hl := parse_fewL h0
    have hP := parse_prep h0 hW
    have hn16 := (parse_few h0).1
    have hRd := Read_A m s (parseF s).1 (.inr ⟨rfl, h0⟩) hl ⟨hW, hFi⟩
    generalize (parseF s).1 = l at *
    refine FnA.intro Tryz.tabOK Tryz.wide_ Tryz.func4 rfl (by decide) rfl (fun X => ?_)
    repeat (first | refine sc rfl ?_ | refine so rfl ?_ | refine sb rfl ?_)
    first
      | refine O_callA [0] (hRd) (by rfl) (by rfl) (by rfl) (by rfl) (by rfl) ?_
      | refine O_callA [1] (hRd) (by rfl) (by rfl) (by rfl) (by rfl) (by rfl) ?_
      | refine O_callA [2] (hRd) (by rfl) (by rfl) (by rfl) (by rfl) (by rfl) ?_
      | refine O_callA [3] (hRd) (by rfl) (by rfl) (by rfl) (by rfl) (by rfl) ?_
      | refine O_callA [4] (hRd) (by rfl) (by rfl) (by rfl) (by rfl) (by rfl) ?_
    rintro r cs' ⟨b, rfl, rfl⟩
    repeat (first | refine sc rfl ?_ | refine so rfl ?_ | refine sb rfl ?_)
    refine C_false rfl rfl ?_
    repeat (first | refine sc rfl ?_ | refine so rfl ?_ | refine sb rfl ?_)
    first
      | refine O_callA [0] (Decls_S b l hl) (by rfl) (by rfl) (by rfl) (by rfl) (by rfl) ?_
      | refine O_callA [1] (Decls_S b l hl) (by rfl) (by rfl) (by rfl) (by rfl) (by rfl) ?_
      | refine O_callA [2] (Decls_S b l hl) (by rfl) (by rfl) (by rfl) (by rfl) (by rfl) ?_
      | refine O_callA [3] (Decls_S b l hl) (by rfl) (by rfl) (by rfl) (by rfl) (by rfl) ?_
      | refine O_callA [4] (Decls_S b l hl) (by rfl) (by rfl) (by rfl) (by rfl) (by rfl) ?_
    rintro r cs' ⟨E, ⟨hv, hs, ⟨va, vm, vc, rfl⟩, hsl, hsi, rfl, rfl⟩, rfl⟩
    repeat (first | refine sc rfl ?_ | refine so rfl ?_ | refine sb rfl ?_)
    first
      | refine O_callA [1, 1] (Of_V l hl ⟨hW, hFi⟩ (.slice va vm vc) hs hsl hsi) (by rfl) (by rfl) (by rfl) (by rfl) (by rfl) ?_
      | refine O_callA [2, 2] (Of_V l hl ⟨hW, hFi⟩ (.slice va vm vc) hs hsl hsi) (by rfl) (by rfl) (by rfl) (by rfl) (by rfl) ?_
    rintro r cs' ⟨b2, rfl, rfl⟩
    repeat (first | refine sc rfl ?_ | refine so rfl ?_ | refine sb rfl ?_)
    refine C_know 2 (vm = l.length) rfl (fun G w hok _ => vec_len hok) ?_
    rintro rfl
    refine C_le _ (Le.retell 3 (A' := packA (raws l hs l.length)) rfl (raws_bs l hs l.length) (fun G w h => raws_ok G w h)) ?_
    refine C_le _ (Le.retell 3 (A' := vecA (.slice va l.length vc) 60 5 l.length (rrow l hs 0)) rfl rfl (fun G w h => by rw [← rrow0]; exact h)) ?_
    refine C_loop (fun i : Nat => ⟨[(0, .s s), (3, PT b 0), (5, .v (.slice va l.length vc)), (6, PT b2 0), (8, I64 (i : Nat))], [.abs (vecA (.slice va l.length vc) 60 5 l.length (rrow l hs i)), .abs (packA (raws l hs l.length)), .abs (dscS b l), .abs (dscS b2 l), .abs (glbA m)]⟩) (fun i => i ≤ l.length) (fun i => l.length - i) 0 (Nat.zero_le _) (Le.pick [0, 0, 2, 1, 2] ⟨rfl, rfl, rfl, rfl, rfl, trivial⟩ rfl) ?_
    intro i hi
    repeat (first | refine sc rfl ?_ | refine so rfl ?_ | refine sb rfl ?_)
    refine C_if rfl (fun m1 => ?_) (fun m1 => ?_) <;> simp only [decide_eq_true_eq, decide_eq_false_iff_not, Bool.not_eq_true', Bool.not_eq_false', beq_iff_eq, beq_eq_false_iff_ne, bne_iff_ne, ne_eq, bne_eq_false_iff_eq, Decidable.not_not] at m1
    · have hil : i < l.length := by omega
      refine C_know 0 (∃ g cc, (Value.slice va l.length vc) = HD g l.length cc) rfl (fun G w hok _ => vec_HD hok (by omega)) ?_
      rintro ⟨gv, cv, hgv⟩
      obtain ⟨rfl, rfl⟩ : va = some ⟨gv, 0, none⟩ ∧ vc = cv := by cases hgv; exact ⟨rfl, rfl⟩
      obtain ⟨fa, fm, fc, hfk⟩ : isSl (hsD hs i) := hsi _ (by rw [hsD, List.getD_eq_getElem?_getD, List.getElem?_eq_getElem (show i < hs.length by omega)]; exact List.getElem_mem _)
      have hrw := raws_get l hs l.length i hil
      rw [hfk] at hrw
      refine C_le _ (Le.unpackAt 1 hrw rfl) ?_
      refine C_know 0 (fm = (l.getD i default).fields.length ∧ (0 < (l.getD i default).fields.length → ∃ g, fa = some ⟨g, 0, none⟩)) rfl (fun G w hok _ => raw_len hok) ?_
      rintro ⟨rfl, hfa⟩
      have hread : ∀ j, Reads (vecA (HD gv l.length vc) 60 5 l.length (rrow l hs i)) gv (0 + i * 5 + j) ((drow (l.getD i default) (.slice fa (l.getD i default).fields.length fc)).drop j) := fun j => by
        have h := reads_vec (g := gv) (cc := vc) (t := 60) (esz := 5) (m := l.length) (row := rrow l hs i) (o := 0 + i * 5 + j) (q := i) (j := j) hil (by omega)
        have hr : rrow l hs i i = drow (l.getD i default) (hsD hs i) := by simp [rrow]
        rw [hr, hfk] at h
        exact h
      repeat (first | refine sc rfl ?_ | refine so rfl ?_ | refine sb rfl ?_)
      refine ⟨by omega, ?_⟩
      rw [Int.toNat_natCast]
      repeat (first | refine sc rfl ?_ | refine so rfl ?_ | refine sb rfl ?_)
      first
        | refine O_loadP 0 (A := vecA (HD gv l.length vc) 60 5 l.length (rrow l hs i)) (cells := (drow (l.getD i default) (.slice fa (l.getD i default).fields.length fc)).drop 1) (hread 1) rfl rfl rfl rfl rfl rfl ?_
        | refine O_loadP 1 (A := vecA (HD gv l.length vc) 60 5 l.length (rrow l hs i)) (cells := (drow (l.getD i default) (.slice fa (l.getD i default).fields.length fc)).drop 1) (hread 1) rfl rfl rfl rfl rfl rfl ?_
        | refine O_loadP 2 (A := vecA (HD gv l.length vc) 60 5 l.length (rrow l hs i)) (cells := (drow (l.getD i default) (.slice fa (l.getD i default).fields.length fc)).drop 1) (hread 1) rfl rfl rfl rfl rfl rfl ?_
        | refine O_loadP 3 (A := vecA (HD gv l.length vc) 60 5 l.length (rrow l hs i)) (cells := (drow (l.getD i default) (.slice fa (l.getD i default).fields.length fc)).drop 1) (hread 1) rfl rfl rfl rfl rfl rfl ?_
        | refine O_loadP 4 (A := vecA (HD gv l.length vc) 60 5 l.length (rrow l hs i)) (cells := (drow (l.getD i default) (.slice fa (l.getD i default).fields.length fc)).drop 1) (hread 1) rfl rfl rfl rfl rfl rfl ?_
        | refine O_loadP 5 (A := vecA (HD gv l.length vc) 60 5 l.length (rrow l hs i)) (cells := (drow (l.getD i default) (.slice fa (l.getD i default).fields.length fc)).drop 1) (hread 1) rfl rfl rfl rfl rfl rfl ?_
        | refine O_loadP 6 (A := vecA (HD gv l.length vc) 60 5 l.length (rrow l hs i)) (cells := (drow (l.getD i default) (.slice fa (l.getD i default).fields.length fc)).drop 1) (hread 1) rfl rfl rfl rfl rfl rfl ?_
        | refine O_loadP 7 (A := vecA (HD gv l.length vc) 60 5 l.length (rrow l hs i)) (cells := (drow (l.getD i default) (.slice fa (l.getD i default).fields.length fc)).drop 1) (hread 1) rfl rfl rfl rfl rfl rfl ?_
      repeat (first | refine sc rfl ?_ | refine so rfl ?_ | refine sb rfl ?_)
      refine O_callA [3] (Rows_S b l hP hW (l.getD i default).name) (by rfl) (by rfl) (by rfl) (by rfl) (by rfl) ?_
      rintro r cs' ⟨E, ⟨hr, hex, ⟨ra, rm, rc, rfl⟩, rfl, rfl⟩, rfl⟩
      generalize hRn : (rowsU l (l.getD i default).name) = R
      have hR16 : R.length ≤ 1000 := by rw [← hRn]; exact (fewU hP hW hex).1
      repeat (first | refine sc rfl ?_ | refine so rfl ?_ | refine sb rfl ?_)
      refine C_le _ (Le.retell 1 (A' := rawA (.slice ra rm rc) R.length) rfl rfl (fun G w h => raw_of h)) ?_
      refine C_know 0 (rm = R.length ∧ (0 < R.length → ∃ g, ra = some ⟨g, 0, none⟩)) rfl (fun G w hok _ => raw_len hok) ?_
      rintro ⟨rfl, hra⟩
      have hFl : (l.getD i default).fields.length ≤ 1000 := (hl.2 i hil).f.1
      refine C_loop (fun k : Nat => ⟨[(0, .s s), (3, PT b 0), (5, .v (HD gv l.length vc)), (6, PT b2 0), (8, I64 (i : Nat)), (9, .v (.slice ra R.length rc)), (10, I64 (k : Nat))], [.abs (rawA (.slice ra R.length rc) R.length), .abs (dscS b l), .abs (rawA (.slice fa (l.getD i default).fields.length fc) (l.getD i default).fields.length), .abs (packA (List.take i (raws l hs l.length) ++ List.drop (i + 1) (raws l hs l.length))), .abs (vecA (HD gv l.length vc) 60 5 l.length (rrow l hs i)), .abs (dscS b2 l), .abs (glbA m)]⟩) (fun k => k ≤ (l.getD i default).fields.length) (fun k => (l.getD i default).fields.length - k) 0 (Nat.zero_le _) (Le.pick [0, 0, 0, 0, 0, 0, 0] ⟨rfl, rfl, rfl, rfl, rfl, rfl, rfl, trivial⟩ rfl) ?_
      intro k hk
      repeat (first | refine sc rfl ?_ | refine so rfl ?_ | refine sb rfl ?_)
      refine ⟨by omega, ?_⟩
      rw [Int.toNat_natCast]
      repeat (first | refine sc rfl ?_ | refine so rfl ?_ | refine sb rfl ?_)
      first
        | refine O_loadP 0 (A := vecA (HD gv l.length vc) 60 5 l.length (rrow l hs i)) (cells := (drow (l.getD i default) (.slice fa (l.getD i default).fields.length fc)).drop 2) (hread 2) rfl rfl rfl rfl rfl rfl ?_
        | refine O_loadP 1 (A := vecA (HD gv l.length vc) 60 5 l.length (rrow l hs i)) (cells := (drow (l.getD i default) (.slice fa (l.getD i default).fields.length fc)).drop 2) (hread 2) rfl rfl rfl rfl rfl rfl ?_
        | refine O_loadP 2 (A := vecA (HD gv l.length vc) 60 5 l.length (rrow l hs i)) (cells := (drow (l.getD i default) (.slice fa (l.getD i default).fields.length fc)).drop 2) (hread 2) rfl rfl rfl rfl rfl rfl ?_
        | refine O_loadP 3 (A := vecA (HD gv l.length vc) 60 5 l.length (rrow l hs i)) (cells := (drow (l.getD i default) (.slice fa (l.getD i default).fields.length fc)).drop 2) (hread 2) rfl rfl rfl rfl rfl rfl ?_
        | refine O_loadP 4 (A := vecA (HD gv l.length vc) 60 5 l.length (rrow l hs i)) (cells := (drow (l.getD i default) (.slice fa (l.getD i default).fields.length fc)).drop 2) (hread 2) rfl rfl rfl rfl rfl rfl ?_
        | refine O_loadP 5 (A := vecA (HD gv l.length vc) 60 5 l.length (rrow l hs i)) (cells := (drow (l.getD i default) (.slice fa (l.getD i default).fields.length fc)).drop 2) (hread 2) rfl rfl rfl rfl rfl rfl ?_
        | refine O_loadP 6 (A := vecA (HD gv l.length vc) 60 5 l.length (rrow l hs i)) (cells := (drow (l.getD i default) (.slice fa (l.getD i default).fields.length fc)).drop 2) (hread 2) rfl rfl rfl rfl rfl rfl ?_
        | refine O_loadP 7 (A := vecA (HD gv l.length vc) 60 5 l.length (rrow l hs i)) (cells := (drow (l.getD i default) (.slice fa (l.getD i default).fields.length fc)).drop 2) (hread 2) rfl rfl rfl rfl rfl rfl ?_
      repeat (first | refine sc rfl ?_ | refine so rfl ?_ | refine sb rfl ?_)
      refine C_if rfl (fun m2 => ?_) (fun m2 => ?_) <;> simp only [decide_eq_true_eq, decide_eq_false_iff_not, Bool.not_eq_true', Bool.not_eq_false', beq_iff_eq, beq_eq_false_iff_ne, bne_iff_ne, ne_eq, bne_eq_false_iff_eq, Decidable.not_not] at m2
      · have hkl : k < (l.getD i default).fields.length := by omega
        obtain ⟨gf, rfl⟩ := hfa (by omega)
        repeat (first | refine sc rfl ?_ | refine so rfl ?_ | refine sb rfl ?_)
        refine ⟨by omega, ?_⟩
        rw [Int.toNat_natCast]
        repeat (first | refine sc rfl ?_ | refine so rfl ?_ | refine sb rfl ?_)
        first
          | refine O_loadP 0 (A := vecA (HD gv l.length vc) 60 5 l.length (rrow l hs i)) (cells := (drow (l.getD i default) (HD gf (l.getD i default).fields.length fc)).drop 2) (hread 2) rfl rfl rfl rfl rfl rfl ?_
          | refine O_loadP 1 (A := vecA (HD gv l.length vc) 60 5 l.length (rrow l hs i)) (cells := (drow (l.getD i default) (HD gf (l.getD i default).fields.length fc)).drop 2) (hread 2) rfl rfl rfl rfl rfl rfl ?_
          | refine O_loadP 2 (A := vecA (HD gv l.length vc) 60 5 l.length (rrow l hs i)) (cells := (drow (l.getD i default) (HD gf (l.getD i default).fields.length fc)).drop 2) (hread 2) rfl rfl rfl rfl rfl rfl ?_
          | refine O_loadP 3 (A := vecA (HD gv l.length vc) 60 5 l.length (rrow l hs i)) (cells := (drow (l.getD i default) (HD gf (l.getD i default).fields.length fc)).drop 2) (hread 2) rfl rfl rfl rfl rfl rfl ?_
          | refine O_loadP 4 (A := vecA (HD gv l.length vc) 60 5 l.length (rrow l hs i)) (cells := (drow (l.getD i default) (HD gf (l.getD i default).fields.length fc)).drop 2) (hread 2) rfl rfl rfl rfl rfl rfl ?_
          | refine O_loadP 5 (A := vecA (HD gv l.length vc) 60 5 l.length (rrow l hs i)) (cells := (drow (l.getD i default) (HD gf (l.getD i default).fields.length fc)).drop 2) (hread 2) rfl rfl rfl rfl rfl rfl ?_
          | refine O_loadP 6 (A := vecA (HD gv l.length vc) 60 5 l.length (rrow l hs i)) (cells := (drow (l.getD i default) (HD gf (l.getD i default).fields.length fc)).drop 2) (hread 2) rfl rfl rfl rfl rfl rfl ?_
          | refine O_loadP 7 (A := vecA (HD gv l.length vc) 60 5 l.length (rrow l hs i)) (cells := (drow (l.getD i default) (HD gf (l.getD i default).fields.length fc)).drop 2) (hread 2) rfl rfl rfl rfl rfl rfl ?_
        repeat (first | refine sc rfl ?_ | refine so rfl ?_ | refine sb rfl ?_)
        refine ⟨by omega, ?_⟩
        rw [Int.toNat_natCast]
        repeat (first | refine sc rfl ?_ | refine so rfl ?_ | refine sb rfl ?_)
        first
          | refine O_Xn (X_storeP 0 (A := rawA (HD gf (l.getD i default).fields.length fc) (l.getD i default).fields.length) (writes_raw (by omega)) rfl rfl rfl rfl rfl rfl rfl) ?_
          | refine O_Xn (X_storeP 1 (A := rawA (HD gf (l.getD i default).fields.length fc) (l.getD i default).fields.length) (writes_raw (by omega)) rfl rfl rfl rfl rfl rfl rfl) ?_
          | refine O_Xn (X_storeP 2 (A := rawA (HD gf (l.getD i default).fields.length fc) (l.getD i default).fields.length) (writes_raw (by omega)) rfl rfl rfl rfl rfl rfl rfl) ?_
          | refine O_Xn (X_storeP 3 (A := rawA (HD gf (l.getD i default).fields.length fc) (l.getD i default).fields.length) (writes_raw (by omega)) rfl rfl rfl rfl rfl rfl rfl) ?_
          | refine O_Xn (X_storeP 4 (A := rawA (HD gf (l.getD i default).fields.length fc) (l.getD i default).fields.length) (writes_raw (by omega)) rfl rfl rfl rfl rfl rfl rfl) ?_
          | refine O_Xn (X_storeP 5 (A := rawA (HD gf (l.getD i default).fields.length fc) (l.getD i default).fields.length) (writes_raw (by omega)) rfl rfl rfl rfl rfl rfl rfl) ?_
          | refine O_Xn (X_storeP 6 (A := rawA (HD gf (l.getD i default).fields.length fc) (l.getD i default).fields.length) (writes_raw (by omega)) rfl rfl rfl rfl rfl rfl rfl) ?_
          | refine O_Xn (X_storeP 7 (A := rawA (HD gf (l.getD i default).fields.length fc) (l.getD i default).fields.length) (writes_raw (by omega)) rfl rfl rfl rfl rfl rfl rfl) ?_
        repeat (first | refine sc rfl ?_ | refine so rfl ?_ | refine sb rfl ?_)
        refine ⟨by omega, ?_⟩
        rw [Int.toNat_natCast]
        repeat (first | refine sc rfl ?_ | refine so rfl ?_ | refine sb rfl ?_)
        first
          | refine O_loadP 0 (A := vecA (HD gv l.length vc) 60 5 l.length (rrow l hs i)) (cells := (drow (l.getD i default) (HD gf (l.getD i default).fields.length fc)).drop 2) (hread 2) rfl rfl rfl rfl rfl rfl ?_
          | refine O_loadP 1 (A := vecA (HD gv l.length vc) 60 5 l.length (rrow l hs i)) (cells := (drow (l.getD i default) (HD gf (l.getD i default).fields.length fc)).drop 2) (hread 2) rfl rfl rfl rfl rfl rfl ?_
          | refine O_loadP 2 (A := vecA (HD gv l.length vc) 60 5 l.length (rrow l hs i)) (cells := (drow (l.getD i default) (HD gf (l.getD i default).fields.length fc)).drop 2) (hread 2) rfl rfl rfl rfl rfl rfl ?_
          | refine O_loadP 3 (A := vecA (HD gv l.length vc) 60 5 l.length (rrow l hs i)) (cells := (drow (l.getD i default) (HD gf (l.getD i default).fields.length fc)).drop 2) (hread 2) rfl rfl rfl rfl rfl rfl ?_
          | refine O_loadP 4 (A := vecA (HD gv l.length vc) 60 5 l.length (rrow l hs i)) (cells := (drow (l.getD i default) (HD gf (l.getD i default).fields.length fc)).drop 2) (hread 2) rfl rfl rfl rfl rfl rfl ?_
          | refine O_loadP 5 (A := vecA (HD gv l.length vc) 60 5 l.length (rrow l hs i)) (cells := (drow (l.getD i default) (HD gf (l.getD i default).fields.length fc)).drop 2) (hread 2) rfl rfl rfl rfl rfl rfl ?_
          | refine O_loadP 6 (A := vecA (HD gv l.length vc) 60 5 l.length (rrow l hs i)) (cells := (drow (l.getD i default) (HD gf (l.getD i default).fields.length fc)).drop 2) (hread 2) rfl rfl rfl rfl rfl rfl ?_
          | refine O_loadP 7 (A := vecA (HD gv l.length vc) 60 5 l.length (rrow l hs i)) (cells := (drow (l.getD i default) (HD gf (l.getD i default).fields.length fc)).drop 2) (hread 2) rfl rfl rfl rfl rfl rfl ?_
        repeat (first | refine sc rfl ?_ | refine so rfl ?_ | refine sb rfl ?_)
        refine ⟨by omega, ?_⟩
        rw [Int.toNat_natCast]
        repeat (first | refine sc rfl ?_ | refine so rfl ?_ | refine sb rfl ?_)
        first
          | refine O_Xn (X_storeP 0 (A := rawA (HD gf (l.getD i default).fields.length fc) (l.getD i default).fields.length) (writes_raw (by omega)) rfl rfl rfl rfl rfl rfl rfl) ?_
          | refine O_Xn (X_storeP 1 (A := rawA (HD gf (l.getD i default).fields.length fc) (l.getD i default).fields.length) (writes_raw (by omega)) rfl rfl rfl rfl rfl rfl rfl) ?_
          | refine O_Xn (X_storeP 2 (A := rawA (HD gf (l.getD i default).fields.length fc) (l.getD i default).fields.length) (writes_raw (by omega)) rfl rfl rfl rfl rfl rfl rfl) ?_
          | refine O_Xn (X_storeP 3 (A := rawA (HD gf (l.getD i default).fields.length fc) (l.getD i default).fields.length) (writes_raw (by omega)) rfl rfl rfl rfl rfl rfl rfl) ?_
          | refine O_Xn (X_storeP 4 (A := rawA (HD gf (l.getD i default).fields.length fc) (l.getD i default).fields.length) (writes_raw (by omega)) rfl rfl rfl rfl rfl rfl rfl) ?_
          | refine O_Xn (X_storeP 5 (A := rawA (HD gf (l.getD i default).fields.length fc) (l.getD i default).fields.length) (writes_raw (by omega)) rfl rfl rfl rfl rfl rfl rfl) ?_
          | refine O_Xn (X_storeP 6 (A := rawA (HD gf (l.getD i default).fields.length fc) (l.getD i default).fields.length) (writes_raw (by omega)) rfl rfl rfl rfl rfl rfl rfl) ?_
          | refine O_Xn (X_storeP 7 (A := rawA (HD gf (l.getD i default).fields.length fc) (l.getD i default).fields.length) (writes_raw (by omega)) rfl rfl rfl rfl rfl rfl rfl) ?_
        repeat (first | refine sc rfl ?_ | refine so rfl ?_ | refine sb rfl ?_)
        rw [w64 (x := (k : Int) + 1) (by omega) (by omega)]
        exact ⟨k + 1, hkl, by omega, Le.pick [1, 1, 0, 0, 0, 0, 0] ⟨rfl, rfl, rfl, rfl, rfl, rfl, rfl, trivial⟩ rfl⟩
      · repeat (first | refine sc rfl ?_ | refine so rfl ?_ | refine sb rfl ?_)
        refine C_loop (fun q : Nat => ⟨[(0, .s s), (3, PT b 0), (5, .v (HD gv l.length vc)), (6, PT b2 0), (8, I64 (i : Nat)), (9, .v (.slice ra R.length rc)), (11, I64 (q : Nat))], [.abs (rawA (.slice ra R.length rc) R.length), .abs (dscS b l), .abs (rawA (.slice fa (l.getD i default).fields.length fc) (l.getD i default).fields.length), .abs (packA (List.take i (raws l hs l.length) ++ List.drop (i + 1) (raws l hs l.length))), .abs (vecA (HD gv l.length vc) 60 5 l.length (rrow l hs i)), .abs (dscS b2 l), .abs (glbA m)]⟩) (fun q => q ≤ R.length) (fun q => R.length - q) 0 (Nat.zero_le _) (Le.pick [0, 0, 0, 0, 0, 0, 0] ⟨rfl, rfl, rfl, rfl, rfl, rfl, rfl, trivial⟩ rfl) ?_
        intro q hq
        repeat (first | refine sc rfl ?_ | refine so rfl ?_ | refine sb rfl ?_)
        refine C_if rfl (fun m3 => ?_) (fun m3 => ?_) <;> simp only [decide_eq_true_eq, decide_eq_false_iff_not, Bool.not_eq_true', Bool.not_eq_false', beq_iff_eq, beq_eq_false_iff_ne, bne_iff_ne, ne_eq, bne_eq_false_iff_eq, Decidable.not_not] at m3
        · have hql : q < R.length := by omega
          obtain ⟨gr, rfl⟩ := hra (by omega)
          repeat (first | refine sc rfl ?_ | refine so rfl ?_ | refine sb rfl ?_)
          refine ⟨by omega, ?_⟩
          rw [Int.toNat_natCast]
          repeat (first | refine sc rfl ?_ | refine so rfl ?_ | refine sb rfl ?_)
          first
            | refine O_Xn (X_storeP 0 (A := rawA (HD gr R.length rc) R.length) (writes_raw (by omega)) rfl rfl rfl rfl rfl rfl rfl) ?_
            | refine O_Xn (X_storeP 1 (A := rawA (HD gr R.length rc) R.length) (writes_raw (by omega)) rfl rfl rfl rfl rfl rfl rfl) ?_
            | refine O_Xn (X_storeP 2 (A := rawA (HD gr R.length rc) R.length) (writes_raw (by omega)) rfl rfl rfl rfl rfl rfl rfl) ?_
            | refine O_Xn (X_storeP 3 (A := rawA (HD gr R.length rc) R.length) (writes_raw (by omega)) rfl rfl rfl rfl rfl rfl rfl) ?_
            | refine O_Xn (X_storeP 4 (A := rawA (HD gr R.length rc) R.length) (writes_raw (by omega)) rfl rfl rfl rfl rfl rfl rfl) ?_
            | refine O_Xn (X_storeP 5 (A := rawA (HD gr R.length rc) R.length) (writes_raw (by omega)) rfl rfl rfl rfl rfl rfl rfl) ?_
            | refine O_Xn (X_storeP 6 (A := rawA (HD gr R.length rc) R.length) (writes_raw (by omega)) rfl rfl rfl rfl rfl rfl rfl) ?_
            | refine O_Xn (X_storeP 7 (A := rawA (HD gr R.length rc) R.length) (writes_raw (by omega)) rfl rfl rfl rfl rfl rfl rfl) ?_
          repeat (first | refine sc rfl ?_ | refine so rfl ?_ | refine sb rfl ?_)
          refine ⟨by omega, ?_⟩
          rw [Int.toNat_natCast]
          repeat (first | refine sc rfl ?_ | refine so rfl ?_ | refine sb rfl ?_)
          first
            | refine O_Xn (X_storeP 0 (A := rawA (HD gr R.length rc) R.length) (writes_raw (by omega)) rfl rfl rfl rfl rfl rfl rfl) ?_
            | refine O_Xn (X_storeP 1 (A := rawA (HD gr R.length rc) R.length) (writes_raw (by omega)) rfl rfl rfl rfl rfl rfl rfl) ?_
            | refine O_Xn (X_storeP 2 (A := rawA (HD gr R.length rc) R.length) (writes_raw (by omega)) rfl rfl rfl rfl rfl rfl rfl) ?_
            | refine O_Xn (X_storeP 3 (A := rawA (HD gr R.length rc) R.length) (writes_raw (by omega)) rfl rfl rfl rfl rfl rfl rfl) ?_
            | refine O_Xn (X_storeP 4 (A := rawA (HD gr R.length rc) R.length) (writes_raw (by omega)) rfl rfl rfl rfl rfl rfl rfl) ?_
            | refine O_Xn (X_storeP 5 (A := rawA (HD gr R.length rc) R.length) (writes_raw (by omega)) rfl rfl rfl rfl rfl rfl rfl) ?_
            | refine O_Xn (X_storeP 6 (A := rawA (HD gr R.length rc) R.length) (writes_raw (by omega)) rfl rfl rfl rfl rfl rfl rfl) ?_
            | refine O_Xn (X_storeP 7 (A := rawA (HD gr R.length rc) R.length) (writes_raw (by omega)) rfl rfl rfl rfl rfl rfl rfl) ?_
          repeat (first | refine sc rfl ?_ | refine so rfl ?_ | refine sb rfl ?_)
          rw [w64 (x := (q : Int) + 1) (by omega) (by omega)]
          exact ⟨q + 1, hql, by omega, Le.pick [0, 0, 0, 0, 0, 0, 0] ⟨rfl, rfl, rfl, rfl, rfl, rfl, rfl, trivial⟩ rfl⟩
        · repeat (first | refine sc rfl ?_ | refine so rfl ?_ | refine sb rfl ?_)
          refine ⟨by omega, ?_⟩
          rw [Int.toNat_natCast]
          repeat (first | refine sc rfl ?_ | refine so rfl ?_ | refine sb rfl ?_)
          refine O_Xn (X_storeP 4 (A := vecA (HD gv l.length vc) 60 5 l.length (rrow l hs i)) (A' := vecA (HD gv l.length vc) 60 5 l.length (rrow l hs (i + 1))) (x := .s [63]) (writes_vec (q := i) (j := 1) hil (by decide) (by omega) (rrow_set l hs i)) rfl rfl rfl rfl rfl rfl rfl) ?_
          repeat (first | refine sc rfl ?_ | refine so rfl ?_ | refine sb rfl ?_)
          rw [w64 (x := (i : Int) + 1) (by omega) (by omega)]
          refine ⟨i + 1, hil, by omega, ?_⟩
          refine (Le.packAt 3 3 hrw rfl).trans ?_
          rw [set_same hrw]
          exact Le.pick [1, 0, 1, 1, 1] ⟨rfl, rfl, rfl, rfl, rfl, trivial⟩ rfl
    · repeat (first | refine sc rfl ?_ | refine so rfl ?_ | refine sb rfl ?_)
      refine O_callA [4] hRd (by rfl) (by rfl) (by rfl) (by rfl) (by rfl) ?_
      rintro r cs' ⟨b3, rfl, rfl⟩
      repeat (first | refine sc rfl ?_ | refine so rfl ?_ | refine sb rfl ?_)
      refine O_callA [5, 1] (Same_S b b3 l hl) (by rfl) (by rfl) (by rfl) (by rfl) (by rfl) ?_
      rintro r cs' ⟨rfl, rfl⟩
      repeat (first | refine sc rfl ?_ | refine so rfl ?_ | refine sb rfl ?_)
      refine O_callA [6, 1] (Same_S b2 b3 l hl) (by rfl) (by rfl) (by rfl) (by rfl) (by rfl) ?_
      rintro r cs' ⟨rfl, rfl⟩
      repeat (first | refine sc rfl ?_ | refine so rfl ?_ | refine sb rfl ?_)
      refine O_callA [4] (awake13_A m) (by rfl) (by rfl) (by rfl) (by rfl) (by rfl) ?_
      rintro r cs' ⟨rfl, rfl⟩
      repeat (first | refine sc rfl ?_ | refine so rfl ?_ | refine sb rfl ?_)
      first
        | exact ⟨_, [_], _, rfl, pickA_perm (is := [0]) (As := [_]) rfl, rfl, rfl, rfl⟩
        | exact ⟨_, [_], _, rfl, pickA_perm (is := [1]) (As := [_]) rfl, rfl, rfl, rfl⟩
        | exact ⟨_, [_], _, rfl, pickA_perm (is := [2]) (As := [_]) rfl, rfl, rfl, rfl⟩
        | exact ⟨_, [_], _, rfl, pickA_perm (is := [3]) (As := [_]) rfl, rfl, rfl, rfl⟩
        | exact ⟨_, [_], _, rfl, pickA_perm (is := [4]) (As := [_]) rfl, rfl, rfl, rfl⟩
end Go.Proofs

/- The closed facts of the row, limb by limb. -/
set_option maxRecDepth 100000
namespace Go.Proofs.YtgmdpfoccnalnaaGreat.descOwnDone
open Go.ChangeShapes Go.WideShapes

theorem fact1 : Rows.descOwnRow.wf (OpenSpec.ofChange Rows.descOwnSpec) = true := by kernel_rfl
theorem fact2 : laidOutB Tryz.prog = true := by kernel_rfl
theorem fact3 : mapsRowed Tryz.prog = true := by kernel_rfl
theorem fact4 : Tryz.f4.params.all (Program.readableRec Tryz.prog ·) = true := by kernel_rfl
theorem fact5 : namedTie Tryz.prog Rows.descOwnRow.named Rows.descOwnSpec.vars = true := by kernel_rfl
theorem fact6 : (Rows.descOwnRow.stops == []) = true := by kernel_rfl
theorem fact7 : (Tryz.prog.stops == []) = true := by kernel_rfl
theorem fact8 : (Rows.descOwnRow.knobs == []) = true := by kernel_rfl
theorem fact9 : (Tryz.prog.stopKnobs == []) = true := by kernel_rfl
theorem fact10 : (Rows.descOwnRow.inPlace == Tryz.prog.inPlace 4) = true := by kernel_rfl
theorem fact11 : (Rows.descOwnRow.unfollowed == Tryz.prog.unfollowed 4) = true := by kernel_rfl
theorem fact12 : (Rows.descOwnRow.recurses == Tryz.prog.recurses 4) = true := by kernel_rfl
theorem fact13 : (Rows.descOwnRow.named == Tryz.prog.varsNamed 4) = true := by kernel_rfl
theorem fact14 : (Rows.descOwnRow.maps == (Tryz.f4.params.toList ++ Rows.descOwnSpec.plain.varTypes Tryz.prog).any (Program.mapsRec Tryz.prog ·)) = true := by kernel_rfl
theorem fact15 : (Rows.descOwnRow.ifaces == (Tryz.f4.params.toList ++ Rows.descOwnSpec.plain.varTypes Tryz.prog).any (Program.ifacesRec Tryz.prog ·)) = true := by kernel_rfl
theorem fact16 : (Rows.descOwnRow.mapsOut == Program.mapsAmong Tryz.prog Tryz.f4.resultTypes.toList) = true := by kernel_rfl
theorem fact17 : (Rows.descOwnRow.loops == (Tryz.f4.params.toList ++ Rows.descOwnSpec.plain.varTypes Tryz.prog).any (Program.loopsFrom Tryz.prog ·)) = true := by kernel_rfl
theorem fact18 : (Rows.descOwnRow.wideKeys == (Tryz.f4.params.toList ++ Rows.descOwnSpec.plain.varTypes Tryz.prog ++ Tryz.f4.resultTypes.toList).any (Program.wideKeysFrom Tryz.prog ·)) = true := by kernel_rfl
theorem fact19 : Rows.descOwnSpec.vars.all (Program.varReadable Tryz.prog ·) = true := by kernel_rfl
theorem fact20 : Tryz.f4.resultTypes.all (fun t => Program.readableRec Tryz.prog t && decide (t < Tryz.prog.types.size)) = true := by kernel_rfl
theorem fact21 : (Rows.descOwnRow.ifacesOut == Tryz.f4.resultTypes.toList.any (Program.ifacesRec Tryz.prog ·)) = true := by kernel_rfl
theorem fact22 : (Rows.descOwnRow.loopsOut == Tryz.f4.resultTypes.toList.any (Program.loopsFrom Tryz.prog ·)) = true := by kernel_rfl
theorem fact23 : (Rows.descOwnRow.plainKeys == Tryz.prog.plainKeys) = true := by kernel_rfl
theorem fact24 : Rows.descOwnRow.shortTexts.isNone = true := by kernel_rfl
theorem fact25 : Tryz.prog.stopsHeard = true := by kernel_rfl
theorem fact26 : Tryz.prog.mayEnter = true := by kernel_rfl
theorem fact27 : (Rows.descOwnRow.lifted == Tryz.prog.liftsFinal) = true := by kernel_rfl
theorem fact28 : (Program.make Tryz.prog == some Rows.descOwnRow.make) = true := by kernel_rfl
theorem fact30 : (Rows.descOwnRow.pinned == Rows.descOwnRow.pinnedBy) = true := by kernel_rfl
theorem fact31 : (Rows.descOwnRow.veiled == (Tryz.f4.params.toList ++ Rows.descOwnSpec.plain.varTypes Tryz.prog ++ Tryz.f4.resultTypes.toList).any (Program.veiledRec Tryz.prog ·)) = true := by kernel_rfl
theorem fact32 : Rows.descOwnRow.veiledFits Tryz.prog Tryz.f4.params.toList (Tryz.f4.params.toList ++ Rows.descOwnSpec.plain.varTypes Tryz.prog ++ Tryz.f4.resultTypes.toList) = true := by kernel_rfl
theorem facts : joinedFacts Tryz.prog 4 Tryz.f4 Rows.descOwnSpec Rows.descOwnRow = true := by
  unfold joinedFacts
  simp only [Bool.and_eq_true]
  exact ⟨⟨⟨⟨⟨⟨⟨⟨⟨⟨⟨⟨⟨⟨⟨⟨⟨⟨⟨⟨⟨⟨⟨⟨⟨⟨⟨⟨⟨⟨⟨fact1, fact2⟩, fact3⟩, fact4⟩, fact5⟩, fact6⟩, fact7⟩, fact8⟩, fact9⟩, fact10⟩, fact11⟩, fact12⟩, fact13⟩, fact14⟩, fact15⟩, fact16⟩, fact17⟩, fact18⟩, fact19⟩, fact20⟩, fact21⟩, fact22⟩, fact23⟩, fact24⟩, fact25⟩, fact26⟩, fact27⟩, fact28⟩, (by kernel_rfl)⟩, fact30⟩, fact31⟩, fact32⟩
end Go.Proofs.YtgmdpfoccnalnaaGreat.descOwnDone
