/- Contracts of check: rows, fields, methods. -/
import Derived.Test.YtgmdpfoccnalnaaGreatE6
import Derived.Test.YtgmdpfoccnalnaaGreatE5
set_option linter.unusedSimpArgs false
set_option linter.unusedVariables false
set_option maxRecDepth 100000
namespace Go.Proofs
open Go.Sy Go.Lib

noncomputable abbrev iK : Key Tryz.prog 3 Int := intKey Tryz.underlying3
abbrev ikey (i : Int) : Value := .int .i64 i
theorem sameBits_ik (k : Int) : Instr.sameBits 10000 (ikey k) (ikey k) = true := by
  show Instr.sameBits (9999 + 1) (.int .i64 k) (.int .i64 k) = true
  simp [Instr.sameBits]

theorem lookE_upd {α : Type} [DecidableEq α] (k : α) (x : AV) : ∀ es : List (α × AV), lookE k (updE k x es) = some x
  | [] => by simp [updE, lookE]
  | (j, y) :: es => by
    simp only [updE]
    split
    · rename_i h; simp [lookE, h]
    · rename_i h; simp only [lookE, if_neg h]; exact lookE_upd k x es

abbrev ones {α : Type} (l : List α) : List (α × AV) := l.map fun t => (t, I64 1)
theorem lookE_ones {α : Type} [DecidableEq α] (k : α) : ∀ l : List α, lookE k (ones l) = if k ∈ l then some (I64 1) else none
  | [] => by simp [lookE]
  | a :: l => by
    simp only [ones, List.map_cons, lookE, List.mem_cons]
    by_cases h : a = k
    · simp [h]
    · have h2 : ¬ k = a := fun e => h e.symm
      rw [if_neg h, show lookE k (List.map (fun t => (t, I64 1)) l) = lookE k (ones l) from rfl, lookE_ones k l]
      simp [h2]
def cntOf {α : Type} [DecidableEq α] (k : α) (l : List α) : Int := if k ∈ l then 1 else 0
theorem look_ones {α : Type} [DecidableEq α] (k : α) (l : List α) : (lookE k (ones l)).getD (I64 0) = I64 (cntOf k l) := by
  rw [lookE_ones]; unfold cntOf; split <;> rfl
theorem cnt_wrap {α : Type} [DecidableEq α] (k : α) (l : List α) : IntKind.i64.wrap (cntOf k l + 1) = cntOf k l + 1 := by
  unfold cntOf; split <;> rfl

abbrev seenA (bS mt mn : Nat) : Abs := boxA bS 304 [.v (.map (some mt)), .v (.map (some mn))]
abbrev tagA (mt : Nat) (es : List (Int × AV)) : Abs := mapA ikey (some mt) es
abbrev namA (mn : Nat) (es : List (List UInt8 × AV)) : Abs := mapA S (some mn) es

theorem row_A (bS mt mn : Nat) (ts : List Int) (ns : List (List UInt8)) (tag : Int) (name : List UInt8) (least most : Int) :
    FnA Tryz.prog 193 [PT bS 0, I64 tag, .s name, I64 least, I64 most] [seenA bS mt mn, tagA mt (ones ts), namA mn (ones ns)]
      (fun r cs' => ∃ e : Int, r = I64 e ∧ (e = 0 → cs' = [seenA bS mt mn, tagA mt (ones (ts ++ [tag])), namA mn (ones (ns ++ [name]))] ∧ least ≤ tag ∧ tag ≤ most ∧ tag ∉ ts ∧ name ∉ ns) ∧ (least ≤ tag ∧ tag ≤ most ∧ tag ∉ ts ∧ name ∉ ns → e = 0)) := by
  refine FnA.intro Tryz.tabOK Tryz.wide_ Tryz.func193 rfl (by decide) rfl (fun X => ?_)
  by_cases h1 : tag < least
  · repeat (first|refine sc rfl ?_|refine so rfl ?_|refine sb rfl ?_)
    refine O_case 14 rfl (fun g => ?_) (fun g => ?_) <;> simp only [pL] at g
    · repeat (first|refine sc rfl ?_|refine so rfl ?_|refine sb rfl ?_)
      refine C_true rfl rfl ?_
      repeat (first|refine sc rfl ?_|refine so rfl ?_|refine sb rfl ?_)
      exact ⟨_, [], _, rfl, .refl _, rfl, 9, rfl, fun h => absurd h (by decide), fun h => by omega⟩
    · exact absurd h1 g
  by_cases h2 : most < tag
  · repeat (first|refine sc rfl ?_|refine so rfl ?_|refine sb rfl ?_)
    refine O_case 14 rfl (fun g => ?_) (fun g => ?_) <;> simp only [pL] at g
    · exact absurd g h1
    · repeat (first|refine sc rfl ?_|refine so rfl ?_|refine sb rfl ?_)
      refine C_true rfl (by simpa using h2) ?_
      repeat (first|refine sc rfl ?_|refine so rfl ?_|refine sb rfl ?_)
      exact ⟨_, [], _, rfl, .refl _, rfl, 9, rfl, fun h => absurd h (by decide), fun h => by omega⟩
  repeat (first|refine sc rfl ?_|refine so rfl ?_|refine sb rfl ?_)
  refine O_case 14 rfl (fun g => ?_) (fun g => ?_) <;> simp only [pL] at g
  · exact absurd g h1
  repeat (first|refine sc rfl ?_|refine so rfl ?_|refine sb rfl ?_)
  refine C_false rfl (by simpa using h2) ?_
  repeat (first|refine sc rfl ?_|refine so rfl ?_|refine sb rfl ?_)
  refine O_loadP 0 (reads_box 0) rfl rfl rfl rfl rfl rfl ?_
  repeat (first|refine sc rfl ?_|refine so rfl ?_|refine sb rfl ?_)
  refine O_Xd (X_look 1 (z := I64 0) iK Tryz.underlying302 rfl rfl (fun e => by simp only [Rep]) rfl rfl rfl rfl rfl rfl) ?_
  simp only [lookAV, cond_false, look_ones]
  repeat (first|refine sc rfl ?_|refine so rfl ?_|refine sb rfl ?_)
  rw [cnt_wrap]
  refine O_Xn (X_upd 1 iK Tryz.underlying302 sameBits_ik rfl rfl rfl rfl rfl rfl) ?_
  repeat (first|refine sc rfl ?_|refine so rfl ?_|refine sb rfl ?_)
  refine O_loadP 1 (reads_box 1) rfl rfl rfl rfl rfl rfl ?_
  repeat (first|refine sc rfl ?_|refine so rfl ?_|refine sb rfl ?_)
  refine O_Xd (X_lookS 2 (z := I64 0) sK Tryz.underlying298 rfl rfl (fun e => by simp only [Rep]) rfl (fun e v h => kS e h) rfl rfl rfl rfl rfl) ?_
  simp only [lookAV, cond_false, look_ones]
  repeat (first|refine sc rfl ?_|refine so rfl ?_|refine sb rfl ?_)
  rw [cnt_wrap]
  refine O_Xn (X_updS 2 sK Tryz.underlying298 sameBits_str (fun e v h => kS e h) rfl rfl rfl rfl rfl rfl) ?_
  repeat (first|refine sc rfl ?_|refine so rfl ?_|refine sb rfl ?_)
  refine O_loadP 2 (reads_box 0) rfl rfl rfl rfl rfl rfl ?_
  repeat (first|refine sc rfl ?_|refine so rfl ?_|refine sb rfl ?_)
  refine O_Xd (X_look 1 (z := I64 0) iK Tryz.underlying302 rfl rfl (fun e => by simp only [Rep]) rfl rfl rfl rfl rfl rfl) ?_
  simp only [lookAV, cond_false, lookE_upd, Option.getD_some]
  repeat (first|refine sc rfl ?_|refine so rfl ?_|refine sb rfl ?_)
  refine O_case 40 rfl (fun k1 => ?_) (fun k1 => ?_) <;> simp only [pL] at k1
  · repeat (first|refine sc rfl ?_|refine so rfl ?_|refine sb rfl ?_)
    refine C_true rfl rfl ?_
    repeat (first|refine sc rfl ?_|refine so rfl ?_|refine sb rfl ?_)
    exact ⟨_, [], _, rfl, .refl _, rfl, 7, rfl, fun h => absurd h (by decide), fun h => by exfalso; unfold cntOf at k1; rw [if_neg h.2.2.1] at k1; revert k1; decide⟩
  repeat (first|refine sc rfl ?_|refine so rfl ?_|refine sb rfl ?_)
  refine O_loadP 2 (reads_box 1) rfl rfl rfl rfl rfl rfl ?_
  repeat (first|refine sc rfl ?_|refine so rfl ?_|refine sb rfl ?_)
  refine O_Xd (X_lookS 0 (z := I64 0) sK Tryz.underlying298 rfl rfl (fun e => by simp only [Rep]) rfl (fun e v h => kS e h) rfl rfl rfl rfl rfl) ?_
  simp only [lookAV, cond_false, lookE_upd, Option.getD_some]
  repeat (first|refine sc rfl ?_|refine so rfl ?_|refine sb rfl ?_)
  refine C_if rfl (fun k2 => ?_) (fun k2 => ?_) <;> simp only [pL] at k2
  · repeat (first|refine sc rfl ?_|refine so rfl ?_|refine sb rfl ?_)
    exact ⟨_, [], _, rfl, .refl _, rfl, 7, rfl, fun h => absurd h (by decide), fun h => by exfalso; unfold cntOf at k2; rw [if_neg h.2.2.2] at k2; revert k2; decide⟩
  · have e1 : tag ∉ ts := fun h => k1 (by unfold cntOf; rw [if_pos h]; decide)
    have e2 : name ∉ ns := fun h => k2 (by unfold cntOf; rw [if_pos h]; decide)
    have u1 : updE tag (I64 (cntOf tag ts + 1)) (ones ts) = ones (ts ++ [tag]) := by
      rw [updE_new (by rw [lookE_ones, if_neg e1])]
      simp [cntOf, e1]
    have u2 : updE name (I64 (cntOf name ns + 1)) (ones ns) = ones (ns ++ [name]) := by
      rw [updE_new (by rw [lookE_ones, if_neg e2])]
      simp [cntOf, e2]
    repeat (first|refine sc rfl ?_|refine so rfl ?_|refine sb rfl ?_)
    refine ⟨_, [seenA bS mt mn, tagA mt (updE tag (I64 (cntOf tag ts + 1)) (ones ts)), namA mn (updE name (I64 (cntOf name ns + 1)) (ones ns))], [], rfl, by exact pickA_perm (is := [2, 1, 0]) (As := [_, _, _]) rfl, rfl, 0, rfl, fun _ => ?_, fun _ => rfl⟩
    rw [u1, u2]
    exact ⟨rfl, by omega, by omega, e1, e2⟩

theorem field_c (l : List Dcl) (d : Dcl) (f : Fld) : FnP Tryz.prog 194 [chkV l, .agg (Dcl.c d), .agg (Fld.c f)] (fun r => ∃ e : Int, r = I64 e ∧ (e = 0 ↔ (d.kind ≠ 3 → TyOK l false f.ty ∧ (d.kind = 2 → f.ty.kind ≠ 9)))) := by
  refine FnP.intro Tryz.tabOK Tryz.wide_ Tryz.func194 rfl (by decide) rfl (fun X => ?_)
  have hT := typ_c l _ f.ty false (Nat.le_refl _)
  have hck : chkV l = .cp [SL 5 Dcl.c l, tabV l] := rfl
  rw [hck] at hT ⊢
  repeat (first|refine sc rfl ?_|refine so rfl ?_|refine sb rfl ?_)
  refine C_if rfl (fun h1 => ?_) (fun h1 => ?_) <;> simp only [pL] at h1
  · repeat (first|refine sc rfl ?_|refine so rfl ?_|refine sb rfl ?_)
    exact ⟨_, rfl, rfl, 0, rfl, ⟨fun _ h => absurd h1 h, fun _ => rfl⟩⟩
  repeat (first|refine sc rfl ?_|refine so rfl ?_|refine sb rfl ?_)
  refine O_call hT (by rfl) (by rfl) (by rfl) (by rfl) (fun r hr => ?_)
  obtain ⟨e, rfl, he⟩ := hr
  repeat (first|refine sc rfl ?_|refine so rfl ?_|refine sb rfl ?_)
  refine C_if rfl (fun h2 => ?_) (fun h2 => ?_) <;> simp only [pL] at h2
  · repeat (first|refine sc rfl ?_|refine so rfl ?_|refine sb rfl ?_)
    exact ⟨_, rfl, rfl, e, rfl, ⟨fun h => absurd h h2, fun h => absurd (he.2 (h h1).1) h2⟩⟩
  repeat (first|refine sc rfl ?_|refine so rfl ?_|refine sb rfl ?_)
  refine O_case 21 rfl (fun h3 => ?_) (fun h3 => ?_) <;> simp only [pL] at h3
  · repeat (first|refine sc rfl ?_|refine so rfl ?_|refine sb rfl ?_)
    refine C_if rfl (fun h4 => ?_) (fun h4 => ?_) <;> simp only [pL] at h4
    · repeat (first|refine sc rfl ?_|refine so rfl ?_|refine sb rfl ?_)
      exact ⟨_, rfl, rfl, 8, rfl, ⟨fun h => absurd h (by decide), fun h => absurd h4 ((h h1).2 h3)⟩⟩
    · repeat (first|refine sc rfl ?_|refine so rfl ?_|refine sb rfl ?_)
      exact ⟨_, rfl, rfl, 0, rfl, ⟨fun _ _ => ⟨he.1 h2, fun _ => h4⟩, fun _ => rfl⟩⟩
  · repeat (first|refine sc rfl ?_|refine so rfl ?_|refine sb rfl ?_)
    refine C_false rfl rfl ?_
    repeat (first|refine sc rfl ?_|refine so rfl ?_|refine sb rfl ?_)
    exact ⟨_, rfl, rfl, 0, rfl, ⟨fun _ _ => ⟨he.1 h2, fun h => absurd h h3⟩, fun _ => rfl⟩⟩

theorem meth_two {l : List Dcl} {m : Mth} (h : kindL l m.fin = 1 ∧ kindL l m.fout = 1) {i : Nat} (hi : i < 2) : kindL l ([m.fin, m.fout].getD i default) = 1 :=
  match i, hi with
  | 0, _ => h.1
  | 1, _ => h.2
theorem meth_find {l : List Dcl} {nm : List UInt8} (h : (!(fndL nm l).isSome) = true) (hk : kindL l nm = 1) : False := by
  unfold kindL at hk
  cases hf : fndL nm l with
  | none => rw [hf] at hk; cases hk
  | some j => rw [hf] at h; cases h

theorem method_c (l : List Dcl) (m : Mth) : FnP Tryz.prog 195 [chkV l, .agg (Mth.c m)] (fun r => ∃ e : Int, r = I64 e ∧ (e = 0 ↔ (kindL l m.fin = 1 ∧ kindL l m.fout = 1))) := by
  refine FnP.intro Tryz.tabOK Tryz.wide_ Tryz.func195 rfl (by decide) rfl (fun X => ?_)
  have hck : chkV l = .cp [SL 5 Dcl.c l, tabV l] := rfl
  rw [hck]
  iterate 13 (first|refine sc rfl ?_|refine so rfl ?_|refine sb rfl ?_)
  refine O_le _ (Le.lit 13 STRc ([m.fin, m.fout] : List (List UInt8)) rfl rfl rfl (by intro j hj; match j, hj with | 0, _ => rfl | 1, _ => rfl)) ?_
  repeat (first|refine sc rfl ?_|refine so rfl ?_|refine sb rfl ?_)
  refine C_loop (fun i : Nat => ⟨[(0, .cp [SL 5 Dcl.c l, tabV l]), (13, SL 1 STRc [m.fin, m.fout]), (14, I64 2), (15, I64 (i : Nat))], []⟩) (fun i => i ≤ 2 ∧ ∀ j, j < i → kindL l ([m.fin, m.fout].getD j default) = 1) (fun i => 2 - i) 0 ⟨by omega, fun j hj => absurd hj (Nat.not_lt_zero _)⟩ (Le.sub [] ⟨rfl, rfl, rfl, rfl, trivial⟩ rfl) ?_
  rintro i ⟨hi, hall⟩
  repeat (first|refine sc rfl ?_|refine so rfl ?_|refine sb rfl ?_)
  have hK := Kind_c l ([m.fin, m.fout].getD i default)
  have hF := Find_c l ([m.fin, m.fout].getD i default)
  refine C_if rfl (fun h1 => ?_) (fun h1 => ?_) <;> simp only [pL] at h1
  · repeat (first|refine sc rfl ?_|refine so rfl ?_|refine sb rfl ?_)
    refine ⟨⟨by omega, by simpa using h1⟩, ?_⟩
    repeat (first|refine sc rfl ?_|refine so rfl ?_|refine sb rfl ?_)
    refine O_call hF (by rfl) (by rfl) (by rfl) (by rfl) (fun r hr => ?_)
    subst hr
    repeat (first|refine sc rfl ?_|refine so rfl ?_|refine sb rfl ?_)
    refine C_if rfl (fun h2 => ?_) (fun h2 => ?_)
    · repeat (first|refine sc rfl ?_|refine so rfl ?_|refine sb rfl ?_)
      exact ⟨_, rfl, rfl, 6, rfl, ⟨fun h => absurd h (by decide), fun h => by exfalso; exact meth_find h2 (meth_two h (by omega))⟩⟩
    repeat (first|refine sc rfl ?_|refine so rfl ?_|refine sb rfl ?_)
    refine O_call hK (by rfl) (by rfl) (by rfl) (by rfl) (fun r hr => ?_)
    subst hr
    repeat (first|refine sc rfl ?_|refine so rfl ?_|refine sb rfl ?_)
    refine C_if rfl (fun h3 => ?_) (fun h3 => ?_) <;> simp only [pL] at h3
    · repeat (first|refine sc rfl ?_|refine so rfl ?_|refine sb rfl ?_)
      exact ⟨_, rfl, rfl, 8, rfl, ⟨fun h => absurd h (by decide), fun h => absurd (meth_two h (by omega)) h3⟩⟩
    · repeat (first|refine sc rfl ?_|refine so rfl ?_|refine sb rfl ?_)
      rw [w64 (x := (i : Int) + 1) (by omega) (by omega)]
      refine ⟨i + 1, ⟨by omega, fun j hj => ?_⟩, by omega, Le.sub [] ⟨rfl, rfl, rfl, rfl, trivial⟩ rfl⟩
      rcases Nat.lt_or_ge j i with h | h
      · exact hall j h
      · obtain rfl : j = i := by omega
        exact h3
  · repeat (first|refine sc rfl ?_|refine so rfl ?_|refine sb rfl ?_)
    exact ⟨_, rfl, rfl, 0, rfl, ⟨fun _ => ⟨hall 0 (by omega), hall 1 (by omega)⟩, fun _ => rfl⟩⟩
end Go.Proofs

namespace Go.Proofs
open Go.Sy Go.Lib

theorem fndL_some {nm : List UInt8} : ∀ {l : List Dcl} {i : Nat}, i < l.length → (l.getD i default).name = nm → ∃ j, fndL nm l = some j
  | [], i, h, _ => by simp at h
  | d :: l, 0, _, h => ⟨0, by simp only [fndL]; rw [if_pos (by simpa using h)]⟩
  | d :: l, i + 1, h, hn => by
    simp only [fndL]
    split
    · exact ⟨0, rfl⟩
    · obtain ⟨j, hj⟩ := fndL_some (l := l) (i := i) (by simpa using h) (by simpa using hn)
      exact ⟨j + 1, by rw [hj]; rfl⟩

def leastD (k : Int) : Int := if k = 3 then 0 else 1
def mostD (k : Int) : Int := if k = 3 then 9999 else 255

structure FldsOK (l : List Dcl) (d : Dcl) (F : List Fld) : Prop where
  rng : ∀ f ∈ F, leastD d.kind ≤ f.tag ∧ f.tag ≤ mostD d.kind
  ty : ∀ f ∈ F, d.kind ≠ 3 → TyOK l false f.ty ∧ (d.kind = 2 → f.ty.kind ≠ 9)
structure MthsOK (l : List Dcl) (d : Dcl) (M : List Mth) : Prop where
  rng : ∀ m ∈ M, leastD d.kind ≤ m.tag ∧ m.tag ≤ mostD d.kind
  kd : ∀ m ∈ M, kindL l m.fin = 1 ∧ kindL l m.fout = 1

structure DclOK (l : List Dcl) (i : Nat) (d : Dcl) : Prop where
  at_ : fndL d.name l = some i
  kind : d.kind = 1 ∨ d.kind = 2 ∨ d.kind = 3 ∨ d.kind = 4
  fs : FldsOK l d d.fields
  ms : MthsOK l d d.methods
  tags : (d.fields.map (·.tag) ++ d.methods.map (·.tag)).Nodup
  names : (d.fields.map (·.name) ++ d.methods.map (·.name)).Nodup
  some_ : d.kind = 2 ∨ d.kind = 3 → d.fields ≠ []

theorem getD_at {α : Type} [Inhabited α] {l : List α} {i : Nat} (h : i < l.length) : l.getD i default = l[i] := by
  rw [List.getD_eq_getElem?_getD, List.getElem?_eq_getElem h]; rfl
theorem nodup_snoc {α : Type} {l : List α} {a : α} (h : l.Nodup) (ha : a ∉ l) : (l ++ [a]).Nodup :=
  List.nodup_append.2 ⟨h, by simp, fun x hx y hy => by simp only [List.mem_singleton] at hy; subst hy; exact fun e => ha (e ▸ hx)⟩

theorem snoc_new {α : Type} {l : List α} {a : α} (h : (l ++ [a]).Nodup) : a ∉ l := fun ha => (List.nodup_append.1 h).2.2 a ha a (by simp) rfl

theorem decl_c (l : List Dcl) (i : Nat) (hi : i < l.length) (hf : (l.getD i default).fields.length ≤ 1000) (hm : (l.getD i default).methods.length ≤ 1000) :
    FnP Tryz.prog 119 [chkV l, I64 (i : Nat)] (fun r => ∃ e : Int, r = I64 e ∧ (e = 0 ↔ DclOK l i (l.getD i default))) := by
  refine FnP.intro Tryz.tabOK Tryz.wide_ Tryz.func119 rfl (by decide) rfl (fun X => ?_)
  have hF := Find_c l (l.getD i default).name
  have hck : chkV l = .cp [SL 5 Dcl.c l, tabV l] := rfl
  rw [hck]
  repeat (first|refine sc rfl ?_|refine so rfl ?_|refine sb rfl ?_)
  refine ⟨by omega, ?_⟩
  rw [Int.toNat_natCast]
  repeat (first|refine sc rfl ?_|refine so rfl ?_|refine sb rfl ?_)
  refine C_drawD rfl (by kernel_rfl) ?_
  repeat (first|refine sd rfl ?_|refine sdb rfl ?_|refine sds rfl ?_)
  refine D_call hF rfl rfl rfl rfl ?_
  repeat (first|refine sd rfl ?_|refine sdb rfl ?_|refine sds rfl ?_)
  repeat (first|refine sc rfl ?_|refine so rfl ?_|refine sb rfl ?_)
  obtain ⟨j0, hj0⟩ := fndL_some hi rfl
  have hI0 : fndI (l.getD i default).name l = (j0 : Nat) := by unfold fndI; rw [hj0]; rfl
  refine C_if rfl (fun h1 => ?_) (fun h1 => ?_) <;> simp only [pL] at h1
  · repeat (first|refine sc rfl ?_|refine so rfl ?_|refine sb rfl ?_)
    exact ⟨_, rfl, rfl, 7, rfl, ⟨fun h => absurd h (by decide), fun h => by exfalso; have := h.at_; rw [hj0] at this; cases this; omega⟩⟩
  have hji : j0 = i := by omega
  rw [hji] at hj0
  generalize hd : l.getD i default = d at *
  iterate 12 (first|refine sc rfl ?_|refine so rfl ?_|refine sb rfl ?_)
  refine C_joinE (fun q : Int × Int => ⟨[(0, .cp [SL 5 Dcl.c l, tabV l]), (5, .bp 5 0), (8, I64 q.1), (9, I64 q.2)], [.box 5 60 (Dcl.c d)]⟩) (fun q => (d.kind = 1 ∨ d.kind = 2 ∨ d.kind = 3 ∨ d.kind = 4) ∧ q = (leastD d.kind, mostD d.kind)) ?_ (fun q s hI hle => C_le _ hle ?_)
  · repeat (first|refine sc rfl ?_|refine so rfl ?_|refine sb rfl ?_)
    refine C_if rfl (fun a1 => ?_) (fun a1 => ?_) <;> simp only [pL] at a1
    · repeat (first|refine sc rfl ?_|refine so rfl ?_|refine sb rfl ?_)
      refine C_true rfl (by simp [a1]) ?_
      repeat (first|refine sc rfl ?_|refine so rfl ?_|refine sb rfl ?_)
      exact ⟨(1, 255), ⟨.inl a1, by simp [leastD, mostD, a1]⟩, Le.sub [5] ⟨rfl, rfl, rfl, rfl, trivial⟩ rfl⟩
    repeat (first|refine sc rfl ?_|refine so rfl ?_|refine sb rfl ?_)
    refine C_if rfl (fun a2 => ?_) (fun a2 => ?_) <;> simp only [pL] at a2
    · repeat (first|refine sc rfl ?_|refine so rfl ?_|refine sb rfl ?_)
      refine C_true rfl (by simp [a2]) ?_
      repeat (first|refine sc rfl ?_|refine so rfl ?_|refine sb rfl ?_)
      exact ⟨(1, 255), ⟨.inr (.inl a2), by simp [leastD, mostD, a2]⟩, Le.sub [5] ⟨rfl, rfl, rfl, rfl, trivial⟩ rfl⟩
    repeat (first|refine sc rfl ?_|refine so rfl ?_|refine sb rfl ?_)
    refine C_if rfl (fun a4 => ?_) (fun a4 => ?_) <;> simp only [pL] at a4
    · repeat (first|refine sc rfl ?_|refine so rfl ?_|refine sb rfl ?_)
      exact ⟨(1, 255), ⟨.inr (.inr (.inr a4)), by simp [leastD, mostD, a4]⟩, Le.sub [5] ⟨rfl, rfl, rfl, rfl, trivial⟩ rfl⟩
    repeat (first|refine sc rfl ?_|refine so rfl ?_|refine sb rfl ?_)
    refine C_if rfl (fun a3 => ?_) (fun a3 => ?_) <;> simp only [pL] at a3
    · repeat (first|refine sc rfl ?_|refine so rfl ?_|refine sb rfl ?_)
      exact ⟨(0, 9999), ⟨.inr (.inr (.inl a3)), by simp [leastD, mostD, a3]⟩, Le.sub [5] ⟨rfl, rfl, rfl, rfl, trivial⟩ rfl⟩
    · repeat (first|refine sc rfl ?_|refine so rfl ?_|refine sb rfl ?_)
      exact ⟨_, rfl, rfl, 4, rfl, ⟨fun h => absurd h (by decide), fun h => by exfalso; rcases h.kind with h | h | h | h; exact a1 h; exact a2 h; exact a3 h; exact a4 h⟩⟩
  obtain ⟨hkd, rfl⟩ := hI
  repeat (first|refine sc rfl ?_|refine so rfl ?_|refine sb rfl ?_)
  refine O_makeMap ikey rfl (fun mt => ?_)
  refine O_makeMap S rfl (fun mn => ?_)
  repeat (first|refine sc rfl ?_|refine so rfl ?_|refine sb rfl ?_)
  refine C_absb 10 rfl rfl rfl (fun bS => ?_)
  refine C_loop (fun k : Nat => ⟨[(0, .cp [SL 5 Dcl.c l, tabV l]), (5, .bp 5 0), (8, I64 (leastD d.kind)), (9, I64 (mostD d.kind)), (10, PT bS 0), (52, SL 5 Fld.c d.fields), (53, I64 (d.fields.length : Nat)), (54, I64 (k : Nat))],
      [.box 5 60 (Dcl.c d), .abs (seenA bS mt mn), .abs (tagA mt (ones ((d.fields.take k).map (·.tag)))), .abs (namA mn (ones ((d.fields.take k).map (·.name))))]⟩)
    (fun k => k ≤ d.fields.length ∧ FldsOK l d (d.fields.take k) ∧ ((d.fields.take k).map (·.tag)).Nodup ∧ ((d.fields.take k).map (·.name)).Nodup) (fun k => d.fields.length - k) 0 ⟨Nat.zero_le _, ⟨by simp, by simp⟩, by simp, by simp⟩ (Le.pick [3, 0, 1, 0] ⟨rfl, rfl, rfl, rfl, rfl, rfl, rfl, rfl, trivial⟩ rfl) ?_
  rintro k ⟨hk, hok, hn1, hn2⟩
  repeat (first|refine sc rfl ?_|refine so rfl ?_|refine sb rfl ?_)
  refine C_if rfl (fun m1 => ?_) (fun m1 => ?_) <;> simp only [pL] at m1
  · have hkl : k < d.fields.length := by omega
    have hg := getD_at hkl
    have ht1 : (d.fields.take (k + 1)).map (·.tag) = (d.fields.take k).map (·.tag) ++ [(d.fields.getD k default).tag] := by
      rw [List.take_succ_eq_append_getElem hkl, List.map_append, hg]; rfl
    have ht2 : (d.fields.take (k + 1)).map (·.name) = (d.fields.take k).map (·.name) ++ [(d.fields.getD k default).name] := by
      rw [List.take_succ_eq_append_getElem hkl, List.map_append, hg]; rfl
    have ht3 : d.fields.take (k + 1) = d.fields.take k ++ [d.fields.getD k default] := by
      rw [List.take_succ_eq_append_getElem hkl, hg]
    have hrow := row_A bS mt mn ((d.fields.take k).map (·.tag)) ((d.fields.take k).map (·.name)) (d.fields.getD k default).tag (d.fields.getD k default).name (leastD d.kind) (mostD d.kind)
    have hfld := field_c l d (d.fields.getD k default)
    rw [← ht1, ← ht2] at hrow
    rw [hck] at hfld
    repeat (first|refine sc rfl ?_|refine so rfl ?_|refine sb rfl ?_)
    refine ⟨by omega, ?_⟩
    rw [Int.toNat_natCast]
    repeat (first|refine sc rfl ?_|refine so rfl ?_|refine sb rfl ?_)
    refine O_callA [2, 2, 2] hrow (by rfl) (by rfl) (by rfl) (by rfl) (by rfl) ?_
    rintro r cs' ⟨e, rfl, he⟩
    by_cases e0 : e = 0
    · obtain ⟨rfl, p1, p2, p3, p4⟩ := he.1 e0
      subst e0
      repeat (first|refine sc rfl ?_|refine so rfl ?_|refine sb rfl ?_)
      refine C_false rfl rfl ?_
      repeat (first|refine sc rfl ?_|refine so rfl ?_|refine sb rfl ?_)
      refine O_call hfld (by rfl) (by rfl) (by rfl) (by rfl) (fun r hr => ?_)
      obtain ⟨e2, rfl, he2⟩ := hr
      repeat (first|refine sc rfl ?_|refine so rfl ?_|refine sb rfl ?_)
      refine C_if rfl (fun m2 => ?_) (fun m2 => ?_) <;> simp only [pL] at m2
      · repeat (first|refine sc rfl ?_|refine so rfl ?_|refine sb rfl ?_)
        exact ⟨_, rfl, rfl, e2, rfl, ⟨fun h => absurd h m2, fun h => absurd (he2.2 (fun hne => h.fs.ty _ (by rw [getD_at hkl]; exact List.getElem_mem hkl) hne)) m2⟩⟩
      · repeat (first|refine sc rfl ?_|refine so rfl ?_|refine sb rfl ?_)
        rw [w64 (x := (k : Int) + 1) (by omega) (by omega)]
        refine ⟨k + 1, ⟨hkl, ?_, ?_, ?_⟩, by omega, Le.pick [4, 0, 0, 0] ⟨rfl, rfl, rfl, rfl, rfl, rfl, rfl, rfl, trivial⟩ rfl⟩
        · rw [ht3]
          constructor
          · intro g hg
            rcases List.mem_append.1 hg with h | h
            · exact hok.rng g h
            · simp only [List.mem_singleton] at h; subst h; exact ⟨p1, p2⟩
          · intro g hg hne
            rcases List.mem_append.1 hg with h | h
            · exact hok.ty g h hne
            · simp only [List.mem_singleton] at h; subst h; exact he2.1 m2 hne
        · rw [ht1]; exact nodup_snoc hn1 p3
        · rw [ht2]; exact nodup_snoc hn2 p4
    · repeat (first|refine sc rfl ?_|refine so rfl ?_|refine sb rfl ?_)
      refine C_true rfl (by simp [e0]) ?_
      repeat (first|refine sc rfl ?_|refine so rfl ?_|refine sb rfl ?_)
      exact ⟨_, rfl, rfl, e, rfl, ⟨fun h => absurd h e0, fun h => absurd (he.2 (by
        have hm1 : d.fields.getD k default ∈ d.fields := by rw [getD_at hkl]; exact List.getElem_mem hkl
        refine ⟨(h.fs.rng _ hm1).1, (h.fs.rng _ hm1).2, ?_, ?_⟩
        · exact (snoc_new (by rw [← ht1]; exact ((List.nodup_append.1 h.tags).1.sublist ((List.take_sublist _ _).map _))))
        · exact (snoc_new (by rw [← ht2]; exact ((List.nodup_append.1 h.names).1.sublist ((List.take_sublist _ _).map _)))))) e0⟩⟩
  obtain rfl : k = d.fields.length := by omega
  rw [List.take_length] at hok hn1 hn2
  simp only [List.take_length]
  repeat (first|refine sc rfl ?_|refine so rfl ?_|refine sb rfl ?_)
  refine C_loop (fun k : Nat => ⟨[(0, .cp [SL 5 Dcl.c l, tabV l]), (5, .bp 5 0), (8, I64 (leastD d.kind)), (9, I64 (mostD d.kind)), (10, PT bS 0), (78, SL 5 Mth.c d.methods), (79, I64 (d.methods.length : Nat)), (80, I64 (k : Nat))],
      [.box 5 60 (Dcl.c d), .abs (seenA bS mt mn), .abs (tagA mt (ones (d.fields.map (·.tag) ++ (d.methods.take k).map (·.tag)))), .abs (namA mn (ones (d.fields.map (·.name) ++ (d.methods.take k).map (·.name))))]⟩)
    (fun k => k ≤ d.methods.length ∧ MthsOK l d (d.methods.take k) ∧ (d.fields.map (·.tag) ++ (d.methods.take k).map (·.tag)).Nodup ∧ (d.fields.map (·.name) ++ (d.methods.take k).map (·.name)).Nodup) (fun k => d.methods.length - k) 0 ⟨Nat.zero_le _, ⟨by simp, by simp⟩, by simpa using hn1, by simpa using hn2⟩ ?_ ?_
  · simp only [List.take_zero, List.map_nil, List.append_nil]
    exact Le.pick [0, 0, 0, 0] ⟨rfl, rfl, rfl, rfl, rfl, rfl, rfl, rfl, trivial⟩ rfl
  rintro k ⟨hk, hmok, hn1, hn2⟩
  repeat (first|refine sc rfl ?_|refine so rfl ?_|refine sb rfl ?_)
  refine C_if rfl (fun m1 => ?_) (fun m1 => ?_) <;> simp only [pL] at m1
  · have hkl : k < d.methods.length := by omega
    have hg := getD_at hkl
    have ht1 : d.fields.map (·.tag) ++ (d.methods.take (k + 1)).map (·.tag) = d.fields.map (·.tag) ++ (d.methods.take k).map (·.tag) ++ [(d.methods.getD k default).tag] := by
      rw [List.take_succ_eq_append_getElem hkl, List.map_append, hg, List.append_assoc]; rfl
    have ht2 : d.fields.map (·.name) ++ (d.methods.take (k + 1)).map (·.name) = d.fields.map (·.name) ++ (d.methods.take k).map (·.name) ++ [(d.methods.getD k default).name] := by
      rw [List.take_succ_eq_append_getElem hkl, List.map_append, hg, List.append_assoc]; rfl
    have ht3 : d.methods.take (k + 1) = d.methods.take k ++ [d.methods.getD k default] := by
      rw [List.take_succ_eq_append_getElem hkl, hg]
    have hrow := row_A bS mt mn (d.fields.map (·.tag) ++ (d.methods.take k).map (·.tag)) (d.fields.map (·.name) ++ (d.methods.take k).map (·.name)) (d.methods.getD k default).tag (d.methods.getD k default).name (leastD d.kind) (mostD d.kind)
    have hmth := method_c l (d.methods.getD k default)
    rw [← ht1, ← ht2] at hrow
    rw [hck] at hmth
    repeat (first|refine sc rfl ?_|refine so rfl ?_|refine sb rfl ?_)
    refine ⟨by omega, ?_⟩
    rw [Int.toNat_natCast]
    repeat (first|refine sc rfl ?_|refine so rfl ?_|refine sb rfl ?_)
    refine O_callA [2, 2, 2] hrow (by rfl) (by rfl) (by rfl) (by rfl) (by rfl) ?_
    rintro r cs' ⟨e, rfl, he⟩
    by_cases e0 : e = 0
    · obtain ⟨rfl, p1, p2, p3, p4⟩ := he.1 e0
      subst e0
      repeat (first|refine sc rfl ?_|refine so rfl ?_|refine sb rfl ?_)
      refine C_false rfl rfl ?_
      repeat (first|refine sc rfl ?_|refine so rfl ?_|refine sb rfl ?_)
      refine O_call hmth (by rfl) (by rfl) (by rfl) (by rfl) (fun r hr => ?_)
      obtain ⟨e2, rfl, he2⟩ := hr
      repeat (first|refine sc rfl ?_|refine so rfl ?_|refine sb rfl ?_)
      refine C_if rfl (fun m2 => ?_) (fun m2 => ?_) <;> simp only [pL] at m2
      · repeat (first|refine sc rfl ?_|refine so rfl ?_|refine sb rfl ?_)
        exact ⟨_, rfl, rfl, e2, rfl, ⟨fun h => absurd h m2, fun h => absurd (he2.2 (h.ms.kd _ (by rw [getD_at hkl]; exact List.getElem_mem hkl))) m2⟩⟩
      · repeat (first|refine sc rfl ?_|refine so rfl ?_|refine sb rfl ?_)
        rw [w64 (x := (k : Int) + 1) (by omega) (by omega)]
        refine ⟨k + 1, ⟨hkl, ?_, ?_, ?_⟩, by omega, Le.pick [4, 0, 0, 0] ⟨rfl, rfl, rfl, rfl, rfl, rfl, rfl, rfl, trivial⟩ rfl⟩
        · rw [ht3]
          constructor
          · intro g hg
            rcases List.mem_append.1 hg with h | h
            · exact hmok.rng g h
            · simp only [List.mem_singleton] at h; subst h; exact ⟨p1, p2⟩
          · intro g hg
            rcases List.mem_append.1 hg with h | h
            · exact hmok.kd g h
            · simp only [List.mem_singleton] at h; subst h; exact he2.1 m2
        · rw [ht1]; exact nodup_snoc hn1 p3
        · rw [ht2]; exact nodup_snoc hn2 p4
    · repeat (first|refine sc rfl ?_|refine so rfl ?_|refine sb rfl ?_)
      refine C_true rfl (by simp [e0]) ?_
      repeat (first|refine sc rfl ?_|refine so rfl ?_|refine sb rfl ?_)
      exact ⟨_, rfl, rfl, e, rfl, ⟨fun h => absurd h e0, fun h => absurd (he.2 (by
        have hm1 : d.methods.getD k default ∈ d.methods := by rw [getD_at hkl]; exact List.getElem_mem hkl
        refine ⟨(h.ms.rng _ hm1).1, (h.ms.rng _ hm1).2, ?_, ?_⟩
        · exact (snoc_new (by rw [← ht1]; exact h.tags.sublist (List.Sublist.append_left ((List.take_sublist _ _).map _) _)))
        · exact (snoc_new (by rw [← ht2]; exact h.names.sublist (List.Sublist.append_left ((List.take_sublist _ _).map _) _))))) e0⟩⟩
  obtain rfl : k = d.methods.length := by omega
  rw [List.take_length] at hmok hn1 hn2
  repeat (first|refine sc rfl ?_|refine so rfl ?_|refine sb rfl ?_)
  refine O_case 105 rfl (fun c1 => ?_) (fun c1 => ?_) <;> simp only [pL] at c1
  · repeat (first|refine sc rfl ?_|refine so rfl ?_|refine sb rfl ?_)
    refine C_if rfl (fun c2 => ?_) (fun c2 => ?_) <;> simp only [pL] at c2
    · repeat (first|refine sc rfl ?_|refine so rfl ?_|refine sb rfl ?_)
      exact ⟨_, rfl, rfl, 12, rfl, ⟨fun h => absurd h (by decide), fun h => absurd (List.length_eq_zero_iff.1 (by omega)) (h.some_ (by first | exact .inl c1 | exact .inr c3))⟩⟩
    · repeat (first|refine sc rfl ?_|refine so rfl ?_|refine sb rfl ?_)
      exact ⟨_, rfl, rfl, 0, rfl, ⟨fun _ => ⟨hj0, hkd, hok, hmok, hn1, hn2, fun _ h => c2 (by rw [h]; rfl)⟩, fun _ => rfl⟩⟩
  · repeat (first|refine sc rfl ?_|refine so rfl ?_|refine sb rfl ?_)
    refine O_case 110 rfl (fun c3 => ?_) (fun c3 => ?_) <;> simp only [pL] at c3
    · repeat (first|refine sc rfl ?_|refine so rfl ?_|refine sb rfl ?_)
      refine C_if rfl (fun c2 => ?_) (fun c2 => ?_) <;> simp only [pL] at c2
      · repeat (first|refine sc rfl ?_|refine so rfl ?_|refine sb rfl ?_)
        exact ⟨_, rfl, rfl, 12, rfl, ⟨fun h => absurd h (by decide), fun h => absurd (List.length_eq_zero_iff.1 (by omega)) (h.some_ (by first | exact .inl c1 | exact .inr c3))⟩⟩
      · repeat (first|refine sc rfl ?_|refine so rfl ?_|refine sb rfl ?_)
        exact ⟨_, rfl, rfl, 0, rfl, ⟨fun _ => ⟨hj0, hkd, hok, hmok, hn1, hn2, fun _ h => c2 (by rw [h]; rfl)⟩, fun _ => rfl⟩⟩
    · repeat (first|refine sc rfl ?_|refine so rfl ?_|refine sb rfl ?_)
      refine C_false rfl rfl ?_
      repeat (first|refine sc rfl ?_|refine so rfl ?_|refine sb rfl ?_)
      exact ⟨_, rfl, rfl, 0, rfl, ⟨fun _ => ⟨hj0, hkd, hok, hmok, hn1, hn2, fun h => h.elim (fun h => absurd h c1) (fun h => absurd h c3)⟩, fun _ => rfl⟩⟩
end Go.Proofs

namespace Go.Proofs
open Go.Sy Go.Lib

def fineB (l : List Dcl) (ks : List Bool) (t : Ty) : Bool := if t.kind = 6 then (match fndL t.name l with
  | none => false
  | some j => ks.getD j false) else true

abbrev knA (b : Nat) (ks : List Bool) : Abs := slO (HO b 0 ks.length ks.length) 4 1 (ks.map B)

theorem fine_A (l : List Dcl) (b : Nat) (ks : List Bool) (hl : ks.length = l.length) (t : Ty) :
    FnA Tryz.prog 250 [.agg (Ty.c t), .cp [chkV l], .cp [.v (HO b 0 ks.length ks.length)]] [knA b ks] (fun r cs' => r = B (fineB l ks t) ∧ cs' = [knA b ks]) := by
  refine FnA.intro Tryz.tabOK Tryz.wide_ Tryz.func250 rfl (by decide) rfl (fun X => ?_)
  have hF := Find_c l t.name
  have hck : chkV l = .cp [SL 5 Dcl.c l, tabV l] := rfl
  rw [hck]
  repeat (first|refine sc rfl ?_|refine so rfl ?_|refine sb rfl ?_)
  refine C_drawD rfl (by kernel_rfl) ?_
  repeat (first|refine sd rfl ?_|refine sdb rfl ?_|refine sds rfl ?_)
  refine D_call hF rfl rfl rfl rfl ?_
  repeat (first|refine sd rfl ?_|refine sdb rfl ?_|refine sds rfl ?_)
  repeat (first|refine sc rfl ?_|refine so rfl ?_|refine sb rfl ?_)
  refine O_case 20 rfl (fun h1 => ?_) (fun h1 => ?_) <;> simp only [pL] at h1
  · repeat (first|refine sc rfl ?_|refine so rfl ?_|refine sb rfl ?_)
    exact ⟨_, [knA b ks], _, rfl, .swap _ _ _, rfl, by simp [fineB, h1], rfl⟩
  cases hf : fndL t.name l with
  | none =>
    repeat (first|refine sc rfl ?_|refine so rfl ?_|refine sb rfl ?_)
    exact ⟨_, [knA b ks], _, rfl, .swap _ _ _, rfl, by simp [fineB, h1, hf], rfl⟩
  | some j =>
    have hj := fndL_lt hf
    have hI0 : fndI t.name l = (j : Nat) := by unfold fndI; rw [hf]; rfl
    rw [hI0]
    repeat (first|refine sc rfl ?_|refine so rfl ?_|refine sb rfl ?_)
    refine ⟨by omega, ?_⟩
    rw [Int.toNat_natCast]
    have hget : (ks.map B)[j * 1]? = some (B (ks.getD j false)) := by
      rw [Nat.mul_one, List.getElem?_map, List.getElem?_eq_getElem (by omega), List.getD_eq_getElem?_getD, List.getElem?_eq_getElem (by omega)]; rfl
    refine O_loadO 1 hget rfl rfl rfl rfl rfl ?_
    repeat (first|refine sc rfl ?_|refine so rfl ?_|refine sb rfl ?_)
    exact ⟨_, [knA b ks], _, rfl, .swap _ _ _, rfl, by simp [fineB, h1, hf], rfl⟩

def finB (l : List Dcl) (ks : List Bool) (d : Dcl) : Bool :=
  if d.kind = 3 ∨ d.kind = 4 then true else if d.kind = 1 then d.fields.all (fun f => fineB l ks f.ty) else if d.kind = 2 then d.fields.any (fun f => fineB l ks f.ty) else false
theorem all_of {F : List Fld} {p : Fld → Bool} (h : ∀ j, j < F.length → p (F.getD j default) = true) : F.all p = true :=
  List.all_eq_true.2 (fun x hx => by obtain ⟨j, hj, rfl⟩ := List.mem_iff_getElem.1 hx; have := h j hj; rwa [getD_at hj] at this)
theorem all_not {F : List Fld} {p : Fld → Bool} {j : Nat} (hj : j < F.length) (h : p (F.getD j default) = false) : F.all p = false := by
  cases ha : F.all p with
  | false => rfl
  | true =>
    have := List.all_eq_true.1 ha (F.getD j default) (by rw [getD_at hj]; exact List.getElem_mem hj)
    rw [h] at this; cases this
theorem any_of {F : List Fld} {p : Fld → Bool} {j : Nat} (hj : j < F.length) (h : p (F.getD j default) = true) : F.any p = true :=
  List.any_eq_true.2 ⟨F.getD j default, by rw [getD_at hj]; exact List.getElem_mem hj, h⟩
theorem any_not {F : List Fld} {p : Fld → Bool} (h : ∀ j, j < F.length → p (F.getD j default) = false) : F.any p = false := by
  cases ha : F.any p with
  | false => rfl
  | true =>
    obtain ⟨x, hx, hp⟩ := List.any_eq_true.1 ha
    obtain ⟨j, hj, rfl⟩ := List.mem_iff_getElem.1 hx
    have := h j hj
    rw [getD_at hj, hp] at this; cases this

theorem finite_A (l : List Dcl) (b : Nat) (ks : List Bool) (hl : ks.length = l.length) (d : Dcl) (hd : d.fields.length ≤ 1000) :
    FnA Tryz.prog 196 [chkV l, .agg (Dcl.c d), .v (HO b 0 ks.length ks.length)] [knA b ks] (fun r cs' => r = B (finB l ks d) ∧ cs' = [knA b ks]) := by
  refine FnA.intro Tryz.tabOK Tryz.wide_ Tryz.func196 rfl (by decide) rfl (fun X => ?_)
  have hfine : ∀ t, _ := fun t => fine_A l b ks hl t
  iterate 7 (first|refine sc rfl ?_|refine so rfl ?_|refine sb rfl ?_)
  refine C_le _ (Le.freezebox 3 rfl rfl rfl) ?_
  refine C_le _ (Le.freezebox 5 rfl rfl rfl) ?_
  repeat (first|refine sc rfl ?_|refine so rfl ?_|refine sb rfl ?_)
  refine O_makeFunc rfl rfl rfl rfl ?_
  repeat (first|refine sc rfl ?_|refine so rfl ?_|refine sb rfl ?_)
  refine C_if rfl (fun a1 => ?_) (fun a1 => ?_) <;> simp only [pL] at a1
  · repeat (first|refine sc rfl ?_|refine so rfl ?_|refine sb rfl ?_)
    refine C_true rfl (by simp [a1]) ?_
    repeat (first|refine sc rfl ?_|refine so rfl ?_|refine sb rfl ?_)
    exact ⟨_, [knA b ks], _, rfl, pickA_perm (is := [1]) (As := [_]) rfl, rfl, by unfold finB; rw [if_pos (.inl a1)], rfl⟩
  repeat (first|refine sc rfl ?_|refine so rfl ?_|refine sb rfl ?_)
  refine C_if rfl (fun a2 => ?_) (fun a2 => ?_) <;> simp only [pL] at a2
  · repeat (first|refine sc rfl ?_|refine so rfl ?_|refine sb rfl ?_)
    exact ⟨_, [knA b ks], _, rfl, pickA_perm (is := [1]) (As := [_]) rfl, rfl, by unfold finB; rw [if_pos (.inr a2)], rfl⟩
  repeat (first|refine sc rfl ?_|refine so rfl ?_|refine sb rfl ?_)
  refine C_if rfl (fun a3 => ?_) (fun a3 => ?_) <;> simp only [pL] at a3
  · repeat (first|refine sc rfl ?_|refine so rfl ?_|refine sb rfl ?_)
    refine C_true rfl (by simp [a3]) ?_
    repeat (first|refine sc rfl ?_|refine so rfl ?_|refine sb rfl ?_)
    refine C_loop (fun k : Nat => ⟨[(4, .bp 4 0), (7, .p (cloRP 250 [.cp [chkV l], .cp [.v (HO b 0 ks.length ks.length)]])), (20, SL 5 Fld.c d.fields), (21, I64 (d.fields.length : Nat)), (22, I64 (k : Nat))], [.box 4 60 (Dcl.c d), .abs (knA b ks)]⟩) (fun k => k ≤ d.fields.length ∧ ∀ j, j < k → fineB l ks (d.fields.getD j default).ty = true) (fun k => d.fields.length - k) 0 ⟨Nat.zero_le _, fun j hj => absurd hj (Nat.not_lt_zero _)⟩ (Le.pick [0, 0] ⟨rfl, rfl, rfl, rfl, rfl, trivial⟩ rfl) ?_
    rintro k ⟨hk, hall⟩
    repeat (first|refine sc rfl ?_|refine so rfl ?_|refine sb rfl ?_)
    refine C_if rfl (fun m1 => ?_) (fun m1 => ?_) <;> simp only [pL] at m1
    · have hkl : k < d.fields.length := by omega
      repeat (first|refine sc rfl ?_|refine so rfl ?_|refine sb rfl ?_)
      refine ⟨by omega, ?_⟩
      rw [Int.toNat_natCast]
      repeat (first|refine sc rfl ?_|refine so rfl ?_|refine sb rfl ?_)
      refine C_drawD rfl (by kernel_rfl) ?_
      repeat (first|refine sd rfl ?_|refine sdb rfl ?_|refine sds rfl ?_)
      refine D_callAV [2] (isClo_p 250 [.cp [chkV l], .cp [.v (HO b 0 ks.length ks.length)]]) rfl (hfine (d.fields.getD k default).ty) rfl rfl rfl rfl rfl rfl ?_
      repeat (first|refine sd rfl ?_|refine sdb rfl ?_|refine sds rfl ?_)
      repeat (first|refine sc rfl ?_|refine so rfl ?_|refine sb rfl ?_)
      cases hfb : fineB l ks (d.fields.getD k default).ty with
      | false =>
        refine C_true rfl (by simp [a3]) ?_
        repeat (first|refine sc rfl ?_|refine so rfl ?_|refine sb rfl ?_)
        exact ⟨_, [knA b ks], _, rfl, pickA_perm (is := [2]) (As := [_]) rfl, rfl, by unfold finB; rw [if_neg (by omega), if_pos a3, all_not hkl hfb, a3]; rfl, rfl⟩
      | true =>
        refine C_false rfl (by simp [a3]) ?_
        repeat (first|refine sc rfl ?_|refine so rfl ?_|refine sb rfl ?_)
        rw [w64 (x := (k : Int) + 1) (by omega) (by omega)]
        refine ⟨k + 1, ⟨by omega, fun j hj => by
          rcases Nat.lt_or_ge j k with h | h
          · exact hall j h
          · obtain rfl : j = k := by omega
            exact hfb⟩, by omega, Le.pick [1, 1] ⟨rfl, rfl, rfl, rfl, rfl, trivial⟩ rfl⟩
    · repeat (first|refine sc rfl ?_|refine so rfl ?_|refine sb rfl ?_)
      exact ⟨_, [knA b ks], _, rfl, pickA_perm (is := [1]) (As := [_]) rfl, rfl, by unfold finB; rw [if_neg (by omega), if_pos a3, all_of (fun j hj => hall j (by omega)), a3]; rfl, rfl⟩
  repeat (first|refine sc rfl ?_|refine so rfl ?_|refine sb rfl ?_)
  refine C_if rfl (fun a4 => ?_) (fun a4 => ?_) <;> simp only [pL] at a4
  · repeat (first|refine sc rfl ?_|refine so rfl ?_|refine sb rfl ?_)
    refine C_loop (fun k : Nat => ⟨[(4, .bp 4 0), (7, .p (cloRP 250 [.cp [chkV l], .cp [.v (HO b 0 ks.length ks.length)]])), (20, SL 5 Fld.c d.fields), (21, I64 (d.fields.length : Nat)), (22, I64 (k : Nat))], [.box 4 60 (Dcl.c d), .abs (knA b ks)]⟩) (fun k => k ≤ d.fields.length ∧ ∀ j, j < k → fineB l ks (d.fields.getD j default).ty = false) (fun k => d.fields.length - k) 0 ⟨Nat.zero_le _, fun j hj => absurd hj (Nat.not_lt_zero _)⟩ (Le.pick [0, 0] ⟨rfl, rfl, rfl, rfl, rfl, trivial⟩ rfl) ?_
    rintro k ⟨hk, hall⟩
    repeat (first|refine sc rfl ?_|refine so rfl ?_|refine sb rfl ?_)
    refine C_if rfl (fun m1 => ?_) (fun m1 => ?_) <;> simp only [pL] at m1
    · have hkl : k < d.fields.length := by omega
      repeat (first|refine sc rfl ?_|refine so rfl ?_|refine sb rfl ?_)
      refine ⟨by omega, ?_⟩
      rw [Int.toNat_natCast]
      repeat (first|refine sc rfl ?_|refine so rfl ?_|refine sb rfl ?_)
      refine C_drawD rfl (by kernel_rfl) ?_
      repeat (first|refine sd rfl ?_|refine sdb rfl ?_|refine sds rfl ?_)
      refine D_callAV [2] (isClo_p 250 [.cp [chkV l], .cp [.v (HO b 0 ks.length ks.length)]]) rfl (hfine (d.fields.getD k default).ty) rfl rfl rfl rfl rfl rfl ?_
      repeat (first|refine sd rfl ?_|refine sdb rfl ?_|refine sds rfl ?_)
      repeat (first|refine sc rfl ?_|refine so rfl ?_|refine sb rfl ?_)
      cases hfb : fineB l ks (d.fields.getD k default).ty with
      | true =>
        refine C_true rfl (by simp [a4]) ?_
        repeat (first|refine sc rfl ?_|refine so rfl ?_|refine sb rfl ?_)
        exact ⟨_, [knA b ks], _, rfl, pickA_perm (is := [2]) (As := [_]) rfl, rfl, by unfold finB; rw [if_neg (by omega), if_neg a3, if_pos a4, any_of hkl hfb, a4]; rfl, rfl⟩
      | false =>
        refine C_false rfl (by simp [a4]) ?_
        repeat (first|refine sc rfl ?_|refine so rfl ?_|refine sb rfl ?_)
        rw [w64 (x := (k : Int) + 1) (by omega) (by omega)]
        refine ⟨k + 1, ⟨by omega, fun j hj => by
          rcases Nat.lt_or_ge j k with h | h
          · exact hall j h
          · obtain rfl : j = k := by omega
            exact hfb⟩, by omega, Le.pick [1, 1] ⟨rfl, rfl, rfl, rfl, rfl, trivial⟩ rfl⟩
    · repeat (first|refine sc rfl ?_|refine so rfl ?_|refine sb rfl ?_)
      exact ⟨_, [knA b ks], _, rfl, pickA_perm (is := [1]) (As := [_]) rfl, rfl, by unfold finB; rw [if_neg (by omega), if_neg a3, if_pos a4, any_not (fun j hj => hall j (by omega)), a4]; rfl, rfl⟩
  · repeat (first|refine sc rfl ?_|refine so rfl ?_|refine sb rfl ?_)
    exact ⟨_, [knA b ks], _, rfl, pickA_perm (is := [1]) (As := [_]) rfl, rfl, by unfold finB; rw [if_neg (by omega), if_neg a3, if_neg a4], rfl⟩
end Go.Proofs

namespace Go.Proofs
open Go.Sy Go.Lib

def Fewl (l : List Dcl) : Prop := l.length ≤ 1000 ∧ ∀ i, i < l.length → (l.getD i default).fields.length ≤ 1000 ∧ (l.getD i default).methods.length ≤ 1000

abbrev knN (b n : Nat) (ks : List Bool) : Abs := slO (HO b 0 n n) 4 1 (ks.map B)

theorem count_set {ks : List Bool} {i : Nat} (hi : i < ks.length) (hb : ks.getD i false = false) : (ks.set i true).count false < ks.count false := by
  have h1 : ks[i] = false := by rw [List.getD_eq_getElem?_getD, List.getElem?_eq_getElem hi] at hb; exact hb
  rw [List.count_set hi]
  have : 0 < ks.count false := List.count_pos_iff.2 (h1 ▸ List.getElem_mem hi)
  rw [h1]; simp; omega

def finAt (l : List Dcl) (ks : List Bool) : Nat → Nat → Option Nat
  | 0, _ => none
  | n + 1, i => if !(ks.getD i false) && finB l ks (l.getD i default) then some i else finAt l ks n (i + 1)
def finF (l : List Dcl) : Nat → List Bool → List Bool
  | 0, ks => ks
  | n + 1, ks => match finAt l ks l.length 0 with
    | none => ks
    | some i => finF l n (ks.set i true)
theorem finF_len (l : List Dcl) : ∀ (n : Nat) (ks : List Bool), (finF l n ks).length = ks.length
  | 0, ks => rfl
  | n + 1, ks => by
    unfold finF
    split
    · rfl
    · rw [finF_len l n, List.length_set]

theorem Finite_c (l : List Dcl) (hl : Fewl l) : FnP Tryz.prog 120 [SL 5 Dcl.c l] (fun r => r = SL 1 BOLc (finF l (l.length + 1) (List.replicate l.length false))) := by
  refine FnP.intro Tryz.tabOK Tryz.wide_ Tryz.func120 rfl (by decide) rfl (fun X => ?_)
  have hO := Of_w l hl.1
  have hck : chkV l = .cp [SL 5 Dcl.c l, tabV l] := rfl
  have h1000 := hl.1
  generalize hF0 : finF l (l.length + 1) (List.replicate l.length false) = F0
  repeat (first|refine sc rfl ?_|refine so rfl ?_|refine sb rfl ?_)
  refine C_scope ?_
  repeat (first|refine sc rfl ?_|refine so rfl ?_|refine sb rfl ?_)
  refine O_call hO (by rfl) (by rfl) (by rfl) (by rfl) (fun r hr => ?_)
  subst hr
  repeat (first|refine sc rfl ?_|refine so rfl ?_|refine sb rfl ?_)
  refine O_makeN (m := l.length) (zc := .bool false) rfl rfl rfl rfl rfl (by omega) (by simp [maxLen]; omega) (fun b => ?_)
  repeat (first|refine sc rfl ?_|refine so rfl ?_|refine sb rfl ?_)
  refine C_le _ (Le.freezebox 3 rfl rfl rfl) ?_
  refine C_loop (fun ks : List Bool => ⟨[(0, SL 5 Dcl.c l), (3, chkV l), (4, .v (HO b 0 l.length l.length))], [.abs (knN b l.length ks)]⟩) (fun ks => ks.length = l.length ∧ ∃ n, ks.count false < n ∧ finF l n ks = F0) (fun ks => ks.count false) (List.replicate l.length false) ⟨by simp, l.length + 1, by simp, hF0⟩ ?_ ?_
  · have e1 : (List.replicate l.length false).map B = List.replicate l.length (AV.v (.bool false)) := by simp
    simp only [knN, e1]
    exact Le.pick [0] ⟨rfl, rfl, rfl, trivial⟩ rfl
  rintro ks ⟨hks, n, hn, hF⟩
  obtain ⟨n, rfl⟩ : ∃ n', n = n' + 1 := ⟨n - 1, by omega⟩
  simp only [finF] at hF
  have hfin : ∀ d : Dcl, d.fields.length ≤ 1000 → FnA Tryz.prog 196 [chkV l, .agg (Dcl.c d), .v (HO b 0 l.length l.length)] [knN b l.length ks] (fun r cs' => r = B (finB l ks d) ∧ cs' = [knN b l.length ks]) := fun d hd => by
    have := finite_A l b ks hks d hd
    simp only [knA, hks] at this
    exact this
  repeat (first|refine sc rfl ?_|refine so rfl ?_|refine sb rfl ?_)
  refine C_loop (fun i : Nat => ⟨[(0, SL 5 Dcl.c l), (3, chkV l), (4, .v (HO b 0 l.length l.length)), (15, SL 5 Dcl.c l), (16, I64 (l.length : Nat)), (17, I64 (i : Nat))], [.abs (knN b l.length ks)]⟩) (fun i => i ≤ l.length ∧ finAt l ks l.length 0 = finAt l ks (l.length - i) i) (fun i => l.length - i) 0 ⟨Nat.zero_le _, rfl⟩ (Le.pick [0] ⟨rfl, rfl, rfl, rfl, rfl, rfl, trivial⟩ rfl) ?_
  rintro i ⟨hi, hat⟩
  repeat (first|refine sc rfl ?_|refine so rfl ?_|refine sb rfl ?_)
  refine C_if rfl (fun m1 => ?_) (fun m1 => ?_) <;> simp only [pL] at m1
  · have hil : i < l.length := by omega
    have hst : finAt l ks (l.length - i) i = if !(ks.getD i false) && finB l ks (l.getD i default) then some i else finAt l ks (l.length - (i + 1)) (i + 1) := by
      rw [show l.length - i = (l.length - (i + 1)) + 1 by omega]; rfl
    obtain ⟨hf1, _⟩ := hl.2 i hil
    have hget : (ks.map B)[i * 1]? = some (B (ks.getD i false)) := by
      rw [Nat.mul_one, List.getElem?_map, List.getElem?_eq_getElem (by omega), List.getD_eq_getElem?_getD, List.getElem?_eq_getElem (by omega)]; rfl
    repeat (first|refine sc rfl ?_|refine so rfl ?_|refine sb rfl ?_)
    refine ⟨by omega, ?_⟩
    rw [Int.toNat_natCast]
    repeat (first|refine sc rfl ?_|refine so rfl ?_|refine sb rfl ?_)
    refine ⟨by omega, ?_⟩
    rw [Int.toNat_natCast]
    refine O_loadO 1 hget rfl rfl rfl rfl rfl ?_
    repeat (first|refine sc rfl ?_|refine so rfl ?_|refine sb rfl ?_)
    refine O_case 27 rfl (fun g1 => ?_) (fun g1 => ?_) <;> simp only [pL] at g1
    · repeat (first|refine sc rfl ?_|refine so rfl ?_|refine sb rfl ?_)
      refine O_callA [1] (hfin _ hf1) (by rfl) (by rfl) (by rfl) (by rfl) (by rfl) ?_
      rintro r cs' ⟨rfl, rfl⟩
      repeat (first|refine sc rfl ?_|refine so rfl ?_|refine sb rfl ?_)
      cases hv : finB l ks (l.getD i default) with
      | true =>
        refine C_true rfl rfl ?_
        repeat (first|refine sc rfl ?_|refine so rfl ?_|refine sb rfl ?_)
        refine ⟨by omega, ?_⟩
        rw [Int.toNat_natCast]
        refine O_Xn (X_storeP 0 (writes_slO (x := B true) (by rw [List.length_map]; omega)) rfl rfl rfl rfl rfl rfl rfl) ?_
        have hset : (ks.map B).set (i * 1) (B true) = (ks.set i true).map B := by rw [Nat.mul_one, List.map_set]
        rw [hset]
        repeat (first|refine sc rfl ?_|refine so rfl ?_|refine sb rfl ?_)
        rw [hst, g1, hv] at hat
        simp only [Bool.not_false, Bool.and_self, if_true] at hat
        rw [hat] at hF
        have hcs := count_set (ks := ks) (i := i) (by omega) g1
        refine ⟨ks.set i true, ⟨by rw [List.length_set]; exact hks, n, by omega, hF⟩, hcs, Le.pick [0] ⟨rfl, rfl, rfl, trivial⟩ rfl⟩
      | false =>
        refine C_false rfl rfl ?_
        repeat (first|refine sc rfl ?_|refine so rfl ?_|refine sb rfl ?_)
        rw [w64 (x := (i : Int) + 1) (by omega) (by omega)]
        refine ⟨i + 1, ⟨hil, by rw [hat, hst, hv, Bool.and_false]; rfl⟩, by omega, Le.pick [0] ⟨rfl, rfl, rfl, rfl, rfl, rfl, trivial⟩ rfl⟩
    · repeat (first|refine sc rfl ?_|refine so rfl ?_|refine sb rfl ?_)
      refine C_false rfl rfl ?_
      repeat (first|refine sc rfl ?_|refine so rfl ?_|refine sb rfl ?_)
      rw [w64 (x := (i : Int) + 1) (by omega) (by omega)]
      refine ⟨i + 1, ⟨hil, by rw [hat, hst, g1]; rfl⟩, by omega, Le.pick [1] ⟨rfl, rfl, rfl, rfl, rfl, rfl, trivial⟩ rfl⟩
  · refine C_le _ (Le.frSlO 0 (m := ks.length) (fun i => BOLc (ks.getD i default)) rfl (by simp) (by decide) (fun i hi => ?_)) ?_
    · rw [Nat.mul_one, List.drop_eq_getElem_cons (by simpa using hi)]
      simp [List.getD_eq_getElem?_getD, hi]
    refine C_le _ (Le.slotA 0 4 rfl rfl) ?_
    repeat (first|refine sc rfl ?_|refine so rfl ?_|refine sb rfl ?_)
    have hi' : i = l.length := by omega
    rw [hi', Nat.sub_self] at hat
    rw [hat] at hF
    exact ⟨_, rfl, rfl, by rw [← hF]; rfl⟩
end Go.Proofs

namespace Go.Proofs
open Go.Sy Go.Lib

def WellL (l : List Dcl) : Prop := ∀ i, i < l.length → DclOK l i (l.getD i default)

def FinL (l : List Dcl) : Prop := ∀ i, i < l.length → (finF l (l.length + 1) (List.replicate l.length false)).getD i false = true

theorem Check_c (l : List Dcl) (hl : Fewl l) : FnP Tryz.prog 69 [SL 5 Dcl.c l] (fun r => ∃ f : Flt, r = .agg (Flt.c f) ∧ (f.err = 0 ↔ (WellL l ∧ FinL l)) ∧ (f.err = 0 → f.fat = 0)) := by
  refine FnP.intro Tryz.tabOK Tryz.wide_ Tryz.func69 rfl (by decide) rfl (fun X => ?_)
  have hO := Of_w l hl.1
  have h1000 := hl.1
  repeat (first|refine sc rfl ?_|refine so rfl ?_|refine sb rfl ?_)
  refine O_call hO (by rfl) (by rfl) (by rfl) (by rfl) (fun r hr => ?_)
  subst hr
  repeat (first|refine sc rfl ?_|refine so rfl ?_|refine sb rfl ?_)
  refine C_le _ (Le.freezebox 3 rfl rfl rfl) ?_
  refine C_loop (fun i : Nat => ⟨[(0, SL 5 Dcl.c l), (2, .bp 2 0), (3, chkV l), (14, SL 5 Dcl.c l), (15, I64 (l.length : Nat)), (16, I64 (i : Nat))], [.box 2 50 [I64 0, I64 0]]⟩) (fun i => i ≤ l.length ∧ ∀ j, j < i → DclOK l j (l.getD j default)) (fun i => l.length - i) 0 ⟨Nat.zero_le _, fun j hj => absurd hj (Nat.not_lt_zero _)⟩ (Le.pick [0] ⟨rfl, rfl, rfl, rfl, rfl, rfl, trivial⟩ rfl) ?_
  rintro i ⟨hi, hall⟩
  repeat (first|refine sc rfl ?_|refine so rfl ?_|refine sb rfl ?_)
  refine C_if rfl (fun m1 => ?_) (fun m1 => ?_) <;> simp only [pL] at m1
  · have hil : i < l.length := by omega
    obtain ⟨hf1, hf2⟩ := hl.2 i hil
    have hD := decl_c l i hil hf1 hf2
    repeat (first|refine sc rfl ?_|refine so rfl ?_|refine sb rfl ?_)
    refine ⟨by omega, ?_⟩
    rw [Int.toNat_natCast]
    repeat (first|refine sc rfl ?_|refine so rfl ?_|refine sb rfl ?_)
    refine O_call hD (by rfl) (by rfl) (by rfl) (by rfl) (fun r hr => ?_)
    obtain ⟨e, rfl, he⟩ := hr
    repeat (first|refine sc rfl ?_|refine so rfl ?_|refine sb rfl ?_)
    refine C_if rfl (fun m2 => ?_) (fun m2 => ?_) <;> simp only [pL] at m2
    · repeat (first|refine sc rfl ?_|refine so rfl ?_|refine sb rfl ?_)
      exact ⟨_, rfl, rfl, ⟨e, (l.getD i default).fat⟩, rfl, ⟨fun h => absurd h m2, fun h => absurd (he.2 (h.1 i hil)) m2⟩, fun h => absurd h m2⟩
    · repeat (first|refine sc rfl ?_|refine so rfl ?_|refine sb rfl ?_)
      rw [w64 (x := (i : Int) + 1) (by omega) (by omega)]
      refine ⟨i + 1, ⟨hil, fun j hj => ?_⟩, by omega, Le.sub [2] ⟨rfl, rfl, rfl, rfl, rfl, rfl, trivial⟩ rfl⟩
      rcases Nat.lt_or_ge j i with h | h
      · exact hall j h
      · obtain rfl : j = i := by omega
        exact he.1 m2
  · obtain rfl : i = l.length := by omega
    repeat (first|refine sc rfl ?_|refine so rfl ?_|refine sb rfl ?_)
    refine O_call (Finite_c l hl) (by rfl) (by rfl) (by rfl) (by rfl) (fun r hr => ?_)
    subst hr
    have hks : (finF l (l.length + 1) (List.replicate l.length false)).length = l.length := by rw [finF_len]; simp
    generalize hksd : finF l (l.length + 1) (List.replicate l.length false) = ks at *
    repeat (first|refine sc rfl ?_|refine so rfl ?_|refine sb rfl ?_)
    refine C_loop (fun i : Nat => ⟨[(0, SL 5 Dcl.c l), (2, .bp 2 0), (32, SL 1 BOLc ks), (33, I64 (ks.length : Nat)), (34, I64 (i : Nat))], [.box 2 50 [I64 0, I64 0]]⟩) (fun i => i ≤ ks.length ∧ ∀ j, j < i → ks.getD j false = true) (fun i => ks.length - i) 0 ⟨Nat.zero_le _, fun j hj => absurd hj (Nat.not_lt_zero _)⟩ (Le.sub [2] ⟨rfl, rfl, rfl, rfl, rfl, trivial⟩ rfl) ?_
    rintro i ⟨hi2, hall2⟩
    repeat (first|refine sc rfl ?_|refine so rfl ?_|refine sb rfl ?_)
    refine C_if rfl (fun m3 => ?_) (fun m3 => ?_) <;> simp only [pL] at m3
    · repeat (first|refine sc rfl ?_|refine so rfl ?_|refine sb rfl ?_)
      refine ⟨by omega, ?_⟩
      rw [Int.toNat_natCast]
      repeat (first|refine sc rfl ?_|refine so rfl ?_|refine sb rfl ?_)
      refine C_if rfl (fun m2 => ?_) (fun m2 => ?_) <;> simp only [pL] at m2
      · repeat (first|refine sc rfl ?_|refine so rfl ?_|refine sb rfl ?_)
        refine ⟨by omega, ?_⟩
        rw [Int.toNat_natCast]
        repeat (first|refine sc rfl ?_|refine so rfl ?_|refine sb rfl ?_)
        exact ⟨_, rfl, rfl, ⟨10, (l.getD i default).fat⟩, rfl, ⟨fun h => absurd (show (10 : Int) = 0 from h) (by decide), fun h => by exfalso; have h3 := h.2 i (by omega); rw [hksd] at h3; rw [show ks.getD i default = ks.getD i false from rfl, h3] at m2; cases m2⟩, fun h => absurd (show (10 : Int) = 0 from h) (by decide)⟩
      · repeat (first|refine sc rfl ?_|refine so rfl ?_|refine sb rfl ?_)
        rw [w64 (x := (i : Int) + 1) (by omega) (by omega)]
        refine ⟨i + 1, ⟨by omega, fun j hj => ?_⟩, by omega, Le.sub [2] ⟨rfl, rfl, rfl, rfl, rfl, trivial⟩ rfl⟩
        rcases Nat.lt_or_ge j i with h | h
        · exact hall2 j h
        · obtain rfl : j = i := by omega
          exact m2
    · repeat (first|refine sc rfl ?_|refine so rfl ?_|refine sb rfl ?_)
      exact ⟨_, rfl, rfl, ⟨0, 0⟩, rfl, ⟨fun _ => ⟨hall, fun j hj => by rw [hksd]; exact hall2 j (by omega)⟩, fun _ => rfl⟩, fun _ => rfl⟩
end Go.Proofs

namespace Go.Proofs
open Go.Sy Go.Lib

inductive FewT : Ty → Prop
  | mk {t : Ty} : t.of.length ≤ 1000 → (∀ i, i < t.of.length → FewT (t.of.getD i default)) → FewT t

theorem own_c : ∀ (n : Nat) (t : Ty), SizeOf.sizeOf t ≤ n → FewT t → FnP Tryz.prog 127 [.agg (Ty.c t)] (· = .agg (Ty.c t))
  | 0, t, h, _ => by cases t; simp at h
  | n + 1, t, hn, ⟨hlen, hsub⟩ => by
    refine FnP.intro Tryz.tabOK Tryz.wide_ Tryz.func127 rfl (by decide) rfl (fun X => ?_)
    have hrec : ∀ i, i < t.of.length → FnP Tryz.prog 127 [.agg (Ty.c (t.of.getD i default))] (· = .agg (Ty.c (t.of.getD i default))) := fun i hi => own_c n _ (by have := of_lt hi; omega) (hsub i hi)
    repeat (first|refine sc rfl ?_|refine so rfl ?_|refine sb rfl ?_)
    refine C_absb 3 rfl rfl rfl (fun b3 => ?_)
    refine C_le _ (Le.addVec 63 3 (fun i => Ty.c (t.of.getD i default))) ?_
    refine C_loop (fun q : Nat × Value => ⟨[(2, .bp 2 0), (3, PT b3 0), (12, SL 3 Ty.c t.of), (13, I64 (t.of.length : Nat)), (14, I64 (q.1 : Nat))], [.box 2 63 [I64 0, .s [], .v (.slice none 0 0)], .abs (boxA b3 63 [I64 t.kind, .s t.name, .v q.2]), .abs (vecA q.2 63 3 q.1 (fun i => Ty.c (t.of.getD i default)))]⟩)
      (fun q => q.1 ≤ t.of.length) (fun q => t.of.length - q.1) (0, .slice none 0 0) (Nat.zero_le _) ((Le.one 12 (SL 3 Ty.c t.of) rfl (.row (Ty.rows_eq _))).trans (Le.pick [2, 1, 0] ⟨rfl, rfl, rfl, rfl, rfl, trivial⟩ rfl)) ?_
    rintro ⟨k, h⟩ hk
    simp only [] at hk
    repeat (first|refine sc rfl ?_|refine so rfl ?_|refine sb rfl ?_)
    refine C_if rfl (fun m1 => ?_) (fun m1 => ?_) <;> simp only [pL] at m1
    · have hkl : k < t.of.length := by omega
      repeat (first|refine sc rfl ?_|refine so rfl ?_|refine sb rfl ?_)
      refine ⟨by omega, ?_⟩
      rw [Int.toNat_natCast]
      repeat (first|refine sc rfl ?_|refine so rfl ?_|refine sb rfl ?_)
      refine C_drawU 20 5 rfl (by kernel_rfl) (by kernel_rfl) (by kernel_rfl) ?_
      repeat (first|refine sd rfl ?_|refine sdb rfl ?_|refine sds rfl ?_)
      refine D_X (.v h) (X_loadP 2 (reads_box 2) rfl rfl rfl rfl rfl rfl) ?_
      repeat (first|refine sd rfl ?_|refine sdb rfl ?_|refine sds rfl ?_)
      refine D_call (hrec k hkl) rfl rfl rfl rfl ?_
      repeat (first|refine sd rfl ?_|refine sdb rfl ?_|refine sds rfl ?_)
      refine O_appendV 3 (m2 := 1) (m3 := k + 1) (row3 := fun i => Ty.c (t.of.getD i default)) rfl rfl rfl rfl rfl rfl (fun i hi => ?_) rfl (by show (k + 1) * 48 ≤ 140737488355328; omega) (by show k + 1 ≤ maxLen; simp only [maxLen]; omega) rfl (fun i hi => ?_) (fun v' hv' => ?_)
      · show (chunkRow 3 (Ty.c (t.of.getD k default)) i).length = 3
        have h0 : i = 0 := by have : i < 1 := hi; omega
        subst h0; rfl
      · unfold appRow
        by_cases hik : i < k
        · rw [if_pos hik]
        · rw [if_neg hik]
          obtain rfl : i = k := by omega
          rw [Nat.sub_self]; rfl
      · obtain ⟨g9, cc9, rfl⟩ := hv'.resolve_left (fun h => by omega)
        repeat (first|refine sc rfl ?_|refine so rfl ?_|refine sb rfl ?_)
        refine O_Xn (X_storeP 3 (writes_box (by show 2 < 3; decide)) rfl rfl rfl rfl rfl rfl rfl) ?_
        repeat (first|refine sc rfl ?_|refine so rfl ?_|refine sb rfl ?_)
        rw [w64 (x := (k : Int) + 1) (by omega) (by omega)]
        refine ⟨(k + 1, HD g9 (k + 1) cc9), by simp only []; omega, by simp only []; omega, Le.pick [3, 0, 0] ⟨rfl, rfl, rfl, rfl, rfl, trivial⟩ rfl⟩
    · obtain rfl : k = t.of.length := by omega
      refine C_le _ (Le.frVec 2 (Ty.rows t.of) rfl (fun i hi => Ty.rows_eq _ _ hi)) ?_
      refine C_le _ (Le.cellA 2 0 2 rfl rfl) ?_
      repeat (first|refine sc rfl ?_|refine so rfl ?_|refine sb rfl ?_)
      refine O_loadP 0 (reads_box 0) rfl rfl rfl rfl rfl rfl ?_
      repeat (first|refine sc rfl ?_|refine so rfl ?_|refine sb rfl ?_)
      exact ⟨_, rfl, rfl, rfl⟩
end Go.Proofs

namespace Go.Proofs
open Go.Sy Go.Lib

def FewF (F : List Fld) : Prop := F.length ≤ 1000 ∧ ∀ i, i < F.length → FewT (F.getD i default).ty

theorem fields_c (F : List Fld) (hF : FewF F) : FnP Tryz.prog 71 [SL 5 Fld.c F] (· = SL 5 Fld.c F) := by
  refine FnP.intro Tryz.tabOK Tryz.wide_ Tryz.func71 rfl (by decide) rfl (fun X => ?_)
  have hlen := hF.1
  repeat (first|refine sc rfl ?_|refine so rfl ?_|refine sb rfl ?_)
  refine C_le _ (Le.addVec 65 5 (fun i => Fld.c (F.getD i default))) ?_
  refine C_loop (fun q : Nat × Value => ⟨[(3, .v q.2), (6, SL 5 Fld.c F), (7, I64 (F.length : Nat)), (8, I64 (q.1 : Nat))], [.abs (vecA q.2 65 5 q.1 (fun i => Fld.c (F.getD i default)))]⟩)
    (fun q => q.1 ≤ F.length) (fun q => F.length - q.1) (0, .slice none 0 0) (Nat.zero_le _) (Le.pick [0] ⟨rfl, rfl, rfl, rfl, trivial⟩ rfl) ?_
  rintro ⟨k, h⟩ hk
  simp only [] at hk
  repeat (first|refine sc rfl ?_|refine so rfl ?_|refine sb rfl ?_)
  refine C_if rfl (fun m1 => ?_) (fun m1 => ?_) <;> simp only [pL] at m1
  · have hkl : k < F.length := by omega
    repeat (first|refine sc rfl ?_|refine so rfl ?_|refine sb rfl ?_)
    refine ⟨by omega, ?_⟩
    rw [Int.toNat_natCast]
    repeat (first|refine sc rfl ?_|refine so rfl ?_|refine sb rfl ?_)
    refine O_call (own_c _ (F.getD k default).ty (Nat.le_refl _) (hF.2 k hkl)) (by rfl) (by rfl) (by rfl) (by rfl) (fun r hr => ?_)
    subst hr
    repeat (first|refine sc rfl ?_|refine so rfl ?_|refine sb rfl ?_)
    refine O_le _ (Le.freeze 18 rfl rfl) ?_
    refine O_appendV 1 (m2 := 1) (m3 := k + 1) (row3 := fun i => Fld.c (F.getD i default)) rfl rfl rfl rfl rfl rfl (fun i hi => ?_) rfl (by show (k + 1) * 72 ≤ 140737488355328; omega) (by show k + 1 ≤ maxLen; simp only [maxLen]; omega) rfl (fun i hi => ?_) (fun v' hv' => ?_)
    · show (chunkRow 5 (Fld.c (F.getD k default)) i).length = 5
      have h0 : i = 0 := by have : i < 1 := hi; omega
      subst h0; rfl
    · unfold appRow
      by_cases hik : i < k
      · rw [if_pos hik]
      · rw [if_neg hik]
        obtain rfl : i = k := by omega
        rw [Nat.sub_self]; rfl
    · obtain ⟨g9, cc9, rfl⟩ := hv'.resolve_left (fun h => by omega)
      repeat (first|refine sc rfl ?_|refine so rfl ?_|refine sb rfl ?_)
      rw [w64 (x := (k : Int) + 1) (by omega) (by omega)]
      refine ⟨(k + 1, HD g9 (k + 1) cc9), by simp only []; omega, by simp only []; omega, Le.pick [0] ⟨rfl, rfl, rfl, rfl, trivial⟩ rfl⟩
  · obtain rfl : k = F.length := by omega
    refine C_le _ (Le.frVec 0 (fun i => Fld.c (F.getD i default)) rfl (fun i hi => rfl)) ?_
    refine C_le _ (Le.slotA 0 3 rfl rfl) ?_
    repeat (first|refine sc rfl ?_|refine so rfl ?_|refine sb rfl ?_)
    exact ⟨_, rfl, rfl, rfl⟩
end Go.Proofs

namespace Go.Proofs
open Go.Sy Go.Lib

theorem Clone_M (F : List Mth) (hF : F.length ≤ 1000) : FnP Tryz.prog 117 [SL 5 Mth.c F] (· = SL 5 Mth.c F) := by
  refine FnP.intro Tryz.tabOK Tryz.wide_ Tryz.func117 rfl (by decide) rfl (fun X => ?_)
  repeat (first|refine sc rfl ?_|refine so rfl ?_|refine sb rfl ?_)
  refine O_nilsl Tryz.underlying58 rfl rfl rfl (fun b hb => ?_)
  repeat (first|refine sc rfl ?_|refine so rfl ?_|refine sb rfl ?_)
  cases b with
  | true =>
    have h0 : F = [] := List.length_eq_zero_iff.1 (hb rfl)
    subst h0
    refine C_true rfl rfl ?_
    iterate 4 (first|refine sc rfl ?_|refine so rfl ?_|refine sb rfl ?_)
    refine C_le _ (Le.conv 2 (y := SL 5 Mth.c []) rfl (fun e v h => by simp only [Rep] at h ⊢; exact repI_nil (by simpa only [RepI] using h))) ?_
    repeat (first|refine sc rfl ?_|refine so rfl ?_|refine sb rfl ?_)
    exact ⟨_, rfl, rfl, rfl⟩
  | false =>
    refine C_false rfl rfl ?_
    repeat (first|refine sc rfl ?_|refine so rfl ?_|refine sb rfl ?_)
    refine O_empty (fun i => Mth.c (F.getD i default)) rfl rfl rfl rfl rfl ?_
    repeat (first|refine sc rfl ?_|refine so rfl ?_|refine sb rfl ?_)
    refine O_append (m2 := F.length) (m3 := F.length) (row3 := fun i => Mth.c (F.getD i default)) (s2 := [(0, SL 5 Mth.c F)]) rfl rfl rfl rfl rfl (src_sl rfl (fun i _ => rfl)) rfl ⟨rfl, trivial⟩ rfl rfl (by show (0 + F.length) * 64 ≤ 140737488355328; omega) (by show 0 + F.length ≤ maxLen; simp only [maxLen]; omega) (by omega) (fun i hi => ?_) ?_
    · unfold appRow
      rw [if_neg (Nat.not_lt_zero _), Nat.sub_zero]
    · refine O_le _ (Le.freeze 7 rfl rfl) ?_
      repeat (first|refine sc rfl ?_|refine so rfl ?_|refine sb rfl ?_)
      exact ⟨_, rfl, rfl, rfl⟩

structure FewD (d : Dcl) : Prop where
  f : FewF d.fields
  m : d.methods.length ≤ 1000
def FewL (l : List Dcl) : Prop := l.length ≤ 1000 ∧ ∀ i, i < l.length → FewD (l.getD i default)

theorem decls_c (l : List Dcl) (hl : FewL l) : FnP Tryz.prog 68 [SL 5 Dcl.c l] (· = SL 5 Dcl.c l) := by
  refine FnP.intro Tryz.tabOK Tryz.wide_ Tryz.func68 rfl (by decide) rfl (fun X => ?_)
  have hlen := hl.1
  repeat (first|refine sc rfl ?_|refine so rfl ?_|refine sb rfl ?_)
  refine C_le _ (Le.addVec 60 5 (fun i => Dcl.c (l.getD i default))) ?_
  refine C_loop (fun q : Nat × Value => ⟨[(3, .v q.2), (6, SL 5 Dcl.c l), (7, I64 (l.length : Nat)), (8, I64 (q.1 : Nat))], [.abs (vecA q.2 60 5 q.1 (fun i => Dcl.c (l.getD i default)))]⟩)
    (fun q => q.1 ≤ l.length) (fun q => l.length - q.1) (0, .slice none 0 0) (Nat.zero_le _) (Le.pick [0] ⟨rfl, rfl, rfl, rfl, trivial⟩ rfl) ?_
  rintro ⟨k, h⟩ hk
  simp only [] at hk
  repeat (first|refine sc rfl ?_|refine so rfl ?_|refine sb rfl ?_)
  refine C_if rfl (fun m1 => ?_) (fun m1 => ?_) <;> simp only [pL] at m1
  · have hkl : k < l.length := by omega
    repeat (first|refine sc rfl ?_|refine so rfl ?_|refine sb rfl ?_)
    refine ⟨by omega, ?_⟩
    rw [Int.toNat_natCast]
    repeat (first|refine sc rfl ?_|refine so rfl ?_|refine sb rfl ?_)
    refine O_call (fields_c (l.getD k default).fields (hl.2 k hkl).f) (by rfl) (by rfl) (by rfl) (by rfl) (fun r hr => ?_)
    subst hr
    repeat (first|refine sc rfl ?_|refine so rfl ?_|refine sb rfl ?_)
    refine O_call (Clone_M (l.getD k default).methods (hl.2 k hkl).m) (by rfl) (by rfl) (by rfl) (by rfl) (fun r hr => ?_)
    subst hr
    repeat (first|refine sc rfl ?_|refine so rfl ?_|refine sb rfl ?_)
    refine O_le _ (Le.freeze 22 rfl rfl) ?_
    refine O_appendV 1 (m2 := 1) (m3 := k + 1) (row3 := fun i => Dcl.c (l.getD i default)) rfl rfl rfl rfl rfl rfl (fun i hi => ?_) rfl (by show (k + 1) * 80 ≤ 140737488355328; omega) (by show k + 1 ≤ maxLen; simp only [maxLen]; omega) rfl (fun i hi => ?_) (fun v' hv' => ?_)
    · show (chunkRow 5 (Dcl.c (l.getD k default)) i).length = 5
      have h0 : i = 0 := by have : i < 1 := hi; omega
      subst h0; rfl
    · unfold appRow
      by_cases hik : i < k
      · rw [if_pos hik]
      · rw [if_neg hik]
        obtain rfl : i = k := by omega
        rw [Nat.sub_self]; rfl
    · obtain ⟨g9, cc9, rfl⟩ := hv'.resolve_left (fun h => by omega)
      repeat (first|refine sc rfl ?_|refine so rfl ?_|refine sb rfl ?_)
      rw [w64 (x := (k : Int) + 1) (by omega) (by omega)]
      refine ⟨(k + 1, HD g9 (k + 1) cc9), by simp only []; omega, by simp only []; omega, Le.pick [0] ⟨rfl, rfl, rfl, rfl, trivial⟩ rfl⟩
  · obtain rfl : k = l.length := by omega
    refine C_le _ (Le.frVec 0 (fun i => Dcl.c (l.getD i default)) rfl (fun i hi => rfl)) ?_
    refine C_le _ (Le.slotA 0 3 rfl rfl) ?_
    repeat (first|refine sc rfl ?_|refine so rfl ?_|refine sb rfl ?_)
    exact ⟨_, rfl, rfl, rfl⟩

theorem FewL.toFew {l : List Dcl} (h : FewL l) : Fewl l := ⟨h.1, fun i hi => ⟨(h.2 i hi).f.1, (h.2 i hi).m⟩⟩

theorem Of_A (l : List Dcl) (hl : FewL l) : FnA Tryz.prog 24 [SL 5 Dcl.c l] [] (fun r cs' => (∃ f : Flt, r = .tup [.v (.pointer none), .agg (Flt.c f)] ∧ ¬(WellL l ∧ FinL l) ∧ cs' = []) ∨
    (∃ b, r = .tup [PT b 0, .agg (Flt.c ⟨0, 0⟩)] ∧ (WellL l ∧ FinL l) ∧ cs' = [boxA b 165 [SL 5 Dcl.c l, .v (.int .u32 0), .v (.int .i32 0), .v (.int .u32 0), .v (.pointer none), .v (.map none)]])) := by
  refine FnA.intro Tryz.tabOK Tryz.wide_ Tryz.func24 rfl (by decide) rfl (fun X => ?_)
  repeat (first|refine sc rfl ?_|refine so rfl ?_|refine sb rfl ?_)
  refine O_call (Check_c l hl.toFew) (by rfl) (by rfl) (by rfl) (by rfl) (fun r hr => ?_)
  obtain ⟨f, rfl, hf, hf2⟩ := hr
  repeat (first|refine sc rfl ?_|refine so rfl ?_|refine sb rfl ?_)
  refine C_if rfl (fun m1 => ?_) (fun m1 => ?_) <;> simp only [pL] at m1
  · repeat (first|refine sc rfl ?_|refine so rfl ?_|refine sb rfl ?_)
    refine C_drawU 20 2 rfl (by kernel_rfl) (by kernel_rfl) (by kernel_rfl) ?_
    repeat (first|refine sd rfl ?_|refine sdb rfl ?_|refine sds rfl ?_)
    repeat (first|refine sc rfl ?_|refine so rfl ?_|refine sb rfl ?_)
    exact ⟨_, [], _, rfl, .refl _, rfl, .inl ⟨f, rfl, fun h => m1 (hf.2 h), rfl⟩⟩
  · repeat (first|refine sc rfl ?_|refine so rfl ?_|refine sb rfl ?_)
    refine O_call (decls_c l hl) (by rfl) (by rfl) (by rfl) (by rfl) (fun r hr => ?_)
    subst hr
    iterate 6 (first|refine sc rfl ?_|refine so rfl ?_|refine sb rfl ?_)
    refine C_absb 2 rfl rfl rfl (fun b => ?_)
    repeat (first|refine sc rfl ?_|refine so rfl ?_|refine sb rfl ?_)
    exact ⟨_, [_], _, rfl, .refl _, rfl, .inr ⟨b, rfl, hf.1 m1, rfl⟩⟩
end Go.Proofs

namespace Go.Proofs
open Go.Sy Go.Lib

noncomputable def IsNaN_F (x : Int) : Option (Bool) :=
  some (x != x)
theorem IsNaN_w (x : Int) (r : Bool) (h : IsNaN_F x = some r) : FnP Tryz.prog 200 [I64 x] (· = B r) := by
  unfold IsNaN_F at h
  refine FnP.intro Tryz.tabOK Tryz.wide_ Tryz.func200 rfl (by decide) rfl (fun X => ?_)
  iterate 2 refine sc rfl ?_
  first|refine so rfl ?_|refine sb rfl ?_
  refine so rfl ?_
  iterate 2 refine sc rfl ?_
  iterate 4 (first|refine so rfl ?_|refine sb rfl ?_)
  refine so rfl ?_
  refine sc rfl ?_
  obtain rfl := Option.some.inj h
  exact ⟨_, rfl, rfl, rfl⟩
noncomputable def Compare_F (x : Int) (y : Int) : Option (Int) :=
  Option.bind (IsNaN_F x) (fun r1 => Option.bind (IsNaN_F y) (fun r4 => cond r1 (cond r4 (some 0) (some (-1))) (cond r4 (some 1) (cond (decide (x < y)) (some (-1)) (cond (decide (y < x)) (some 1) (some 0))))))
theorem Compare_w (x : Int) (y : Int) (r : Int) (h : Compare_F x y = some r) : FnP Tryz.prog 126 [I64 x, I64 y] (· = I64 r) := by
  unfold Compare_F at h
  refine FnP.intro Tryz.tabOK Tryz.wide_ Tryz.func126 rfl (by decide) rfl (fun X => ?_)
  iterate 2 refine sc rfl ?_
  first|refine so rfl ?_|refine sb rfl ?_
  refine so rfl ?_
  iterate 2 refine sc rfl ?_
  first|refine so rfl ?_|refine sb rfl ?_
  obtain ⟨r1, hr2, h⟩ := bT h
  refine O_call (IsNaN_w _ _ hr2) (by rfl) (by rfl) (by rfl) (by rfl) (fun q3 hq3 => ?_)
  subst hq3
  first|refine so rfl ?_|refine sb rfl ?_
  refine so rfl ?_
  iterate 2 refine sc rfl ?_
  first|refine so rfl ?_|refine sb rfl ?_
  obtain ⟨r4, hr5, h⟩ := bT h
  refine O_call (IsNaN_w _ _ hr5) (by rfl) (by rfl) (by rfl) (by rfl) (fun q6 hq6 => ?_)
  subst hq6
  first|refine so rfl ?_|refine sb rfl ?_
  refine so rfl ?_
  iterate 3 refine sc rfl ?_
  first|refine so rfl ?_|refine sb rfl ?_
  refine so rfl ?_
  refine C_if rfl (fun hb7 => ?_) (fun hb7 => ?_)
  · replace h := cT hb7 h
    iterate 3 refine sc rfl ?_
    first|refine so rfl ?_|refine sb rfl ?_
    refine so rfl ?_
    refine C_if rfl (fun hb8 => ?_) (fun hb8 => ?_)
    · replace h := cT hb8 h
      iterate 2 refine sc rfl ?_
      first|refine so rfl ?_|refine sb rfl ?_
      refine so rfl ?_
      refine sc rfl ?_
      obtain rfl := Option.some.inj h
      exact ⟨_, rfl, rfl, rfl⟩
    · replace h := cF hb8 h
      iterate 3 refine sc rfl ?_
      first|refine so rfl ?_|refine sb rfl ?_
      refine so rfl ?_
      refine sc rfl ?_
      obtain rfl := Option.some.inj h
      exact ⟨_, rfl, rfl, rfl⟩
  · replace h := cF hb7 h
    iterate 4 refine sc rfl ?_
    first|refine so rfl ?_|refine sb rfl ?_
    refine so rfl ?_
    refine C_if rfl (fun hb9 => ?_) (fun hb9 => ?_)
    · replace h := cT hb9 h
      iterate 2 refine sc rfl ?_
      first|refine so rfl ?_|refine sb rfl ?_
      refine so rfl ?_
      refine sc rfl ?_
      obtain rfl := Option.some.inj h
      exact ⟨_, rfl, rfl, rfl⟩
    · replace h := cF hb9 h
      iterate 4 refine sc rfl ?_
      iterate 3 (first|refine so rfl ?_|refine sb rfl ?_)
      refine so rfl ?_
      refine C_if rfl (fun hb10 => ?_) (fun hb10 => ?_)
      · replace h := cT hb10 h
        iterate 2 refine sc rfl ?_
        first|refine so rfl ?_|refine sb rfl ?_
        refine so rfl ?_
        refine sc rfl ?_
        obtain rfl := Option.some.inj h
        exact ⟨_, rfl, rfl, rfl⟩
      · replace h := cF hb10 h
        iterate 4 refine sc rfl ?_
        iterate 3 (first|refine so rfl ?_|refine sb rfl ?_)
        refine so rfl ?_
        refine C_if rfl (fun hb11 => ?_) (fun hb11 => ?_)
        · replace h := cT hb11 h
          iterate 2 refine sc rfl ?_
          first|refine so rfl ?_|refine sb rfl ?_
          refine so rfl ?_
          refine sc rfl ?_
          obtain rfl := Option.some.inj h
          exact ⟨_, rfl, rfl, rfl⟩
        · replace h := cF hb11 h
          iterate 3 refine sc rfl ?_
          first|refine so rfl ?_|refine sb rfl ?_
          refine so rfl ?_
          refine sc rfl ?_
          obtain rfl := Option.some.inj h
          exact ⟨_, rfl, rfl, rfl⟩
noncomputable def CmpF_F (a : Fld) (b : Fld) : Option (Int) :=
  Option.bind (Compare_F a.tag b.tag) (fun r1 => some r1)
theorem CmpF_w (a : Fld) (b : Fld) (r : Int) (h : CmpF_F a b = some r) : FnP Tryz.prog 125 [.agg (Fld.c a), .agg (Fld.c b)] (· = I64 r) := by
  unfold CmpF_F at h
  refine FnP.intro Tryz.tabOK Tryz.wide_ Tryz.func125 rfl (by decide) rfl (fun X => ?_)
  iterate 2 refine sc rfl ?_
  iterate 3 (first|refine so rfl ?_|refine sb rfl ?_)
  refine so rfl ?_
  iterate 2 refine sc rfl ?_
  iterate 4 (first|refine so rfl ?_|refine sb rfl ?_)
  obtain ⟨r1, hr2, h⟩ := bT h
  refine O_call (Compare_w _ _ _ hr2) (by rfl) (by rfl) (by rfl) (by rfl) (fun q3 hq3 => ?_)
  subst hq3
  first|refine so rfl ?_|refine sb rfl ?_
  refine so rfl ?_
  refine sc rfl ?_
  obtain rfl := Option.some.inj h
  exact ⟨_, rfl, rfl, rfl⟩
end Go.Proofs

namespace Go.Proofs
open Go.Sy Go.Lib

def cmpI (a b : Int) : Int := if a < b then -1 else if b < a then 1 else 0
theorem CmpF_c (x y : Fld) : FnP Tryz.prog 125 [.agg (Fld.c x), .agg (Fld.c y)] (· = I64 (cmpI x.tag y.tag)) := by
  refine CmpF_w x y _ ?_
  unfold CmpF_F Compare_F IsNaN_F cmpI
  by_cases h1 : x.tag < y.tag
  · simp [h1]
  · by_cases h2 : y.tag < x.tag
    · simp [h1, h2]
    · simp [h1, h2]
theorem cmp_lt (a b : Int) : decide (cmpI a b < 0) = decide (a < b) := by
  unfold cmpI
  by_cases h1 : a < b
  · simp [h1]
  · by_cases h2 : b < a
    · simp [h1, h2]
    · simp [h1, h2]

abbrev cmpV : AV := .v (.func (.func 125) #[] #[])
abbrev arA (g n cc : Nat) (f : Nat → Fld) : Abs := vecA (HD g n cc) 65 5 n (fun i => Fld.c (f i))

def swp {α : Type} (f : Nat → α) (u v : Nat) : Nat → α := fun i => if i = v then f u else if i = u then f v else f i
def swr {α : Type} (f : Nat → α) (a b n : Nat) : Nat → α := fun i => if a ≤ i ∧ i < a + n then f (b + (i - a)) else if b ≤ i ∧ i < b + n then f (a + (i - b)) else f i

theorem swr_succ {α : Type} (f : Nat → α) (a b k : Nat) (h : a + k < b ∨ b + k < a) : ∀ i, swp (swr f a b k) (a + k) (b + k) i = swr f a b (k + 1) i := fun i => by
  unfold swp swr
  repeat' split
  all_goals first
    | rfl
    | (congr 1; omega)
    | (exfalso; omega)

def PX : Pl := ⟨[[], [], [], [], [], [], [], [], [], [], [], [], [], [], [], [], [], [], [], [], [], [13, 19], [], [13, 19, 21]], [21, 23], [], []⟩

theorem swapRange_A (g n cc : Nat) (f : Nat → Fld) (a b k : Nat) (hd : a + k ≤ b) (hb : b + k ≤ n) (hn : n ≤ 1000) :
    FnA Tryz.prog 310 [.v (HD g n cc), I64 (a : Nat), I64 (b : Nat), I64 (k : Nat), cmpV] [arA g n cc f] (fun r cs' => r = .tup [] ∧ cs' = [arA g n cc (swr f a b k)]) := by
  refine FnA.intro Tryz.tabOK Tryz.wide_ Tryz.func310 rfl (by decide) rfl (fun X => ?_)
  refine C_know 0 (n ≤ cc) rfl (fun G w hok _ => ?_) (fun hmc => ?_)
  · obtain ⟨xs, h1, _⟩ := hok
    rcases h1.2 with ⟨h2, _⟩ | ⟨g', cap, cur, h2, _, _, h3, _⟩
    · cases h2
    · simp only [HD, Value.slice.injEq] at h2
      rw [h2.2.2]; exact h3
  repeat (first|refine sc rfl ?_|refine so rfl ?_|refine sb rfl ?_)
  refine C_loop (fun i : Nat => ⟨[(0, .v (HD g n cc)), (1, I64 (a : Nat)), (2, I64 (b : Nat)), (3, I64 (k : Nat)), (10, I64 (i : Nat))], [.abs (arA g n cc (swr f a b i))]⟩) (fun i => i ≤ k) (fun i => k - i) 0 (Nat.zero_le _) ?_ ?_
  · have : swr f a b 0 = f := by funext i; unfold swr; rw [if_neg (by omega), if_neg (by omega)]
    rw [this]
    exact Le.pick [0] ⟨rfl, rfl, rfl, rfl, rfl, trivial⟩ rfl
  intro i hi
  repeat (first|refine sc rfl ?_|refine so rfl ?_|refine sb rfl ?_)
  refine C_if rfl (fun m1 => ?_) (fun m1 => ?_) <;> simp only [pL] at m1
  · have hik : i < k := by omega
    repeat (first|refine sc rfl ?_|refine so rfl ?_|refine sb rfl ?_)
    refine C_drawX PX (fun ph => match ph with
      | 0 => [.abs (arA g n cc (swr f a b i))]
      | 1 => [.abs (arA g n cc (fun j => if j = a + i then swr f a b i (b + i) else swr f a b i j))]
      | _ => [.abs (arA g n cc (swr f a b (i + 1)))]) rfl (by kernel_rfl) (by decide) rfl ?_
    have ea : ((a : Int) + (i : Int)).toNat = a + i := by omega
    have eb : ((b : Int) + (i : Int)).toNat = b + i := by omega
    refine sx rfl ⟨trivial, ?_⟩
    refine sx rfl ⟨trivial, ?_⟩
    refine sx rfl ⟨trivial, ?_⟩
    refine sx rfl ⟨trivial, ?_⟩
    rw [w64 (x := (a : Int) + (i : Int)) (by omega) (by omega)]
    refine sx rfl ⟨trivial, ?_⟩
    refine sx rfl ⟨trivial, ?_⟩
    refine sx rfl ⟨trivial, ?_⟩
    refine sx rfl ⟨trivial, ?_⟩
    rw [w64 (x := (b : Int) + (i : Int)) (by omega) (by omega)]
    refine sx rfl ⟨trivial, ?_⟩
    refine sx rfl ⟨trivial, ?_⟩
    refine sx rfl ⟨trivial, ?_⟩
    refine sx rfl ⟨trivial, ?_⟩
    rw [w64 (x := (b : Int) + (i : Int)) (by omega) (by omega)]
    refine sx rfl ⟨by omega, ?_⟩
    rw [eb]
    refine SXr (.agg (Fld.c (swr f a b i (b + i)))) 0 rfl rfl rfl rfl (X_loadP 0 (reads_vec (q := b + i) (j := 0) (by omega) (by omega)) rfl rfl rfl rfl rfl rfl) ?_
    refine sx rfl ⟨trivial, ?_⟩
    refine sx rfl ⟨trivial, ?_⟩
    refine sx rfl ⟨trivial, ?_⟩
    refine sx rfl ⟨trivial, ?_⟩
    rw [w64 (x := (a : Int) + (i : Int)) (by omega) (by omega)]
    refine sx rfl ⟨by omega, ?_⟩
    rw [ea]
    refine SXr (.agg (Fld.c (swr f a b i (a + i)))) 0 rfl rfl rfl rfl (X_loadP 0 (reads_vec (q := a + i) (j := 0) (by omega) (by omega)) rfl rfl rfl rfl rfl rfl) ?_
    refine sx rfl ⟨by omega, ?_⟩
    rw [ea]
    refine SXw .bad 0 rfl rfl rfl rfl (X_storeV 0 (a + i) (row' := fun j => Fld.c (if j = a + i then swr f a b i (b + i) else swr f a b i j)) rfl rfl rfl (by omega) rfl rfl rfl (by omega) rfl (fun j hj => ?_)) ?_
    · by_cases hj2 : j = a + i
      · rw [if_pos hj2, if_pos hj2]
      · rw [if_neg hj2, if_neg hj2]
    refine sx rfl ⟨by omega, ?_⟩
    rw [eb]
    refine SXw .bad 1 rfl rfl rfl rfl (X_storeV 0 (b + i) (row' := fun j => Fld.c (swr f a b (i + 1) j)) rfl rfl rfl (by omega) rfl rfl rfl (by omega) rfl (fun j hj => ?_)) ?_
    · rw [← swr_succ f a b i (by omega) j]
      unfold swp
      by_cases hj1 : j = b + i
      · rw [if_pos hj1, if_pos hj1]
      · rw [if_neg hj1, if_neg hj1]
    refine sx rfl ?_
    repeat (first|refine sc rfl ?_|refine so rfl ?_|refine sb rfl ?_)
    rw [w64 (x := (i : Int) + 1) (by omega) (by omega)]
    refine ⟨i + 1, hik, by omega, Le.pick [0] ⟨rfl, rfl, rfl, rfl, rfl, trivial⟩ rfl⟩
  · obtain rfl : i = k := by omega
    repeat (first|refine sc rfl ?_|refine so rfl ?_|refine sb rfl ?_)
    exact ⟨_, [_], _, rfl, .refl _, rfl, rfl, rfl⟩
end Go.Proofs

namespace Go.Proofs
open Go.Sy Go.Lib

def rot {α : Type} (f : Nat → α) (a m b : Nat) : Nat → α := fun i => if a ≤ i ∧ i < a + (b - m) then f (i + (m - a)) else if a + (b - m) ≤ i ∧ i < b then f (i - (b - m)) else f i

theorem rot_gt {α : Type} (f : Nat → α) (m i j : Nat) (h : j < i) (hi : i ≤ m) (hj : 0 < j) : rot (swr f (m - i) m j) (m - (i - j)) m (m + j) = rot f (m - i) m (m + j) := by
  funext x
  unfold rot swr
  repeat' split
  all_goals first
    | rfl
    | (congr 1; omega)
    | (exfalso; omega)
theorem rot_lt {α : Type} (f : Nat → α) (m i j : Nat) (h : i < j) (hi : i ≤ m) (hj : 0 < i) : rot (swr f (m - i) (m + j - i) i) (m - i) m (m + (j - i)) = rot f (m - i) m (m + j) := by
  funext x
  unfold rot swr
  repeat' split
  all_goals first
    | rfl
    | (congr 1; omega)
    | (exfalso; omega)
theorem rot_eq {α : Type} (f : Nat → α) (m i : Nat) (hi : i ≤ m) : swr f (m - i) m i = rot f (m - i) m (m + i) := by
  funext x
  unfold rot swr
  repeat' split
  all_goals first
    | rfl
    | (congr 1; omega)
    | (exfalso; omega)

theorem rotate_A (g n cc : Nat) (f : Nat → Fld) (a m b : Nat) (h1 : a < m) (h2 : m < b) (hb : b ≤ n) (hn : n ≤ 1000) :
    FnA Tryz.prog 286 [.v (HD g n cc), I64 (a : Nat), I64 (m : Nat), I64 (b : Nat), cmpV] [arA g n cc f] (fun r cs' => r = .tup [] ∧ cs' = [arA g n cc (rot f a m b)]) := by
  refine FnA.intro Tryz.tabOK Tryz.wide_ Tryz.func286 rfl (by decide) rfl (fun X => ?_)
  repeat (first|refine sc rfl ?_|refine so rfl ?_|refine sb rfl ?_)
  rw [w64 (x := (m : Int) - (a : Int)) (by omega) (by omega), w64 (x := (b : Int) - (m : Int)) (by omega) (by omega)]
  refine C_loop (fun q : Nat × Nat × (Nat → Fld) => ⟨[(0, .v (HD g n cc)), (2, I64 (m : Nat)), (4, cmpV), (10, I64 (q.1 : Nat)), (11, I64 (q.2.1 : Nat))], [.abs (arA g n cc q.2.2)]⟩)
    (fun q => 0 < q.1 ∧ q.1 ≤ m ∧ 0 < q.2.1 ∧ m + q.2.1 ≤ n ∧ rot q.2.2 (m - q.1) m (m + q.2.1) = rot f a m b) (fun q => q.1 + q.2.1) (m - a, b - m, f) ⟨by simp only []; omega, by simp only []; omega, by simp only []; omega, by simp only []; omega, by simp only []; rw [show m - (m - a) = a by omega, show m + (b - m) = b by omega]⟩ ?_ ?_
  · rw [show (m : Int) - (a : Int) = ((m - a : Nat) : Int) by omega, show (b : Int) - (m : Int) = ((b - m : Nat) : Int) by omega]
    exact Le.pick [0] ⟨rfl, rfl, rfl, rfl, rfl, trivial⟩ rfl
  rintro ⟨i, j, f1⟩ ⟨hi0, him, hj0, hjn, hr⟩
  simp only [] at hi0 him hj0 hjn hr
  repeat (first|refine sc rfl ?_|refine so rfl ?_|refine sb rfl ?_)
  refine C_if rfl (fun m1 => ?_) (fun m1 => ?_) <;> simp only [pL] at m1
  · repeat (first|refine sc rfl ?_|refine so rfl ?_|refine sb rfl ?_)
    refine C_if rfl (fun m2 => ?_) (fun m2 => ?_) <;> simp only [pL] at m2
    · have hA := swapRange_A g n cc f1 (m - i) m j (by omega) (by omega) hn
      rw [show ((m - i : Nat) : Int) = (m : Int) - (i : Int) by omega] at hA
      repeat (first|refine sc rfl ?_|refine so rfl ?_|refine sb rfl ?_)
      rw [w64 (x := (m : Int) - (i : Int)) (by omega) (by omega)]
      repeat (first|refine sc rfl ?_|refine so rfl ?_|refine sb rfl ?_)
      refine O_callA [0] hA (by rfl) (by rfl) (by rfl) (by rfl) (by rfl) ?_
      rintro r cs' ⟨rfl, rfl⟩
      repeat (first|refine sc rfl ?_|refine so rfl ?_|refine sb rfl ?_)
      rw [w64 (x := (i : Int) - (j : Int)) (by omega) (by omega), show (i : Int) - (j : Int) = ((i - j : Nat) : Int) by omega]
      refine ⟨(i - j, j, swr f1 (m - i) m j), ⟨by simp only []; omega, by simp only []; omega, by simp only []; omega, by simp only []; omega, ?_⟩, by simp only []; omega, Le.pick [0] ⟨rfl, rfl, rfl, rfl, rfl, trivial⟩ rfl⟩
      simp only []
      rw [rot_gt f1 m i j (by omega) him hj0]; exact hr
    · have hA := swapRange_A g n cc f1 (m - i) (m + j - i) i (by omega) (by omega) hn
      rw [show ((m - i : Nat) : Int) = (m : Int) - (i : Int) by omega, show ((m + j - i : Nat) : Int) = (m : Int) + (j : Int) - (i : Int) by omega] at hA
      repeat (first|refine sc rfl ?_|refine so rfl ?_|refine sb rfl ?_)
      rw [w64 (x := (m : Int) - (i : Int)) (by omega) (by omega), w64 (x := (m : Int) + (j : Int)) (by omega) (by omega), w64 (x := (m : Int) + (j : Int) - (i : Int)) (by omega) (by omega)]
      repeat (first|refine sc rfl ?_|refine so rfl ?_|refine sb rfl ?_)
      refine O_callA [0] hA (by rfl) (by rfl) (by rfl) (by rfl) (by rfl) ?_
      rintro r cs' ⟨rfl, rfl⟩
      repeat (first|refine sc rfl ?_|refine so rfl ?_|refine sb rfl ?_)
      rw [w64 (x := (j : Int) - (i : Int)) (by omega) (by omega), show (j : Int) - (i : Int) = ((j - i : Nat) : Int) by omega]
      refine ⟨(i, j - i, swr f1 (m - i) (m + j - i) i), ⟨by simp only []; omega, by simp only []; omega, by simp only []; omega, by simp only []; omega, ?_⟩, by simp only []; omega, Le.pick [0] ⟨rfl, rfl, rfl, rfl, rfl, trivial⟩ rfl⟩
      simp only []
      rw [rot_lt f1 m i j (by omega) him hi0]; exact hr
  · obtain rfl : i = j := by omega
    have hA := swapRange_A g n cc f1 (m - i) m i (by omega) (by omega) hn
    rw [show ((m - i : Nat) : Int) = (m : Int) - (i : Int) by omega] at hA
    repeat (first|refine sc rfl ?_|refine so rfl ?_|refine sb rfl ?_)
    rw [w64 (x := (m : Int) - (i : Int)) (by omega) (by omega)]
    repeat (first|refine sc rfl ?_|refine so rfl ?_|refine sb rfl ?_)
    refine O_callA [0] hA (by rfl) (by rfl) (by rfl) (by rfl) (by rfl) ?_
    rintro r cs' ⟨rfl, rfl⟩
    repeat (first|refine sc rfl ?_|refine so rfl ?_|refine sb rfl ?_)
    exact ⟨_, [_], _, rfl, .refl _, rfl, rfl, by rw [rot_eq f1 m i him, hr]⟩
end Go.Proofs

namespace Go.Proofs
open Go.Sy

def PermOn {α : Type} (a b : Nat) (f f' : Nat → α) : Prop :=
  ∃ p r : Nat → Nat, (∀ i, a ≤ i → i < b → (a ≤ p i ∧ p i < b) ∧ (a ≤ r i ∧ r i < b) ∧ p (r i) = i ∧ r (p i) = i ∧ f' i = f (p i)) ∧ ∀ i, ¬(a ≤ i ∧ i < b) → f' i = f i

theorem PermOn.refl {α : Type} (a b : Nat) (f : Nat → α) : PermOn a b f f := ⟨id, id, fun i h1 h2 => ⟨⟨h1, h2⟩, ⟨h1, h2⟩, rfl, rfl, rfl⟩, fun _ _ => rfl⟩
theorem PermOn.trans {α : Type} {a b : Nat} {f g h : Nat → α} (h1 : PermOn a b f g) (h2 : PermOn a b g h) : PermOn a b f h := by
  obtain ⟨p1, r1, k1, o1⟩ := h1
  obtain ⟨p2, r2, k2, o2⟩ := h2
  refine ⟨fun i => p1 (p2 i), fun i => r2 (r1 i), fun i ha hb => ?_, fun i hi => by rw [o2 i hi, o1 i hi]⟩
  obtain ⟨q1, q2, q3, q4, q5⟩ := k2 i ha hb
  obtain ⟨s1, s2, s3, s4, s5⟩ := k1 (p2 i) q1.1 q1.2
  obtain ⟨t1, t2, t3, t4, t5⟩ := k1 i ha hb
  obtain ⟨u1, u2, u3, u4, u5⟩ := k2 (r1 i) t2.1 t2.2
  exact ⟨s1, u2, by show p1 (p2 (r2 (r1 i))) = i; rw [u3, t3], by show r2 (r1 (p1 (p2 i))) = i; rw [s4, q4], by rw [q5, s5]⟩
theorem PermOn.mono {α : Type} {a b a' b' : Nat} {f g : Nat → α} (h : PermOn a b f g) (ha : a' ≤ a) (hb : b ≤ b') : PermOn a' b' f g := by
  obtain ⟨p, r, k, o⟩ := h
  refine ⟨fun i => if a ≤ i ∧ i < b then p i else i, fun i => if a ≤ i ∧ i < b then r i else i, fun i h1 h2 => ?_, fun i hi => o i (by omega)⟩
  by_cases hc : a ≤ i ∧ i < b
  · obtain ⟨q1, q2, q3, q4, q5⟩ := k i hc.1 hc.2
    simp only [if_pos hc, if_pos q1, if_pos q2]
    exact ⟨by omega, by omega, q3, q4, q5⟩
  · simp only [if_neg hc]
    exact ⟨⟨h1, h2⟩, ⟨h1, h2⟩, trivial, trivial, o i hc⟩
theorem PermOn.at_ {α : Type} {a b i : Nat} {f g : Nat → α} (h : PermOn a b f g) (h1 : a ≤ i) (h2 : i < b) : ∃ j, a ≤ j ∧ j < b ∧ g i = f j := by
  obtain ⟨p, r, k, o⟩ := h
  obtain ⟨q1, _, _, _, q5⟩ := k i h1 h2
  exact ⟨p i, q1.1, q1.2, q5⟩
theorem PermOn.out {α : Type} {a b i : Nat} {f g : Nat → α} (h : PermOn a b f g) (h1 : ¬(a ≤ i ∧ i < b)) : g i = f i := by
  obtain ⟨p, r, k, o⟩ := h
  exact o i h1
theorem rot_at {α : Type} (f : Nat → α) (a m b : Nat) (i : Nat) : rot f a m b i = f (rot id a m b i) := by
  unfold rot id
  repeat' split
  all_goals rfl
theorem rot_perm {α : Type} (f : Nat → α) {a m b : Nat} (h1 : a ≤ m) (h2 : m ≤ b) : PermOn a b f (rot f a m b) := by
  refine ⟨rot id a m b, rot id a (a + (b - m)) b, fun i ha hb => ⟨?_, ?_, ?_, ?_, rot_at f a m b i⟩, fun i hi => ?_⟩
  · unfold rot id; repeat' split
    all_goals omega
  · unfold rot id; repeat' split
    all_goals omega
  · unfold rot id; repeat' split
    all_goals omega
  · unfold rot id; repeat' split
    all_goals omega
  · unfold rot; rw [if_neg (by omega), if_neg (by omega)]
theorem swp_perm {α : Type} (f : Nat → α) {u v a b : Nat} (h1 : a ≤ u ∧ u < b) (h2 : a ≤ v ∧ v < b) : PermOn a b f (swp f u v) := by
  refine ⟨swp id u v, swp id u v, fun i ha hb => ⟨?_, ?_, ?_, ?_, ?_⟩, fun i hi => ?_⟩
  · unfold swp id; repeat' split
    all_goals omega
  · unfold swp id; repeat' split
    all_goals omega
  · unfold swp id; repeat' split
    all_goals omega
  · unfold swp id; repeat' split
    all_goals omega
  · unfold swp id; repeat' split
    all_goals rfl
  · unfold swp; rw [if_neg (by omega), if_neg (by omega)]

def Srt (f : Nat → Fld) (a b : Nat) : Prop := ∀ i j, a ≤ i → i ≤ j → j < b → (f i).tag ≤ (f j).tag

theorem Srt.join {f : Nat → Fld} {a m b : Nat} (h1 : Srt f a m) (h2 : Srt f m b) (h3 : ∀ i j, a ≤ i → i < m → m ≤ j → j < b → (f i).tag ≤ (f j).tag) : Srt f a b := fun i j hi hij hj => by
  by_cases hjm : j < m
  · exact h1 i j hi hij hjm
  · by_cases him : i < m
    · exact h3 i j hi him (by omega) hj
    · exact h2 i j (by omega) hij hj
theorem Srt.sub {f : Nat → Fld} {a b a' b' : Nat} (h : Srt f a b) (h1 : a ≤ a') (h2 : b' ≤ b) : Srt f a' b' := fun i j hi hij hj => h i j (by omega) hij (by omega)
theorem Srt.congr {f g : Nat → Fld} {a b : Nat} (h : Srt f a b) (hg : ∀ i, a ≤ i → i < b → g i = f i) : Srt g a b := fun i j hi hij hj => by
  rw [hg i hi (by omega), hg j (by omega) hj]; exact h i j hi hij hj

theorem rot1 {α : Type} (f : Nat → α) {s m e i : Nat} (h : i < s) : rot f s m e i = f i := by unfold rot; rw [if_neg (by omega), if_neg (by omega)]
theorem rot2 {α : Type} (f : Nat → α) {s m e i : Nat} (h1 : s ≤ i) (h2 : i < s + (e - m)) : rot f s m e i = f (i + (m - s)) := by unfold rot; rw [if_pos ⟨h1, h2⟩]
theorem rot3 {α : Type} (f : Nat → α) {s m e i : Nat} (h1 : s + (e - m) ≤ i) (h2 : i < e) : rot f s m e i = f (i - (e - m)) := by unfold rot; rw [if_neg (by omega), if_pos ⟨h1, h2⟩]
theorem rot4 {α : Type} (f : Nat → α) {s m e i : Nat} (hs : s ≤ m) (hm : m ≤ e) (h : e ≤ i) : rot f s m e i = f i := by unfold rot; rw [if_neg (by omega), if_neg (by omega)]

structure Cut (f : Nat → Fld) (a m b s e : Nat) : Prop where
  ax : a ≤ s
  sm : s ≤ m
  me : m ≤ e
  eb : e ≤ b
  s1 : Srt f a m
  s2 : Srt f m b
  x1 : ∀ i j, a ≤ i → i < s → e ≤ j → j < b → (f i).tag ≤ (f j).tag
  x2 : ∀ i j, s ≤ i → i < m → m ≤ j → j < e → (f j).tag ≤ (f i).tag

theorem Cut.left {f : Nat → Fld} {a m b s e : Nat} (h : Cut f a m b s e) : Srt (rot f s m e) a s ∧ Srt (rot f s m e) s (s + (e - m)) := by
  obtain ⟨q1, q2, q3, q4, q5, q6, q7, q8⟩ := h
  refine ⟨fun i j hi hij hj => ?_, fun i j hi hij hj => ?_⟩
  · rw [rot1 f (by omega), rot1 f (by omega)]; exact q5 i j hi hij (by omega)
  · rw [rot2 f hi (by omega), rot2 f (by omega) hj]; exact q6 _ _ (by omega) (by omega) (by omega)
theorem Cut.right {f : Nat → Fld} {a m b s e : Nat} (h : Cut f a m b s e) : Srt (rot f s m e) (s + (e - m)) e ∧ Srt (rot f s m e) e b := by
  obtain ⟨q1, q2, q3, q4, q5, q6, q7, q8⟩ := h
  refine ⟨fun i j hi hij hj => ?_, fun i j hi hij hj => ?_⟩
  · rw [rot3 f hi (by omega), rot3 f (by omega) hj]; exact q5 _ _ (by omega) (by omega) (by omega)
  · rw [rot4 f q2 q3 hi, rot4 f q2 q3 (by omega)]; exact q6 i j (by omega) hij hj
theorem Cut.cross {f : Nat → Fld} {a m b s e : Nat} (h : Cut f a m b s e) : ∀ i j, a ≤ i → i < s + (e - m) → s + (e - m) ≤ j → j < b → (rot f s m e i).tag ≤ (rot f s m e j).tag := by
  obtain ⟨q1, q2, q3, q4, q5, q6, q7, q8⟩ := h
  intro i j hi hm hj hb
  by_cases h1 : i < s
  · rw [rot1 f h1]
    by_cases h2 : j < e
    · rw [rot3 f hj h2]; exact q5 _ _ hi (by omega) (by omega)
    · rw [rot4 f q2 q3 (by omega)]; exact q7 i j hi h1 (by omega) hb
  · rw [rot2 f (by omega) hm]
    by_cases h2 : j < e
    · rw [rot3 f hj h2]; exact q8 _ _ (by omega) (by omega) (by omega) (by omega)
    · rw [rot4 f q2 q3 (by omega)]; exact q6 _ _ (by omega) (by omega) hb

theorem Cut.one {f : Nat → Fld} {a m b s e : Nat} (h : Cut f a m b s e) (h1 : Srt (rot f s m e) a (s + (e - m))) (h2 : Srt (rot f s m e) (s + (e - m)) b) : Srt (rot f s m e) a b := Srt.join h1 h2 h.cross

theorem cut_left {f : Nat → Fld} {a b i : Nat} (hi : a + 1 ≤ i) (hb : i ≤ b) (s2 : Srt f (a + 1) b) (h1 : i = a + 1 ∨ (f (i - 1)).tag < (f a).tag) (h2 : i = b ∨ (f a).tag ≤ (f i).tag) : Srt (rot f a (a + 1) i) a b := by
  have hc : Cut f a (a + 1) b a i := ⟨Nat.le_refl _, by omega, hi, hb, fun x y hx hxy hy => by
      have : x = y := by omega
      subst this; exact Int.le_refl _, s2, fun x y hx hs => by omega, fun x y hx hm hy he => by
      have : x = a := by omega
      subst this
      rcases h1 with h | h
      · omega
      · have := s2 y (i - 1) hy (by omega) (by omega); omega⟩
  refine hc.one (hc.left.2) ?_
  refine Srt.join (m := i) hc.right.1 hc.right.2 (fun x y hx hxi hy hyb => ?_)
  rw [rot3 f hx hxi, rot4 f (by omega) hi hy, show x - (i - (a + 1)) = a by omega]
  rcases h2 with h | h
  · omega
  · have := s2 i y hi hy hyb; omega
theorem cut_right {f : Nat → Fld} {a m i : Nat} (hi : a ≤ i) (hm : i ≤ m) (s1 : Srt f a m) (h1 : i = a ∨ (f (i - 1)).tag ≤ (f m).tag) (h2 : i = m ∨ (f m).tag < (f i).tag) : Srt (rot f i m (m + 1)) a (m + 1) := by
  have hc : Cut f a m (m + 1) i (m + 1) := ⟨hi, hm, by omega, Nat.le_refl _, s1, fun x y hx hxy hy => by
      have : x = y := by omega
      subst this; exact Int.le_refl _, fun x y hx hs he hy => by omega, fun x y hx hxm hy he => by
      have : y = m := by omega
      subst this
      rcases h2 with h | h
      · omega
      · have := s1 i x (by omega) (by omega) hxm; omega⟩
  refine hc.one ?_ hc.right.1
  refine Srt.join (m := i) hc.left.1 hc.left.2 (fun x y hx hxi hy hyb => ?_)
  rw [rot1 f hxi, rot2 f hy hyb, show y + (m - i) = m by omega]
  rcases h1 with h | h
  · omega
  · have := s1 x (i - 1) hx (by omega) (by omega); omega
theorem cut_mid {f : Nat → Fld} {a m b s n lo hi : Nat} (s1 : Srt f a m) (s2 : Srt f m b) (hn : n = (a + b) / 2 + m) (h1 : a ≤ lo) (h2 : n ≤ lo + b) (hlo : lo ≤ s) (hhi : s ≤ hi) (h3 : hi ≤ m) (h4 : hi + m ≤ n)
    (hlo2 : lo = a ∨ lo + b = n) (hhi2 : hi = m ∨ hi + m = n) (k1 : s = lo ∨ (f (s - 1)).tag ≤ (f (n - s)).tag) (k2 : s = hi ∨ (f (n - 1 - s)).tag < (f s).tag) : Cut f a m b s (n - s) := by
  refine ⟨by omega, by omega, by omega, by omega, s1, s2, fun i j ha his hej hj => ?_, fun i j hsi him hmj hje => ?_⟩
  · rcases k1 with h | h
    · omega
    · have e1 := s1 i (s - 1) ha (by omega) (by omega)
      have e2 := s2 (n - s) j (by omega) hej hj
      omega
  · rcases k2 with h | h
    · omega
    · have e1 := s1 s i (by omega) hsi him
      have e2 := s2 j (n - 1 - s) hmj (by omega) (by omega)
      omega

theorem halves {f g h : Nat → Fld} {a c b : Nat} (hac : a ≤ c) (hcb : c ≤ b) (hx : ∀ i j, a ≤ i → i < c → c ≤ j → j < b → (f i).tag ≤ (f j).tag)
    (p1 : PermOn a c f g) (s1 : Srt g a c) (p2 : PermOn c b g h) (s2 : Srt h c b) : Srt h a b ∧ PermOn a b f h := by
  refine ⟨Srt.join (m := c) (fun i j hi hij hj => ?_) s2 (fun i j hi h1 h2 hj => ?_), (p1.mono (Nat.le_refl _) hcb).trans (p2.mono hac (Nat.le_refl _))⟩
  · rw [p2.out (by omega), p2.out (by omega)]; exact s1 i j hi hij hj
  · rw [p2.out (by omega)]
    obtain ⟨i', k1, k2, k3⟩ := p1.at_ hi h1
    obtain ⟨j', k4, k5, k6⟩ := p2.at_ h2 hj
    rw [k3, k6, p1.out (i := j') (by omega)]
    exact hx i' j' k1 k2 k4 k5
end Go.Proofs
