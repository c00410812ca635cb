/- Contracts of span: the reader of bytes. -/
import Derived.Test.YtgmdpfoccnalnaaGreatE6
set_option linter.unusedSimpArgs false
set_option linter.unusedVariables false
set_option maxRecDepth 100000
namespace Go.Proofs
open Go.Sy Go.Lib

/-- A reader: its bytes, how many were taken, what was wrong. -/
abbrev rdr (g : Nat) (b : List UInt8) (at_ : Nat) (e : Int) : Abs := boxA g 329 [.s b, I64 (at_ : Nat), I64 e]
def rdAt (at_ k : Nat) (e e2 : Int) : Nat := if e ≠ 0 then at_ else if e2 ≠ 0 then at_ else at_ + k
def rdE (e e2 : Int) : Int := if e ≠ 0 then e else e2
def rdV {α : Type} (z x : α) (e e2 : Int) : α := if e ≠ 0 then z else if e2 ≠ 0 then z else x

theorem takeU_A (g : Nat) (b : List UInt8) (at_ : Nat) (e : Int) (fv : AV) (f : FuncId) (caps : List AV) (k : Nat) (e2 : Int) (x : Int) (hclo : IsClo fv f caps) (himm : fv.imm = true) (hat : at_ ≤ b.length) (hfv : fv = .p (cloRP f caps) ∨ ∃ v, fv = .v v)
    (hf : e = 0 → FnP Tryz.prog f ([.s (b.drop at_)] ++ caps) (· = .tup [U64 x, I64 (k : Nat), I64 e2])) (hk : e = 0 → e2 = 0 → at_ + k ≤ b.length) (hb : b.length ≤ 9223372036854775807) :
    FnA Tryz.prog 227 [PT g 0, fv] [rdr g b at_ e] (fun r cs' => r = U64 (rdV 0 x e e2) ∧ cs' = [rdr g b (rdAt at_ k e e2) (rdE e e2)]) := by
  rcases hfv with rfl | ⟨v, rfl⟩
  · refine FnA.intro Tryz.tabOK Tryz.wide_ Tryz.func227 rfl (by decide) rfl (fun X => ?_)
    repeat (first | refine sc rfl ?_ | refine so rfl ?_ | refine sb rfl ?_)
    refine O_Xd (X_ptrnil Tryz.underlying277 rfl rfl rfl) ?_
    repeat (first | refine sc rfl ?_ | refine so rfl ?_ | refine sb rfl ?_)
    first
      | refine O_loadP 0 (reads_box 2) rfl rfl rfl rfl rfl rfl ?_
      | refine O_loadP 1 (reads_box 2) rfl rfl rfl rfl rfl rfl ?_
      | refine O_loadP 2 (reads_box 2) rfl rfl rfl rfl rfl rfl ?_
      | refine O_loadP 3 (reads_box 2) rfl rfl rfl rfl rfl rfl ?_
      | refine O_loadP 4 (reads_box 2) rfl rfl rfl rfl rfl rfl ?_
    repeat (first | refine sc rfl ?_ | refine so rfl ?_ | refine sb rfl ?_)
    refine C_if rfl (fun h0 => ?_) (fun h0 => ?_) <;> simp only [decide_eq_true_eq, decide_eq_false_iff_not, Bool.not_eq_true', Bool.not_eq_false', beq_iff_eq, beq_eq_false_iff_ne, bne_iff_ne, ne_eq, bne_eq_false_iff_eq, Decidable.not_not] at h0
    · repeat (first | refine sc rfl ?_ | refine so rfl ?_ | refine sb rfl ?_)
      first
        | exact ⟨_, [_], _, rfl, pickA_perm (is := [0]) (As := [_]) rfl, rfl, by unfold rdV; rw [if_pos h0], by unfold rdAt rdE; rw [if_pos h0, if_pos h0]⟩
        | exact ⟨_, [_], _, rfl, pickA_perm (is := [1]) (As := [_]) rfl, rfl, by unfold rdV; rw [if_pos h0], by unfold rdAt rdE; rw [if_pos h0, if_pos h0]⟩
        | exact ⟨_, [_], _, rfl, pickA_perm (is := [2]) (As := [_]) rfl, rfl, by unfold rdV; rw [if_pos h0], by unfold rdAt rdE; rw [if_pos h0, if_pos h0]⟩
        | exact ⟨_, [_], _, rfl, pickA_perm (is := [3]) (As := [_]) rfl, rfl, by unfold rdV; rw [if_pos h0], by unfold rdAt rdE; rw [if_pos h0, if_pos h0]⟩
        | exact ⟨_, [_], _, rfl, pickA_perm (is := [4]) (As := [_]) rfl, rfl, by unfold rdV; rw [if_pos h0], by unfold rdAt rdE; rw [if_pos h0, if_pos h0]⟩
    subst h0
    repeat (first | refine sc rfl ?_ | refine so rfl ?_ | refine sb rfl ?_)
    refine C_drawD rfl (by kernel_rfl) ?_
    repeat (first | refine sd rfl ?_ | refine sdb rfl ?_ | refine sds rfl ?_)
    refine D_X (.s b) (X_loadP 0 (A := rdr g b at_ 0) (reads_box 0) rfl rfl rfl rfl rfl rfl) ?_
    repeat (first | refine sd rfl ?_ | refine sdb rfl ?_ | refine sds rfl ?_)
    refine D_X (I64 (at_ : Nat)) (X_loadP 0 (A := rdr g b at_ 0) (reads_box 1) rfl rfl rfl rfl rfl rfl) ?_
    repeat (first | refine sd rfl ?_ | refine ⟨by omega, ?_⟩)
    rw [Int.toNat_natCast]
    refine D_callV hclo himm (hf rfl) rfl rfl rfl rfl rfl ?_
    repeat (first | refine sd rfl ?_ | refine sdb rfl ?_ | refine sds rfl ?_)
    repeat (first | refine sc rfl ?_ | refine so rfl ?_ | refine sb rfl ?_)
    refine C_if rfl (fun h1 => ?_) (fun h1 => ?_) <;> simp only [decide_eq_true_eq, decide_eq_false_iff_not, Bool.not_eq_true', Bool.not_eq_false', beq_iff_eq, beq_eq_false_iff_ne, bne_iff_ne, ne_eq, bne_eq_false_iff_eq, Decidable.not_not] at h1
    · repeat (first | refine sc rfl ?_ | refine so rfl ?_ | refine sb rfl ?_)
      first
        | refine O_Xn (X_storeP 0 (writes_box (b := g) (t := 329) (cells := [.s b, I64 (at_ : Nat), I64 0]) (by simp)) rfl rfl rfl rfl rfl rfl rfl) ?_
        | refine O_Xn (X_storeP 1 (writes_box (b := g) (t := 329) (cells := [.s b, I64 (at_ : Nat), I64 0]) (by simp)) rfl rfl rfl rfl rfl rfl rfl) ?_
        | refine O_Xn (X_storeP 2 (writes_box (b := g) (t := 329) (cells := [.s b, I64 (at_ : Nat), I64 0]) (by simp)) rfl rfl rfl rfl rfl rfl rfl) ?_
        | refine O_Xn (X_storeP 3 (writes_box (b := g) (t := 329) (cells := [.s b, I64 (at_ : Nat), I64 0]) (by simp)) rfl rfl rfl rfl rfl rfl rfl) ?_
        | refine O_Xn (X_storeP 4 (writes_box (b := g) (t := 329) (cells := [.s b, I64 (at_ : Nat), I64 0]) (by simp)) rfl rfl rfl rfl rfl rfl rfl) ?_
      repeat (first | refine sc rfl ?_ | refine so rfl ?_ | refine sb rfl ?_)
      first
        | exact ⟨_, [_], _, rfl, pickA_perm (is := [0]) (As := [_]) rfl, rfl, by unfold rdV; rw [if_neg (by decide), if_pos h1], by unfold rdAt rdE; rw [if_neg (by decide), if_pos h1, if_neg (by decide)]; rfl⟩
        | exact ⟨_, [_], _, rfl, pickA_perm (is := [1]) (As := [_]) rfl, rfl, by unfold rdV; rw [if_neg (by decide), if_pos h1], by unfold rdAt rdE; rw [if_neg (by decide), if_pos h1, if_neg (by decide)]; rfl⟩
        | exact ⟨_, [_], _, rfl, pickA_perm (is := [2]) (As := [_]) rfl, rfl, by unfold rdV; rw [if_neg (by decide), if_pos h1], by unfold rdAt rdE; rw [if_neg (by decide), if_pos h1, if_neg (by decide)]; rfl⟩
        | exact ⟨_, [_], _, rfl, pickA_perm (is := [3]) (As := [_]) rfl, rfl, by unfold rdV; rw [if_neg (by decide), if_pos h1], by unfold rdAt rdE; rw [if_neg (by decide), if_pos h1, if_neg (by decide)]; rfl⟩
        | exact ⟨_, [_], _, rfl, pickA_perm (is := [4]) (As := [_]) rfl, rfl, by unfold rdV; rw [if_neg (by decide), if_pos h1], by unfold rdAt rdE; rw [if_neg (by decide), if_pos h1, if_neg (by decide)]; rfl⟩
    · subst h1
      have hk' := hk rfl rfl
      repeat (first | refine sc rfl ?_ | refine so rfl ?_ | refine sb rfl ?_)
      first
        | refine O_loadP 0 (reads_box 1) rfl rfl rfl rfl rfl rfl ?_
        | refine O_loadP 1 (reads_box 1) rfl rfl rfl rfl rfl rfl ?_
        | refine O_loadP 2 (reads_box 1) rfl rfl rfl rfl rfl rfl ?_
        | refine O_loadP 3 (reads_box 1) rfl rfl rfl rfl rfl rfl ?_
        | refine O_loadP 4 (reads_box 1) rfl rfl rfl rfl rfl rfl ?_
      repeat (first | refine sc rfl ?_ | refine so rfl ?_ | refine sb rfl ?_)
      rw [w64 (x := (at_ : Int) + (k : Int)) (by omega) (by omega)]
      first
        | refine O_Xn (X_storeP 0 (writes_box (b := g) (t := 329) (cells := [.s b, I64 (at_ : Nat), I64 0]) (by simp)) rfl rfl rfl rfl rfl rfl rfl) ?_
        | refine O_Xn (X_storeP 1 (writes_box (b := g) (t := 329) (cells := [.s b, I64 (at_ : Nat), I64 0]) (by simp)) rfl rfl rfl rfl rfl rfl rfl) ?_
        | refine O_Xn (X_storeP 2 (writes_box (b := g) (t := 329) (cells := [.s b, I64 (at_ : Nat), I64 0]) (by simp)) rfl rfl rfl rfl rfl rfl rfl) ?_
        | refine O_Xn (X_storeP 3 (writes_box (b := g) (t := 329) (cells := [.s b, I64 (at_ : Nat), I64 0]) (by simp)) rfl rfl rfl rfl rfl rfl rfl) ?_
        | refine O_Xn (X_storeP 4 (writes_box (b := g) (t := 329) (cells := [.s b, I64 (at_ : Nat), I64 0]) (by simp)) rfl rfl rfl rfl rfl rfl rfl) ?_
      repeat (first | refine sc rfl ?_ | refine so rfl ?_ | refine sb rfl ?_)
      first
        | exact ⟨_, [_], _, rfl, pickA_perm (is := [0]) (As := [_]) rfl, rfl, by unfold rdV; rw [if_neg (by decide), if_neg (by decide)], by unfold rdAt rdE; rw [if_neg (by decide), if_neg (by decide), if_neg (by decide)]; rfl⟩
        | exact ⟨_, [_], _, rfl, pickA_perm (is := [1]) (As := [_]) rfl, rfl, by unfold rdV; rw [if_neg (by decide), if_neg (by decide)], by unfold rdAt rdE; rw [if_neg (by decide), if_neg (by decide), if_neg (by decide)]; rfl⟩
        | exact ⟨_, [_], _, rfl, pickA_perm (is := [2]) (As := [_]) rfl, rfl, by unfold rdV; rw [if_neg (by decide), if_neg (by decide)], by unfold rdAt rdE; rw [if_neg (by decide), if_neg (by decide), if_neg (by decide)]; rfl⟩
        | exact ⟨_, [_], _, rfl, pickA_perm (is := [3]) (As := [_]) rfl, rfl, by unfold rdV; rw [if_neg (by decide), if_neg (by decide)], by unfold rdAt rdE; rw [if_neg (by decide), if_neg (by decide), if_neg (by decide)]; rfl⟩
        | exact ⟨_, [_], _, rfl, pickA_perm (is := [4]) (As := [_]) rfl, rfl, by unfold rdV; rw [if_neg (by decide), if_neg (by decide)], by unfold rdAt rdE; rw [if_neg (by decide), if_neg (by decide), if_neg (by decide)]; rfl⟩
  · refine FnA.intro Tryz.tabOK Tryz.wide_ Tryz.func227 rfl (by decide) rfl (fun X => ?_)
    repeat (first | refine sc rfl ?_ | refine so rfl ?_ | refine sb rfl ?_)
    refine O_Xd (X_ptrnil Tryz.underlying277 rfl rfl rfl) ?_
    repeat (first | refine sc rfl ?_ | refine so rfl ?_ | refine sb rfl ?_)
    first
      | refine O_loadP 0 (reads_box 2) rfl rfl rfl rfl rfl rfl ?_
      | refine O_loadP 1 (reads_box 2) rfl rfl rfl rfl rfl rfl ?_
      | refine O_loadP 2 (reads_box 2) rfl rfl rfl rfl rfl rfl ?_
      | refine O_loadP 3 (reads_box 2) rfl rfl rfl rfl rfl rfl ?_
      | refine O_loadP 4 (reads_box 2) rfl rfl rfl rfl rfl rfl ?_
    repeat (first | refine sc rfl ?_ | refine so rfl ?_ | refine sb rfl ?_)
    refine C_if rfl (fun h0 => ?_) (fun h0 => ?_) <;> simp only [decide_eq_true_eq, decide_eq_false_iff_not, Bool.not_eq_true', Bool.not_eq_false', beq_iff_eq, beq_eq_false_iff_ne, bne_iff_ne, ne_eq, bne_eq_false_iff_eq, Decidable.not_not] at h0
    · repeat (first | refine sc rfl ?_ | refine so rfl ?_ | refine sb rfl ?_)
      first
        | exact ⟨_, [_], _, rfl, pickA_perm (is := [0]) (As := [_]) rfl, rfl, by unfold rdV; rw [if_pos h0], by unfold rdAt rdE; rw [if_pos h0, if_pos h0]⟩
        | exact ⟨_, [_], _, rfl, pickA_perm (is := [1]) (As := [_]) rfl, rfl, by unfold rdV; rw [if_pos h0], by unfold rdAt rdE; rw [if_pos h0, if_pos h0]⟩
        | exact ⟨_, [_], _, rfl, pickA_perm (is := [2]) (As := [_]) rfl, rfl, by unfold rdV; rw [if_pos h0], by unfold rdAt rdE; rw [if_pos h0, if_pos h0]⟩
        | exact ⟨_, [_], _, rfl, pickA_perm (is := [3]) (As := [_]) rfl, rfl, by unfold rdV; rw [if_pos h0], by unfold rdAt rdE; rw [if_pos h0, if_pos h0]⟩
        | exact ⟨_, [_], _, rfl, pickA_perm (is := [4]) (As := [_]) rfl, rfl, by unfold rdV; rw [if_pos h0], by unfold rdAt rdE; rw [if_pos h0, if_pos h0]⟩
    subst h0
    repeat (first | refine sc rfl ?_ | refine so rfl ?_ | refine sb rfl ?_)
    refine C_drawD rfl (by kernel_rfl) ?_
    repeat (first | refine sd rfl ?_ | refine sdb rfl ?_ | refine sds rfl ?_)
    refine D_X (.s b) (X_loadP 0 (A := rdr g b at_ 0) (reads_box 0) rfl rfl rfl rfl rfl rfl) ?_
    repeat (first | refine sd rfl ?_ | refine sdb rfl ?_ | refine sds rfl ?_)
    refine D_X (I64 (at_ : Nat)) (X_loadP 0 (A := rdr g b at_ 0) (reads_box 1) rfl rfl rfl rfl rfl rfl) ?_
    repeat (first | refine sd rfl ?_ | refine ⟨by omega, ?_⟩)
    rw [Int.toNat_natCast]
    refine D_callV hclo himm (hf rfl) rfl rfl rfl rfl rfl ?_
    repeat (first | refine sd rfl ?_ | refine sdb rfl ?_ | refine sds rfl ?_)
    repeat (first | refine sc rfl ?_ | refine so rfl ?_ | refine sb rfl ?_)
    refine C_if rfl (fun h1 => ?_) (fun h1 => ?_) <;> simp only [decide_eq_true_eq, decide_eq_false_iff_not, Bool.not_eq_true', Bool.not_eq_false', beq_iff_eq, beq_eq_false_iff_ne, bne_iff_ne, ne_eq, bne_eq_false_iff_eq, Decidable.not_not] at h1
    · repeat (first | refine sc rfl ?_ | refine so rfl ?_ | refine sb rfl ?_)
      first
        | refine O_Xn (X_storeP 0 (writes_box (b := g) (t := 329) (cells := [.s b, I64 (at_ : Nat), I64 0]) (by simp)) rfl rfl rfl rfl rfl rfl rfl) ?_
        | refine O_Xn (X_storeP 1 (writes_box (b := g) (t := 329) (cells := [.s b, I64 (at_ : Nat), I64 0]) (by simp)) rfl rfl rfl rfl rfl rfl rfl) ?_
        | refine O_Xn (X_storeP 2 (writes_box (b := g) (t := 329) (cells := [.s b, I64 (at_ : Nat), I64 0]) (by simp)) rfl rfl rfl rfl rfl rfl rfl) ?_
        | refine O_Xn (X_storeP 3 (writes_box (b := g) (t := 329) (cells := [.s b, I64 (at_ : Nat), I64 0]) (by simp)) rfl rfl rfl rfl rfl rfl rfl) ?_
        | refine O_Xn (X_storeP 4 (writes_box (b := g) (t := 329) (cells := [.s b, I64 (at_ : Nat), I64 0]) (by simp)) rfl rfl rfl rfl rfl rfl rfl) ?_
      repeat (first | refine sc rfl ?_ | refine so rfl ?_ | refine sb rfl ?_)
      first
        | exact ⟨_, [_], _, rfl, pickA_perm (is := [0]) (As := [_]) rfl, rfl, by unfold rdV; rw [if_neg (by decide), if_pos h1], by unfold rdAt rdE; rw [if_neg (by decide), if_pos h1, if_neg (by decide)]; rfl⟩
        | exact ⟨_, [_], _, rfl, pickA_perm (is := [1]) (As := [_]) rfl, rfl, by unfold rdV; rw [if_neg (by decide), if_pos h1], by unfold rdAt rdE; rw [if_neg (by decide), if_pos h1, if_neg (by decide)]; rfl⟩
        | exact ⟨_, [_], _, rfl, pickA_perm (is := [2]) (As := [_]) rfl, rfl, by unfold rdV; rw [if_neg (by decide), if_pos h1], by unfold rdAt rdE; rw [if_neg (by decide), if_pos h1, if_neg (by decide)]; rfl⟩
        | exact ⟨_, [_], _, rfl, pickA_perm (is := [3]) (As := [_]) rfl, rfl, by unfold rdV; rw [if_neg (by decide), if_pos h1], by unfold rdAt rdE; rw [if_neg (by decide), if_pos h1, if_neg (by decide)]; rfl⟩
        | exact ⟨_, [_], _, rfl, pickA_perm (is := [4]) (As := [_]) rfl, rfl, by unfold rdV; rw [if_neg (by decide), if_pos h1], by unfold rdAt rdE; rw [if_neg (by decide), if_pos h1, if_neg (by decide)]; rfl⟩
    · subst h1
      have hk' := hk rfl rfl
      repeat (first | refine sc rfl ?_ | refine so rfl ?_ | refine sb rfl ?_)
      first
        | refine O_loadP 0 (reads_box 1) rfl rfl rfl rfl rfl rfl ?_
        | refine O_loadP 1 (reads_box 1) rfl rfl rfl rfl rfl rfl ?_
        | refine O_loadP 2 (reads_box 1) rfl rfl rfl rfl rfl rfl ?_
        | refine O_loadP 3 (reads_box 1) rfl rfl rfl rfl rfl rfl ?_
        | refine O_loadP 4 (reads_box 1) rfl rfl rfl rfl rfl rfl ?_
      repeat (first | refine sc rfl ?_ | refine so rfl ?_ | refine sb rfl ?_)
      rw [w64 (x := (at_ : Int) + (k : Int)) (by omega) (by omega)]
      first
        | refine O_Xn (X_storeP 0 (writes_box (b := g) (t := 329) (cells := [.s b, I64 (at_ : Nat), I64 0]) (by simp)) rfl rfl rfl rfl rfl rfl rfl) ?_
        | refine O_Xn (X_storeP 1 (writes_box (b := g) (t := 329) (cells := [.s b, I64 (at_ : Nat), I64 0]) (by simp)) rfl rfl rfl rfl rfl rfl rfl) ?_
        | refine O_Xn (X_storeP 2 (writes_box (b := g) (t := 329) (cells := [.s b, I64 (at_ : Nat), I64 0]) (by simp)) rfl rfl rfl rfl rfl rfl rfl) ?_
        | refine O_Xn (X_storeP 3 (writes_box (b := g) (t := 329) (cells := [.s b, I64 (at_ : Nat), I64 0]) (by simp)) rfl rfl rfl rfl rfl rfl rfl) ?_
        | refine O_Xn (X_storeP 4 (writes_box (b := g) (t := 329) (cells := [.s b, I64 (at_ : Nat), I64 0]) (by simp)) rfl rfl rfl rfl rfl rfl rfl) ?_
      repeat (first | refine sc rfl ?_ | refine so rfl ?_ | refine sb rfl ?_)
      first
        | exact ⟨_, [_], _, rfl, pickA_perm (is := [0]) (As := [_]) rfl, rfl, by unfold rdV; rw [if_neg (by decide), if_neg (by decide)], by unfold rdAt rdE; rw [if_neg (by decide), if_neg (by decide), if_neg (by decide)]; rfl⟩
        | exact ⟨_, [_], _, rfl, pickA_perm (is := [1]) (As := [_]) rfl, rfl, by unfold rdV; rw [if_neg (by decide), if_neg (by decide)], by unfold rdAt rdE; rw [if_neg (by decide), if_neg (by decide), if_neg (by decide)]; rfl⟩
        | exact ⟨_, [_], _, rfl, pickA_perm (is := [2]) (As := [_]) rfl, rfl, by unfold rdV; rw [if_neg (by decide), if_neg (by decide)], by unfold rdAt rdE; rw [if_neg (by decide), if_neg (by decide), if_neg (by decide)]; rfl⟩
        | exact ⟨_, [_], _, rfl, pickA_perm (is := [3]) (As := [_]) rfl, rfl, by unfold rdV; rw [if_neg (by decide), if_neg (by decide)], by unfold rdAt rdE; rw [if_neg (by decide), if_neg (by decide), if_neg (by decide)]; rfl⟩
        | exact ⟨_, [_], _, rfl, pickA_perm (is := [4]) (As := [_]) rfl, rfl, by unfold rdV; rw [if_neg (by decide), if_neg (by decide)], by unfold rdAt rdE; rw [if_neg (by decide), if_neg (by decide), if_neg (by decide)]; rfl⟩

theorem takeI_A (g : Nat) (b : List UInt8) (at_ : Nat) (e : Int) (fv : AV) (f : FuncId) (caps : List AV) (k : Nat) (e2 : Int) (x : Int) (hclo : IsClo fv f caps) (himm : fv.imm = true) (hat : at_ ≤ b.length) (hfv : fv = .p (cloRP f caps) ∨ ∃ v, fv = .v v)
    (hf : e = 0 → FnP Tryz.prog f ([.s (b.drop at_)] ++ caps) (· = .tup [I64 x, I64 (k : Nat), I64 e2])) (hk : e = 0 → e2 = 0 → at_ + k ≤ b.length) (hb : b.length ≤ 9223372036854775807) :
    FnA Tryz.prog 229 [PT g 0, fv] [rdr g b at_ e] (fun r cs' => r = I64 (rdV 0 x e e2) ∧ cs' = [rdr g b (rdAt at_ k e e2) (rdE e e2)]) := by
  rcases hfv with rfl | ⟨v, rfl⟩
  · refine FnA.intro Tryz.tabOK Tryz.wide_ Tryz.func229 rfl (by decide) rfl (fun X => ?_)
    repeat (first | refine sc rfl ?_ | refine so rfl ?_ | refine sb rfl ?_)
    refine O_Xd (X_ptrnil Tryz.underlying277 rfl rfl rfl) ?_
    repeat (first | refine sc rfl ?_ | refine so rfl ?_ | refine sb rfl ?_)
    first
      | refine O_loadP 0 (reads_box 2) rfl rfl rfl rfl rfl rfl ?_
      | refine O_loadP 1 (reads_box 2) rfl rfl rfl rfl rfl rfl ?_
      | refine O_loadP 2 (reads_box 2) rfl rfl rfl rfl rfl rfl ?_
      | refine O_loadP 3 (reads_box 2) rfl rfl rfl rfl rfl rfl ?_
      | refine O_loadP 4 (reads_box 2) rfl rfl rfl rfl rfl rfl ?_
    repeat (first | refine sc rfl ?_ | refine so rfl ?_ | refine sb rfl ?_)
    refine C_if rfl (fun h0 => ?_) (fun h0 => ?_) <;> simp only [decide_eq_true_eq, decide_eq_false_iff_not, Bool.not_eq_true', Bool.not_eq_false', beq_iff_eq, beq_eq_false_iff_ne, bne_iff_ne, ne_eq, bne_eq_false_iff_eq, Decidable.not_not] at h0
    · repeat (first | refine sc rfl ?_ | refine so rfl ?_ | refine sb rfl ?_)
      first
        | exact ⟨_, [_], _, rfl, pickA_perm (is := [0]) (As := [_]) rfl, rfl, by unfold rdV; rw [if_pos h0], by unfold rdAt rdE; rw [if_pos h0, if_pos h0]⟩
        | exact ⟨_, [_], _, rfl, pickA_perm (is := [1]) (As := [_]) rfl, rfl, by unfold rdV; rw [if_pos h0], by unfold rdAt rdE; rw [if_pos h0, if_pos h0]⟩
        | exact ⟨_, [_], _, rfl, pickA_perm (is := [2]) (As := [_]) rfl, rfl, by unfold rdV; rw [if_pos h0], by unfold rdAt rdE; rw [if_pos h0, if_pos h0]⟩
        | exact ⟨_, [_], _, rfl, pickA_perm (is := [3]) (As := [_]) rfl, rfl, by unfold rdV; rw [if_pos h0], by unfold rdAt rdE; rw [if_pos h0, if_pos h0]⟩
        | exact ⟨_, [_], _, rfl, pickA_perm (is := [4]) (As := [_]) rfl, rfl, by unfold rdV; rw [if_pos h0], by unfold rdAt rdE; rw [if_pos h0, if_pos h0]⟩
    subst h0
    repeat (first | refine sc rfl ?_ | refine so rfl ?_ | refine sb rfl ?_)
    refine C_drawD rfl (by kernel_rfl) ?_
    repeat (first | refine sd rfl ?_ | refine sdb rfl ?_ | refine sds rfl ?_)
    refine D_X (.s b) (X_loadP 0 (A := rdr g b at_ 0) (reads_box 0) rfl rfl rfl rfl rfl rfl) ?_
    repeat (first | refine sd rfl ?_ | refine sdb rfl ?_ | refine sds rfl ?_)
    refine D_X (I64 (at_ : Nat)) (X_loadP 0 (A := rdr g b at_ 0) (reads_box 1) rfl rfl rfl rfl rfl rfl) ?_
    repeat (first | refine sd rfl ?_ | refine ⟨by omega, ?_⟩)
    rw [Int.toNat_natCast]
    refine D_callV hclo himm (hf rfl) rfl rfl rfl rfl rfl ?_
    repeat (first | refine sd rfl ?_ | refine sdb rfl ?_ | refine sds rfl ?_)
    repeat (first | refine sc rfl ?_ | refine so rfl ?_ | refine sb rfl ?_)
    refine C_if rfl (fun h1 => ?_) (fun h1 => ?_) <;> simp only [decide_eq_true_eq, decide_eq_false_iff_not, Bool.not_eq_true', Bool.not_eq_false', beq_iff_eq, beq_eq_false_iff_ne, bne_iff_ne, ne_eq, bne_eq_false_iff_eq, Decidable.not_not] at h1
    · repeat (first | refine sc rfl ?_ | refine so rfl ?_ | refine sb rfl ?_)
      first
        | refine O_Xn (X_storeP 0 (writes_box (b := g) (t := 329) (cells := [.s b, I64 (at_ : Nat), I64 0]) (by simp)) rfl rfl rfl rfl rfl rfl rfl) ?_
        | refine O_Xn (X_storeP 1 (writes_box (b := g) (t := 329) (cells := [.s b, I64 (at_ : Nat), I64 0]) (by simp)) rfl rfl rfl rfl rfl rfl rfl) ?_
        | refine O_Xn (X_storeP 2 (writes_box (b := g) (t := 329) (cells := [.s b, I64 (at_ : Nat), I64 0]) (by simp)) rfl rfl rfl rfl rfl rfl rfl) ?_
        | refine O_Xn (X_storeP 3 (writes_box (b := g) (t := 329) (cells := [.s b, I64 (at_ : Nat), I64 0]) (by simp)) rfl rfl rfl rfl rfl rfl rfl) ?_
        | refine O_Xn (X_storeP 4 (writes_box (b := g) (t := 329) (cells := [.s b, I64 (at_ : Nat), I64 0]) (by simp)) rfl rfl rfl rfl rfl rfl rfl) ?_
      repeat (first | refine sc rfl ?_ | refine so rfl ?_ | refine sb rfl ?_)
      first
        | exact ⟨_, [_], _, rfl, pickA_perm (is := [0]) (As := [_]) rfl, rfl, by unfold rdV; rw [if_neg (by decide), if_pos h1], by unfold rdAt rdE; rw [if_neg (by decide), if_pos h1, if_neg (by decide)]; rfl⟩
        | exact ⟨_, [_], _, rfl, pickA_perm (is := [1]) (As := [_]) rfl, rfl, by unfold rdV; rw [if_neg (by decide), if_pos h1], by unfold rdAt rdE; rw [if_neg (by decide), if_pos h1, if_neg (by decide)]; rfl⟩
        | exact ⟨_, [_], _, rfl, pickA_perm (is := [2]) (As := [_]) rfl, rfl, by unfold rdV; rw [if_neg (by decide), if_pos h1], by unfold rdAt rdE; rw [if_neg (by decide), if_pos h1, if_neg (by decide)]; rfl⟩
        | exact ⟨_, [_], _, rfl, pickA_perm (is := [3]) (As := [_]) rfl, rfl, by unfold rdV; rw [if_neg (by decide), if_pos h1], by unfold rdAt rdE; rw [if_neg (by decide), if_pos h1, if_neg (by decide)]; rfl⟩
        | exact ⟨_, [_], _, rfl, pickA_perm (is := [4]) (As := [_]) rfl, rfl, by unfold rdV; rw [if_neg (by decide), if_pos h1], by unfold rdAt rdE; rw [if_neg (by decide), if_pos h1, if_neg (by decide)]; rfl⟩
    · subst h1
      have hk' := hk rfl rfl
      repeat (first | refine sc rfl ?_ | refine so rfl ?_ | refine sb rfl ?_)
      first
        | refine O_loadP 0 (reads_box 1) rfl rfl rfl rfl rfl rfl ?_
        | refine O_loadP 1 (reads_box 1) rfl rfl rfl rfl rfl rfl ?_
        | refine O_loadP 2 (reads_box 1) rfl rfl rfl rfl rfl rfl ?_
        | refine O_loadP 3 (reads_box 1) rfl rfl rfl rfl rfl rfl ?_
        | refine O_loadP 4 (reads_box 1) rfl rfl rfl rfl rfl rfl ?_
      repeat (first | refine sc rfl ?_ | refine so rfl ?_ | refine sb rfl ?_)
      rw [w64 (x := (at_ : Int) + (k : Int)) (by omega) (by omega)]
      first
        | refine O_Xn (X_storeP 0 (writes_box (b := g) (t := 329) (cells := [.s b, I64 (at_ : Nat), I64 0]) (by simp)) rfl rfl rfl rfl rfl rfl rfl) ?_
        | refine O_Xn (X_storeP 1 (writes_box (b := g) (t := 329) (cells := [.s b, I64 (at_ : Nat), I64 0]) (by simp)) rfl rfl rfl rfl rfl rfl rfl) ?_
        | refine O_Xn (X_storeP 2 (writes_box (b := g) (t := 329) (cells := [.s b, I64 (at_ : Nat), I64 0]) (by simp)) rfl rfl rfl rfl rfl rfl rfl) ?_
        | refine O_Xn (X_storeP 3 (writes_box (b := g) (t := 329) (cells := [.s b, I64 (at_ : Nat), I64 0]) (by simp)) rfl rfl rfl rfl rfl rfl rfl) ?_
        | refine O_Xn (X_storeP 4 (writes_box (b := g) (t := 329) (cells := [.s b, I64 (at_ : Nat), I64 0]) (by simp)) rfl rfl rfl rfl rfl rfl rfl) ?_
      repeat (first | refine sc rfl ?_ | refine so rfl ?_ | refine sb rfl ?_)
      first
        | exact ⟨_, [_], _, rfl, pickA_perm (is := [0]) (As := [_]) rfl, rfl, by unfold rdV; rw [if_neg (by decide), if_neg (by decide)], by unfold rdAt rdE; rw [if_neg (by decide), if_neg (by decide), if_neg (by decide)]; rfl⟩
        | exact ⟨_, [_], _, rfl, pickA_perm (is := [1]) (As := [_]) rfl, rfl, by unfold rdV; rw [if_neg (by decide), if_neg (by decide)], by unfold rdAt rdE; rw [if_neg (by decide), if_neg (by decide), if_neg (by decide)]; rfl⟩
        | exact ⟨_, [_], _, rfl, pickA_perm (is := [2]) (As := [_]) rfl, rfl, by unfold rdV; rw [if_neg (by decide), if_neg (by decide)], by unfold rdAt rdE; rw [if_neg (by decide), if_neg (by decide), if_neg (by decide)]; rfl⟩
        | exact ⟨_, [_], _, rfl, pickA_perm (is := [3]) (As := [_]) rfl, rfl, by unfold rdV; rw [if_neg (by decide), if_neg (by decide)], by unfold rdAt rdE; rw [if_neg (by decide), if_neg (by decide), if_neg (by decide)]; rfl⟩
        | exact ⟨_, [_], _, rfl, pickA_perm (is := [4]) (As := [_]) rfl, rfl, by unfold rdV; rw [if_neg (by decide), if_neg (by decide)], by unfold rdAt rdE; rw [if_neg (by decide), if_neg (by decide), if_neg (by decide)]; rfl⟩
  · refine FnA.intro Tryz.tabOK Tryz.wide_ Tryz.func229 rfl (by decide) rfl (fun X => ?_)
    repeat (first | refine sc rfl ?_ | refine so rfl ?_ | refine sb rfl ?_)
    refine O_Xd (X_ptrnil Tryz.underlying277 rfl rfl rfl) ?_
    repeat (first | refine sc rfl ?_ | refine so rfl ?_ | refine sb rfl ?_)
    first
      | refine O_loadP 0 (reads_box 2) rfl rfl rfl rfl rfl rfl ?_
      | refine O_loadP 1 (reads_box 2) rfl rfl rfl rfl rfl rfl ?_
      | refine O_loadP 2 (reads_box 2) rfl rfl rfl rfl rfl rfl ?_
      | refine O_loadP 3 (reads_box 2) rfl rfl rfl rfl rfl rfl ?_
      | refine O_loadP 4 (reads_box 2) rfl rfl rfl rfl rfl rfl ?_
    repeat (first | refine sc rfl ?_ | refine so rfl ?_ | refine sb rfl ?_)
    refine C_if rfl (fun h0 => ?_) (fun h0 => ?_) <;> simp only [decide_eq_true_eq, decide_eq_false_iff_not, Bool.not_eq_true', Bool.not_eq_false', beq_iff_eq, beq_eq_false_iff_ne, bne_iff_ne, ne_eq, bne_eq_false_iff_eq, Decidable.not_not] at h0
    · repeat (first | refine sc rfl ?_ | refine so rfl ?_ | refine sb rfl ?_)
      first
        | exact ⟨_, [_], _, rfl, pickA_perm (is := [0]) (As := [_]) rfl, rfl, by unfold rdV; rw [if_pos h0], by unfold rdAt rdE; rw [if_pos h0, if_pos h0]⟩
        | exact ⟨_, [_], _, rfl, pickA_perm (is := [1]) (As := [_]) rfl, rfl, by unfold rdV; rw [if_pos h0], by unfold rdAt rdE; rw [if_pos h0, if_pos h0]⟩
        | exact ⟨_, [_], _, rfl, pickA_perm (is := [2]) (As := [_]) rfl, rfl, by unfold rdV; rw [if_pos h0], by unfold rdAt rdE; rw [if_pos h0, if_pos h0]⟩
        | exact ⟨_, [_], _, rfl, pickA_perm (is := [3]) (As := [_]) rfl, rfl, by unfold rdV; rw [if_pos h0], by unfold rdAt rdE; rw [if_pos h0, if_pos h0]⟩
        | exact ⟨_, [_], _, rfl, pickA_perm (is := [4]) (As := [_]) rfl, rfl, by unfold rdV; rw [if_pos h0], by unfold rdAt rdE; rw [if_pos h0, if_pos h0]⟩
    subst h0
    repeat (first | refine sc rfl ?_ | refine so rfl ?_ | refine sb rfl ?_)
    refine C_drawD rfl (by kernel_rfl) ?_
    repeat (first | refine sd rfl ?_ | refine sdb rfl ?_ | refine sds rfl ?_)
    refine D_X (.s b) (X_loadP 0 (A := rdr g b at_ 0) (reads_box 0) rfl rfl rfl rfl rfl rfl) ?_
    repeat (first | refine sd rfl ?_ | refine sdb rfl ?_ | refine sds rfl ?_)
    refine D_X (I64 (at_ : Nat)) (X_loadP 0 (A := rdr g b at_ 0) (reads_box 1) rfl rfl rfl rfl rfl rfl) ?_
    repeat (first | refine sd rfl ?_ | refine ⟨by omega, ?_⟩)
    rw [Int.toNat_natCast]
    refine D_callV hclo himm (hf rfl) rfl rfl rfl rfl rfl ?_
    repeat (first | refine sd rfl ?_ | refine sdb rfl ?_ | refine sds rfl ?_)
    repeat (first | refine sc rfl ?_ | refine so rfl ?_ | refine sb rfl ?_)
    refine C_if rfl (fun h1 => ?_) (fun h1 => ?_) <;> simp only [decide_eq_true_eq, decide_eq_false_iff_not, Bool.not_eq_true', Bool.not_eq_false', beq_iff_eq, beq_eq_false_iff_ne, bne_iff_ne, ne_eq, bne_eq_false_iff_eq, Decidable.not_not] at h1
    · repeat (first | refine sc rfl ?_ | refine so rfl ?_ | refine sb rfl ?_)
      first
        | refine O_Xn (X_storeP 0 (writes_box (b := g) (t := 329) (cells := [.s b, I64 (at_ : Nat), I64 0]) (by simp)) rfl rfl rfl rfl rfl rfl rfl) ?_
        | refine O_Xn (X_storeP 1 (writes_box (b := g) (t := 329) (cells := [.s b, I64 (at_ : Nat), I64 0]) (by simp)) rfl rfl rfl rfl rfl rfl rfl) ?_
        | refine O_Xn (X_storeP 2 (writes_box (b := g) (t := 329) (cells := [.s b, I64 (at_ : Nat), I64 0]) (by simp)) rfl rfl rfl rfl rfl rfl rfl) ?_
        | refine O_Xn (X_storeP 3 (writes_box (b := g) (t := 329) (cells := [.s b, I64 (at_ : Nat), I64 0]) (by simp)) rfl rfl rfl rfl rfl rfl rfl) ?_
        | refine O_Xn (X_storeP 4 (writes_box (b := g) (t := 329) (cells := [.s b, I64 (at_ : Nat), I64 0]) (by simp)) rfl rfl rfl rfl rfl rfl rfl) ?_
      repeat (first | refine sc rfl ?_ | refine so rfl ?_ | refine sb rfl ?_)
      first
        | exact ⟨_, [_], _, rfl, pickA_perm (is := [0]) (As := [_]) rfl, rfl, by unfold rdV; rw [if_neg (by decide), if_pos h1], by unfold rdAt rdE; rw [if_neg (by decide), if_pos h1, if_neg (by decide)]; rfl⟩
        | exact ⟨_, [_], _, rfl, pickA_perm (is := [1]) (As := [_]) rfl, rfl, by unfold rdV; rw [if_neg (by decide), if_pos h1], by unfold rdAt rdE; rw [if_neg (by decide), if_pos h1, if_neg (by decide)]; rfl⟩
        | exact ⟨_, [_], _, rfl, pickA_perm (is := [2]) (As := [_]) rfl, rfl, by unfold rdV; rw [if_neg (by decide), if_pos h1], by unfold rdAt rdE; rw [if_neg (by decide), if_pos h1, if_neg (by decide)]; rfl⟩
        | exact ⟨_, [_], _, rfl, pickA_perm (is := [3]) (As := [_]) rfl, rfl, by unfold rdV; rw [if_neg (by decide), if_pos h1], by unfold rdAt rdE; rw [if_neg (by decide), if_pos h1, if_neg (by decide)]; rfl⟩
        | exact ⟨_, [_], _, rfl, pickA_perm (is := [4]) (As := [_]) rfl, rfl, by unfold rdV; rw [if_neg (by decide), if_pos h1], by unfold rdAt rdE; rw [if_neg (by decide), if_pos h1, if_neg (by decide)]; rfl⟩
    · subst h1
      have hk' := hk rfl rfl
      repeat (first | refine sc rfl ?_ | refine so rfl ?_ | refine sb rfl ?_)
      first
        | refine O_loadP 0 (reads_box 1) rfl rfl rfl rfl rfl rfl ?_
        | refine O_loadP 1 (reads_box 1) rfl rfl rfl rfl rfl rfl ?_
        | refine O_loadP 2 (reads_box 1) rfl rfl rfl rfl rfl rfl ?_
        | refine O_loadP 3 (reads_box 1) rfl rfl rfl rfl rfl rfl ?_
        | refine O_loadP 4 (reads_box 1) rfl rfl rfl rfl rfl rfl ?_
      repeat (first | refine sc rfl ?_ | refine so rfl ?_ | refine sb rfl ?_)
      rw [w64 (x := (at_ : Int) + (k : Int)) (by omega) (by omega)]
      first
        | refine O_Xn (X_storeP 0 (writes_box (b := g) (t := 329) (cells := [.s b, I64 (at_ : Nat), I64 0]) (by simp)) rfl rfl rfl rfl rfl rfl rfl) ?_
        | refine O_Xn (X_storeP 1 (writes_box (b := g) (t := 329) (cells := [.s b, I64 (at_ : Nat), I64 0]) (by simp)) rfl rfl rfl rfl rfl rfl rfl) ?_
        | refine O_Xn (X_storeP 2 (writes_box (b := g) (t := 329) (cells := [.s b, I64 (at_ : Nat), I64 0]) (by simp)) rfl rfl rfl rfl rfl rfl rfl) ?_
        | refine O_Xn (X_storeP 3 (writes_box (b := g) (t := 329) (cells := [.s b, I64 (at_ : Nat), I64 0]) (by simp)) rfl rfl rfl rfl rfl rfl rfl) ?_
        | refine O_Xn (X_storeP 4 (writes_box (b := g) (t := 329) (cells := [.s b, I64 (at_ : Nat), I64 0]) (by simp)) rfl rfl rfl rfl rfl rfl rfl) ?_
      repeat (first | refine sc rfl ?_ | refine so rfl ?_ | refine sb rfl ?_)
      first
        | exact ⟨_, [_], _, rfl, pickA_perm (is := [0]) (As := [_]) rfl, rfl, by unfold rdV; rw [if_neg (by decide), if_neg (by decide)], by unfold rdAt rdE; rw [if_neg (by decide), if_neg (by decide), if_neg (by decide)]; rfl⟩
        | exact ⟨_, [_], _, rfl, pickA_perm (is := [1]) (As := [_]) rfl, rfl, by unfold rdV; rw [if_neg (by decide), if_neg (by decide)], by unfold rdAt rdE; rw [if_neg (by decide), if_neg (by decide), if_neg (by decide)]; rfl⟩
        | exact ⟨_, [_], _, rfl, pickA_perm (is := [2]) (As := [_]) rfl, rfl, by unfold rdV; rw [if_neg (by decide), if_neg (by decide)], by unfold rdAt rdE; rw [if_neg (by decide), if_neg (by decide), if_neg (by decide)]; rfl⟩
        | exact ⟨_, [_], _, rfl, pickA_perm (is := [3]) (As := [_]) rfl, rfl, by unfold rdV; rw [if_neg (by decide), if_neg (by decide)], by unfold rdAt rdE; rw [if_neg (by decide), if_neg (by decide), if_neg (by decide)]; rfl⟩
        | exact ⟨_, [_], _, rfl, pickA_perm (is := [4]) (As := [_]) rfl, rfl, by unfold rdV; rw [if_neg (by decide), if_neg (by decide)], by unfold rdAt rdE; rw [if_neg (by decide), if_neg (by decide), if_neg (by decide)]; rfl⟩

theorem takeS_A (g : Nat) (b : List UInt8) (at_ : Nat) (e : Int) (fv : AV) (f : FuncId) (caps : List AV) (k : Nat) (e2 : Int) (x : List UInt8) (hclo : IsClo fv f caps) (himm : fv.imm = true) (hat : at_ ≤ b.length) (hfv : fv = .p (cloRP f caps) ∨ ∃ v, fv = .v v)
    (hf : e = 0 → FnP Tryz.prog f ([.s (b.drop at_)] ++ caps) (· = .tup [.s x, I64 (k : Nat), I64 e2])) (hk : e = 0 → e2 = 0 → at_ + k ≤ b.length) (hb : b.length ≤ 9223372036854775807) :
    FnA Tryz.prog 231 [PT g 0, fv] [rdr g b at_ e] (fun r cs' => r = .s (rdV [] x e e2) ∧ cs' = [rdr g b (rdAt at_ k e e2) (rdE e e2)]) := by
  rcases hfv with rfl | ⟨v, rfl⟩
  · refine FnA.intro Tryz.tabOK Tryz.wide_ Tryz.func231 rfl (by decide) rfl (fun X => ?_)
    repeat (first | refine sc rfl ?_ | refine so rfl ?_ | refine sb rfl ?_)
    refine O_Xd (X_ptrnil Tryz.underlying277 rfl rfl rfl) ?_
    repeat (first | refine sc rfl ?_ | refine so rfl ?_ | refine sb rfl ?_)
    first
      | refine O_loadP 0 (reads_box 2) rfl rfl rfl rfl rfl rfl ?_
      | refine O_loadP 1 (reads_box 2) rfl rfl rfl rfl rfl rfl ?_
      | refine O_loadP 2 (reads_box 2) rfl rfl rfl rfl rfl rfl ?_
      | refine O_loadP 3 (reads_box 2) rfl rfl rfl rfl rfl rfl ?_
      | refine O_loadP 4 (reads_box 2) rfl rfl rfl rfl rfl rfl ?_
    repeat (first | refine sc rfl ?_ | refine so rfl ?_ | refine sb rfl ?_)
    refine C_if rfl (fun h0 => ?_) (fun h0 => ?_) <;> simp only [decide_eq_true_eq, decide_eq_false_iff_not, Bool.not_eq_true', Bool.not_eq_false', beq_iff_eq, beq_eq_false_iff_ne, bne_iff_ne, ne_eq, bne_eq_false_iff_eq, Decidable.not_not] at h0
    · repeat (first | refine sc rfl ?_ | refine so rfl ?_ | refine sb rfl ?_)
      first
        | exact ⟨_, [_], _, rfl, pickA_perm (is := [0]) (As := [_]) rfl, rfl, by unfold rdV; rw [if_pos h0], by unfold rdAt rdE; rw [if_pos h0, if_pos h0]⟩
        | exact ⟨_, [_], _, rfl, pickA_perm (is := [1]) (As := [_]) rfl, rfl, by unfold rdV; rw [if_pos h0], by unfold rdAt rdE; rw [if_pos h0, if_pos h0]⟩
        | exact ⟨_, [_], _, rfl, pickA_perm (is := [2]) (As := [_]) rfl, rfl, by unfold rdV; rw [if_pos h0], by unfold rdAt rdE; rw [if_pos h0, if_pos h0]⟩
        | exact ⟨_, [_], _, rfl, pickA_perm (is := [3]) (As := [_]) rfl, rfl, by unfold rdV; rw [if_pos h0], by unfold rdAt rdE; rw [if_pos h0, if_pos h0]⟩
        | exact ⟨_, [_], _, rfl, pickA_perm (is := [4]) (As := [_]) rfl, rfl, by unfold rdV; rw [if_pos h0], by unfold rdAt rdE; rw [if_pos h0, if_pos h0]⟩
    subst h0
    repeat (first | refine sc rfl ?_ | refine so rfl ?_ | refine sb rfl ?_)
    refine C_drawD rfl (by kernel_rfl) ?_
    repeat (first | refine sd rfl ?_ | refine sdb rfl ?_ | refine sds rfl ?_)
    refine D_X (.s b) (X_loadP 0 (A := rdr g b at_ 0) (reads_box 0) rfl rfl rfl rfl rfl rfl) ?_
    repeat (first | refine sd rfl ?_ | refine sdb rfl ?_ | refine sds rfl ?_)
    refine D_X (I64 (at_ : Nat)) (X_loadP 0 (A := rdr g b at_ 0) (reads_box 1) rfl rfl rfl rfl rfl rfl) ?_
    repeat (first | refine sd rfl ?_ | refine ⟨by omega, ?_⟩)
    rw [Int.toNat_natCast]
    refine D_callV hclo himm (hf rfl) rfl rfl rfl rfl rfl ?_
    repeat (first | refine sd rfl ?_ | refine sdb rfl ?_ | refine sds rfl ?_)
    repeat (first | refine sc rfl ?_ | refine so rfl ?_ | refine sb rfl ?_)
    refine C_if rfl (fun h1 => ?_) (fun h1 => ?_) <;> simp only [decide_eq_true_eq, decide_eq_false_iff_not, Bool.not_eq_true', Bool.not_eq_false', beq_iff_eq, beq_eq_false_iff_ne, bne_iff_ne, ne_eq, bne_eq_false_iff_eq, Decidable.not_not] at h1
    · repeat (first | refine sc rfl ?_ | refine so rfl ?_ | refine sb rfl ?_)
      first
        | refine O_Xn (X_storeP 0 (writes_box (b := g) (t := 329) (cells := [.s b, I64 (at_ : Nat), I64 0]) (by simp)) rfl rfl rfl rfl rfl rfl rfl) ?_
        | refine O_Xn (X_storeP 1 (writes_box (b := g) (t := 329) (cells := [.s b, I64 (at_ : Nat), I64 0]) (by simp)) rfl rfl rfl rfl rfl rfl rfl) ?_
        | refine O_Xn (X_storeP 2 (writes_box (b := g) (t := 329) (cells := [.s b, I64 (at_ : Nat), I64 0]) (by simp)) rfl rfl rfl rfl rfl rfl rfl) ?_
        | refine O_Xn (X_storeP 3 (writes_box (b := g) (t := 329) (cells := [.s b, I64 (at_ : Nat), I64 0]) (by simp)) rfl rfl rfl rfl rfl rfl rfl) ?_
        | refine O_Xn (X_storeP 4 (writes_box (b := g) (t := 329) (cells := [.s b, I64 (at_ : Nat), I64 0]) (by simp)) rfl rfl rfl rfl rfl rfl rfl) ?_
      repeat (first | refine sc rfl ?_ | refine so rfl ?_ | refine sb rfl ?_)
      first
        | exact ⟨_, [_], _, rfl, pickA_perm (is := [0]) (As := [_]) rfl, rfl, by unfold rdV; rw [if_neg (by decide), if_pos h1], by unfold rdAt rdE; rw [if_neg (by decide), if_pos h1, if_neg (by decide)]; rfl⟩
        | exact ⟨_, [_], _, rfl, pickA_perm (is := [1]) (As := [_]) rfl, rfl, by unfold rdV; rw [if_neg (by decide), if_pos h1], by unfold rdAt rdE; rw [if_neg (by decide), if_pos h1, if_neg (by decide)]; rfl⟩
        | exact ⟨_, [_], _, rfl, pickA_perm (is := [2]) (As := [_]) rfl, rfl, by unfold rdV; rw [if_neg (by decide), if_pos h1], by unfold rdAt rdE; rw [if_neg (by decide), if_pos h1, if_neg (by decide)]; rfl⟩
        | exact ⟨_, [_], _, rfl, pickA_perm (is := [3]) (As := [_]) rfl, rfl, by unfold rdV; rw [if_neg (by decide), if_pos h1], by unfold rdAt rdE; rw [if_neg (by decide), if_pos h1, if_neg (by decide)]; rfl⟩
        | exact ⟨_, [_], _, rfl, pickA_perm (is := [4]) (As := [_]) rfl, rfl, by unfold rdV; rw [if_neg (by decide), if_pos h1], by unfold rdAt rdE; rw [if_neg (by decide), if_pos h1, if_neg (by decide)]; rfl⟩
    · subst h1
      have hk' := hk rfl rfl
      repeat (first | refine sc rfl ?_ | refine so rfl ?_ | refine sb rfl ?_)
      first
        | refine O_loadP 0 (reads_box 1) rfl rfl rfl rfl rfl rfl ?_
        | refine O_loadP 1 (reads_box 1) rfl rfl rfl rfl rfl rfl ?_
        | refine O_loadP 2 (reads_box 1) rfl rfl rfl rfl rfl rfl ?_
        | refine O_loadP 3 (reads_box 1) rfl rfl rfl rfl rfl rfl ?_
        | refine O_loadP 4 (reads_box 1) rfl rfl rfl rfl rfl rfl ?_
      repeat (first | refine sc rfl ?_ | refine so rfl ?_ | refine sb rfl ?_)
      rw [w64 (x := (at_ : Int) + (k : Int)) (by omega) (by omega)]
      first
        | refine O_Xn (X_storeP 0 (writes_box (b := g) (t := 329) (cells := [.s b, I64 (at_ : Nat), I64 0]) (by simp)) rfl rfl rfl rfl rfl rfl rfl) ?_
        | refine O_Xn (X_storeP 1 (writes_box (b := g) (t := 329) (cells := [.s b, I64 (at_ : Nat), I64 0]) (by simp)) rfl rfl rfl rfl rfl rfl rfl) ?_
        | refine O_Xn (X_storeP 2 (writes_box (b := g) (t := 329) (cells := [.s b, I64 (at_ : Nat), I64 0]) (by simp)) rfl rfl rfl rfl rfl rfl rfl) ?_
        | refine O_Xn (X_storeP 3 (writes_box (b := g) (t := 329) (cells := [.s b, I64 (at_ : Nat), I64 0]) (by simp)) rfl rfl rfl rfl rfl rfl rfl) ?_
        | refine O_Xn (X_storeP 4 (writes_box (b := g) (t := 329) (cells := [.s b, I64 (at_ : Nat), I64 0]) (by simp)) rfl rfl rfl rfl rfl rfl rfl) ?_
      repeat (first | refine sc rfl ?_ | refine so rfl ?_ | refine sb rfl ?_)
      first
        | exact ⟨_, [_], _, rfl, pickA_perm (is := [0]) (As := [_]) rfl, rfl, by unfold rdV; rw [if_neg (by decide), if_neg (by decide)], by unfold rdAt rdE; rw [if_neg (by decide), if_neg (by decide), if_neg (by decide)]; rfl⟩
        | exact ⟨_, [_], _, rfl, pickA_perm (is := [1]) (As := [_]) rfl, rfl, by unfold rdV; rw [if_neg (by decide), if_neg (by decide)], by unfold rdAt rdE; rw [if_neg (by decide), if_neg (by decide), if_neg (by decide)]; rfl⟩
        | exact ⟨_, [_], _, rfl, pickA_perm (is := [2]) (As := [_]) rfl, rfl, by unfold rdV; rw [if_neg (by decide), if_neg (by decide)], by unfold rdAt rdE; rw [if_neg (by decide), if_neg (by decide), if_neg (by decide)]; rfl⟩
        | exact ⟨_, [_], _, rfl, pickA_perm (is := [3]) (As := [_]) rfl, rfl, by unfold rdV; rw [if_neg (by decide), if_neg (by decide)], by unfold rdAt rdE; rw [if_neg (by decide), if_neg (by decide), if_neg (by decide)]; rfl⟩
        | exact ⟨_, [_], _, rfl, pickA_perm (is := [4]) (As := [_]) rfl, rfl, by unfold rdV; rw [if_neg (by decide), if_neg (by decide)], by unfold rdAt rdE; rw [if_neg (by decide), if_neg (by decide), if_neg (by decide)]; rfl⟩
  · refine FnA.intro Tryz.tabOK Tryz.wide_ Tryz.func231 rfl (by decide) rfl (fun X => ?_)
    repeat (first | refine sc rfl ?_ | refine so rfl ?_ | refine sb rfl ?_)
    refine O_Xd (X_ptrnil Tryz.underlying277 rfl rfl rfl) ?_
    repeat (first | refine sc rfl ?_ | refine so rfl ?_ | refine sb rfl ?_)
    first
      | refine O_loadP 0 (reads_box 2) rfl rfl rfl rfl rfl rfl ?_
      | refine O_loadP 1 (reads_box 2) rfl rfl rfl rfl rfl rfl ?_
      | refine O_loadP 2 (reads_box 2) rfl rfl rfl rfl rfl rfl ?_
      | refine O_loadP 3 (reads_box 2) rfl rfl rfl rfl rfl rfl ?_
      | refine O_loadP 4 (reads_box 2) rfl rfl rfl rfl rfl rfl ?_
    repeat (first | refine sc rfl ?_ | refine so rfl ?_ | refine sb rfl ?_)
    refine C_if rfl (fun h0 => ?_) (fun h0 => ?_) <;> simp only [decide_eq_true_eq, decide_eq_false_iff_not, Bool.not_eq_true', Bool.not_eq_false', beq_iff_eq, beq_eq_false_iff_ne, bne_iff_ne, ne_eq, bne_eq_false_iff_eq, Decidable.not_not] at h0
    · repeat (first | refine sc rfl ?_ | refine so rfl ?_ | refine sb rfl ?_)
      first
        | exact ⟨_, [_], _, rfl, pickA_perm (is := [0]) (As := [_]) rfl, rfl, by unfold rdV; rw [if_pos h0], by unfold rdAt rdE; rw [if_pos h0, if_pos h0]⟩
        | exact ⟨_, [_], _, rfl, pickA_perm (is := [1]) (As := [_]) rfl, rfl, by unfold rdV; rw [if_pos h0], by unfold rdAt rdE; rw [if_pos h0, if_pos h0]⟩
        | exact ⟨_, [_], _, rfl, pickA_perm (is := [2]) (As := [_]) rfl, rfl, by unfold rdV; rw [if_pos h0], by unfold rdAt rdE; rw [if_pos h0, if_pos h0]⟩
        | exact ⟨_, [_], _, rfl, pickA_perm (is := [3]) (As := [_]) rfl, rfl, by unfold rdV; rw [if_pos h0], by unfold rdAt rdE; rw [if_pos h0, if_pos h0]⟩
        | exact ⟨_, [_], _, rfl, pickA_perm (is := [4]) (As := [_]) rfl, rfl, by unfold rdV; rw [if_pos h0], by unfold rdAt rdE; rw [if_pos h0, if_pos h0]⟩
    subst h0
    repeat (first | refine sc rfl ?_ | refine so rfl ?_ | refine sb rfl ?_)
    refine C_drawD rfl (by kernel_rfl) ?_
    repeat (first | refine sd rfl ?_ | refine sdb rfl ?_ | refine sds rfl ?_)
    refine D_X (.s b) (X_loadP 0 (A := rdr g b at_ 0) (reads_box 0) rfl rfl rfl rfl rfl rfl) ?_
    repeat (first | refine sd rfl ?_ | refine sdb rfl ?_ | refine sds rfl ?_)
    refine D_X (I64 (at_ : Nat)) (X_loadP 0 (A := rdr g b at_ 0) (reads_box 1) rfl rfl rfl rfl rfl rfl) ?_
    repeat (first | refine sd rfl ?_ | refine ⟨by omega, ?_⟩)
    rw [Int.toNat_natCast]
    refine D_callV hclo himm (hf rfl) rfl rfl rfl rfl rfl ?_
    repeat (first | refine sd rfl ?_ | refine sdb rfl ?_ | refine sds rfl ?_)
    repeat (first | refine sc rfl ?_ | refine so rfl ?_ | refine sb rfl ?_)
    refine C_if rfl (fun h1 => ?_) (fun h1 => ?_) <;> simp only [decide_eq_true_eq, decide_eq_false_iff_not, Bool.not_eq_true', Bool.not_eq_false', beq_iff_eq, beq_eq_false_iff_ne, bne_iff_ne, ne_eq, bne_eq_false_iff_eq, Decidable.not_not] at h1
    · repeat (first | refine sc rfl ?_ | refine so rfl ?_ | refine sb rfl ?_)
      first
        | refine O_Xn (X_storeP 0 (writes_box (b := g) (t := 329) (cells := [.s b, I64 (at_ : Nat), I64 0]) (by simp)) rfl rfl rfl rfl rfl rfl rfl) ?_
        | refine O_Xn (X_storeP 1 (writes_box (b := g) (t := 329) (cells := [.s b, I64 (at_ : Nat), I64 0]) (by simp)) rfl rfl rfl rfl rfl rfl rfl) ?_
        | refine O_Xn (X_storeP 2 (writes_box (b := g) (t := 329) (cells := [.s b, I64 (at_ : Nat), I64 0]) (by simp)) rfl rfl rfl rfl rfl rfl rfl) ?_
        | refine O_Xn (X_storeP 3 (writes_box (b := g) (t := 329) (cells := [.s b, I64 (at_ : Nat), I64 0]) (by simp)) rfl rfl rfl rfl rfl rfl rfl) ?_
        | refine O_Xn (X_storeP 4 (writes_box (b := g) (t := 329) (cells := [.s b, I64 (at_ : Nat), I64 0]) (by simp)) rfl rfl rfl rfl rfl rfl rfl) ?_
      repeat (first | refine sc rfl ?_ | refine so rfl ?_ | refine sb rfl ?_)
      first
        | exact ⟨_, [_], _, rfl, pickA_perm (is := [0]) (As := [_]) rfl, rfl, by unfold rdV; rw [if_neg (by decide), if_pos h1], by unfold rdAt rdE; rw [if_neg (by decide), if_pos h1, if_neg (by decide)]; rfl⟩
        | exact ⟨_, [_], _, rfl, pickA_perm (is := [1]) (As := [_]) rfl, rfl, by unfold rdV; rw [if_neg (by decide), if_pos h1], by unfold rdAt rdE; rw [if_neg (by decide), if_pos h1, if_neg (by decide)]; rfl⟩
        | exact ⟨_, [_], _, rfl, pickA_perm (is := [2]) (As := [_]) rfl, rfl, by unfold rdV; rw [if_neg (by decide), if_pos h1], by unfold rdAt rdE; rw [if_neg (by decide), if_pos h1, if_neg (by decide)]; rfl⟩
        | exact ⟨_, [_], _, rfl, pickA_perm (is := [3]) (As := [_]) rfl, rfl, by unfold rdV; rw [if_neg (by decide), if_pos h1], by unfold rdAt rdE; rw [if_neg (by decide), if_pos h1, if_neg (by decide)]; rfl⟩
        | exact ⟨_, [_], _, rfl, pickA_perm (is := [4]) (As := [_]) rfl, rfl, by unfold rdV; rw [if_neg (by decide), if_pos h1], by unfold rdAt rdE; rw [if_neg (by decide), if_pos h1, if_neg (by decide)]; rfl⟩
    · subst h1
      have hk' := hk rfl rfl
      repeat (first | refine sc rfl ?_ | refine so rfl ?_ | refine sb rfl ?_)
      first
        | refine O_loadP 0 (reads_box 1) rfl rfl rfl rfl rfl rfl ?_
        | refine O_loadP 1 (reads_box 1) rfl rfl rfl rfl rfl rfl ?_
        | refine O_loadP 2 (reads_box 1) rfl rfl rfl rfl rfl rfl ?_
        | refine O_loadP 3 (reads_box 1) rfl rfl rfl rfl rfl rfl ?_
        | refine O_loadP 4 (reads_box 1) rfl rfl rfl rfl rfl rfl ?_
      repeat (first | refine sc rfl ?_ | refine so rfl ?_ | refine sb rfl ?_)
      rw [w64 (x := (at_ : Int) + (k : Int)) (by omega) (by omega)]
      first
        | refine O_Xn (X_storeP 0 (writes_box (b := g) (t := 329) (cells := [.s b, I64 (at_ : Nat), I64 0]) (by simp)) rfl rfl rfl rfl rfl rfl rfl) ?_
        | refine O_Xn (X_storeP 1 (writes_box (b := g) (t := 329) (cells := [.s b, I64 (at_ : Nat), I64 0]) (by simp)) rfl rfl rfl rfl rfl rfl rfl) ?_
        | refine O_Xn (X_storeP 2 (writes_box (b := g) (t := 329) (cells := [.s b, I64 (at_ : Nat), I64 0]) (by simp)) rfl rfl rfl rfl rfl rfl rfl) ?_
        | refine O_Xn (X_storeP 3 (writes_box (b := g) (t := 329) (cells := [.s b, I64 (at_ : Nat), I64 0]) (by simp)) rfl rfl rfl rfl rfl rfl rfl) ?_
        | refine O_Xn (X_storeP 4 (writes_box (b := g) (t := 329) (cells := [.s b, I64 (at_ : Nat), I64 0]) (by simp)) rfl rfl rfl rfl rfl rfl rfl) ?_
      repeat (first | refine sc rfl ?_ | refine so rfl ?_ | refine sb rfl ?_)
      first
        | exact ⟨_, [_], _, rfl, pickA_perm (is := [0]) (As := [_]) rfl, rfl, by unfold rdV; rw [if_neg (by decide), if_neg (by decide)], by unfold rdAt rdE; rw [if_neg (by decide), if_neg (by decide), if_neg (by decide)]; rfl⟩
        | exact ⟨_, [_], _, rfl, pickA_perm (is := [1]) (As := [_]) rfl, rfl, by unfold rdV; rw [if_neg (by decide), if_neg (by decide)], by unfold rdAt rdE; rw [if_neg (by decide), if_neg (by decide), if_neg (by decide)]; rfl⟩
        | exact ⟨_, [_], _, rfl, pickA_perm (is := [2]) (As := [_]) rfl, rfl, by unfold rdV; rw [if_neg (by decide), if_neg (by decide)], by unfold rdAt rdE; rw [if_neg (by decide), if_neg (by decide), if_neg (by decide)]; rfl⟩
        | exact ⟨_, [_], _, rfl, pickA_perm (is := [3]) (As := [_]) rfl, rfl, by unfold rdV; rw [if_neg (by decide), if_neg (by decide)], by unfold rdAt rdE; rw [if_neg (by decide), if_neg (by decide), if_neg (by decide)]; rfl⟩
        | exact ⟨_, [_], _, rfl, pickA_perm (is := [4]) (As := [_]) rfl, rfl, by unfold rdV; rw [if_neg (by decide), if_neg (by decide)], by unfold rdAt rdE; rw [if_neg (by decide), if_neg (by decide), if_neg (by decide)]; rfl⟩
end Go.Proofs

/- Small functions (printed by gen.py) -/
set_option linter.unusedSimpArgs false
set_option linter.unusedVariables false
set_option maxRecDepth 100000
namespace Go.Proofs
open Go.Sy Go.Lib

noncomputable def BWithin_F (x : Int) (lo : Int) (hi : Int) : Option (Int) :=
  some (max lo (min x hi))
theorem BWithin_w (x : Int) (lo : Int) (hi : Int) (r : Int) (h : BWithin_F x lo hi = some r) : FnP Tryz.prog 95 [I64 x, I64 lo, I64 hi] (· = I64 r) := by
  unfold BWithin_F at h
  refine FnP.intro Tryz.tabOK Tryz.wide_ Tryz.func95 rfl (by decide) rfl (fun X => ?_)
  refine sc rfl ?_
  refine sc rfl ?_
  iterate 1 (first | refine so rfl ?_ | refine sb rfl ?_)
  refine so rfl ?_
  refine sc rfl ?_
  refine sc rfl ?_
  iterate 6 (first | refine so rfl ?_ | refine sb rfl ?_)
  refine so rfl ?_
  refine sc rfl ?_
  obtain rfl := Option.some.inj h
  exact ⟨_, rfl, rfl, rfl⟩
noncomputable def BRound_F (q : Int) : Option (Int) :=
  Option.bind (BWithin_F q 1 1048576) (fun r1 => chk ((16 : Int) ≠ 0) (some (IntKind.i64.wrap (Int.tdiv (IntKind.i64.wrap (r1 + 1040)) 16))))
theorem BRound_w (q : Int) (r : Int) (h : BRound_F q = some r) : FnP Tryz.prog 52 [I64 q] (· = I64 r) := by
  unfold BRound_F at h
  refine FnP.intro Tryz.tabOK Tryz.wide_ Tryz.func52 rfl (by decide) rfl (fun X => ?_)
  refine sc rfl ?_
  refine sc rfl ?_
  iterate 1 (first | refine so rfl ?_ | refine sb rfl ?_)
  refine so rfl ?_
  refine sc rfl ?_
  refine sc rfl ?_
  iterate 1 (first | refine so rfl ?_ | refine sb rfl ?_)
  obtain ⟨r1, hr2, h⟩ := bT h
  refine O_call (BWithin_w _ _ _ _ hr2) (by rfl) (by rfl) (by rfl) (by rfl) (fun q3 hq3 => ?_)
  subst hq3
  iterate 1 (first | refine so rfl ?_ | refine sb rfl ?_)
  obtain ⟨g4, h⟩ := gT h
  refine so rfl (And.intro g4 ?_)
  iterate 1 (first | refine so rfl ?_ | refine sb rfl ?_)
  refine so rfl ?_
  refine sc rfl ?_
  obtain rfl := Option.some.inj h
  exact ⟨_, rfl, rfl, rfl⟩
noncomputable def BNote_F (x : Nte) : Option (Nte) :=
  some (⟨x.conn, x.owner, x.kind, x.body, x.err, x.reply⟩ : Nte)
theorem BNote_w (x : Nte) (r : Nte) (h : BNote_F x = some r) : FnP Tryz.prog 13 [.agg (Nte.c x)] (· = .agg (Nte.c r)) := by
  unfold BNote_F at h
  refine FnP.intro Tryz.tabOK Tryz.wide_ Tryz.func13 rfl (by decide) rfl (fun X => ?_)
  refine sc rfl ?_
  refine sc rfl ?_
  iterate 2 (first | refine so rfl ?_ | refine sb rfl ?_)
  refine so rfl ?_
  refine sc rfl ?_
  refine sc rfl ?_
  iterate 13 (first | refine so rfl ?_ | refine sb rfl ?_)
  iterate 1 (first | refine so rfl ?_ | refine sb rfl ?_)
  refine so rfl ?_
  refine sc rfl ?_
  obtain rfl := Option.some.inj h
  exact ⟨_, rfl, rfl, rfl⟩
noncomputable def BOurs_F (x : Wt) : Option (Wt) :=
  some (⟨x.fat, x.owner, x.cost, x.turns, x.most, x.served, x.flet⟩ : Wt)
theorem BOurs_w (x : Wt) (r : Wt) (h : BOurs_F x = some r) : FnP Tryz.prog 14 [.agg (Wt.c x)] (· = .agg (Wt.c r)) := by
  unfold BOurs_F at h
  refine FnP.intro Tryz.tabOK Tryz.wide_ Tryz.func14 rfl (by decide) rfl (fun X => ?_)
  refine sc rfl ?_
  refine sc rfl ?_
  iterate 2 (first | refine so rfl ?_ | refine sb rfl ?_)
  refine so rfl ?_
  refine sc rfl ?_
  refine sc rfl ?_
  iterate 15 (first | refine so rfl ?_ | refine sb rfl ?_)
  iterate 1 (first | refine so rfl ?_ | refine sb rfl ?_)
  refine so rfl ?_
  refine sc rfl ?_
  obtain rfl := Option.some.inj h
  exact ⟨_, rfl, rfl, rfl⟩
noncomputable def AsksB_F (k : Int) : Option (Bool) :=
  Option.bind (α := Bool) (cond (k == 2) (some (k == 2)) (cond (k == 3) (some (k == 3)) (cond (k == 4) (some (k == 4)) (cond (k == 6) (some (k == 6)) (some (k == 7)))))) (fun m1 => cond m1 (some true) (some false))
theorem AsksB_w (k : Int) (r : Bool) (h : AsksB_F k = some r) : FnP Tryz.prog 57 [I64 k] (· = B r) := by
  unfold AsksB_F at h
  refine FnP.intro Tryz.tabOK Tryz.wide_ Tryz.func57 rfl (by decide) rfl (fun X => ?_)
  refine sc rfl ?_
  refine sc rfl ?_
  iterate 1 (first | refine so rfl ?_ | refine sb rfl ?_)
  refine so rfl ?_
  refine sc rfl ?_
  refine sc rfl ?_
  refine sc rfl ?_
  iterate 1 (first | refine so rfl ?_ | refine sb rfl ?_)
  refine so rfl ?_
  refine sc rfl ?_
  refine sc rfl ?_
  refine sc rfl ?_
  refine sc rfl ?_
  iterate 2 (first | refine so rfl ?_ | refine sb rfl ?_)
  refine so rfl ?_
  obtain ⟨m1, hm1, h⟩ := bT h
  refine C_join ⟨[(4, B m1)], []⟩ ?_ (fun s hm1s => C_le _ hm1s ?_)
  · refine C_if rfl (fun hb2 => ?_) (fun hb2 => ?_)
    · replace hm1 := cT hb2 hm1
      refine sc rfl ?_
      obtain rfl := Option.some.inj hm1
      exact Le.sub [] ⟨rfl, trivial⟩ rfl
    · replace hm1 := cF hb2 hm1
      refine sc rfl ?_
      refine sc rfl ?_
      iterate 2 (first | refine so rfl ?_ | refine sb rfl ?_)
      refine so rfl ?_
      refine C_if rfl (fun hb3 => ?_) (fun hb3 => ?_)
      · replace hm1 := cT hb3 hm1
        refine sc rfl ?_
        obtain rfl := Option.some.inj hm1
        exact Le.sub [] ⟨rfl, trivial⟩ rfl
      · replace hm1 := cF hb3 hm1
        refine sc rfl ?_
        refine sc rfl ?_
        iterate 2 (first | refine so rfl ?_ | refine sb rfl ?_)
        refine so rfl ?_
        refine C_if rfl (fun hb4 => ?_) (fun hb4 => ?_)
        · replace hm1 := cT hb4 hm1
          refine sc rfl ?_
          obtain rfl := Option.some.inj hm1
          exact Le.sub [] ⟨rfl, trivial⟩ rfl
        · replace hm1 := cF hb4 hm1
          refine sc rfl ?_
          refine sc rfl ?_
          iterate 2 (first | refine so rfl ?_ | refine sb rfl ?_)
          refine so rfl ?_
          refine C_if rfl (fun hb5 => ?_) (fun hb5 => ?_)
          · replace hm1 := cT hb5 hm1
            refine sc rfl ?_
            obtain rfl := Option.some.inj hm1
            exact Le.sub [] ⟨rfl, trivial⟩ rfl
          · replace hm1 := cF hb5 hm1
            refine sc rfl ?_
            iterate 2 (first | refine so rfl ?_ | refine sb rfl ?_)
            refine so rfl ?_
            obtain rfl := Option.some.inj hm1
            exact Le.sub [] ⟨rfl, trivial⟩ rfl
  refine C_if rfl (fun hb6 => ?_) (fun hb6 => ?_)
  · replace h := cT hb6 h
    refine sc rfl ?_
    refine sc rfl ?_
    iterate 1 (first | refine so rfl ?_ | refine sb rfl ?_)
    refine so rfl ?_
    refine sc rfl ?_
    obtain rfl := Option.some.inj h
    exact ⟨_, rfl, rfl, rfl⟩
  · replace h := cF hb6 h
    refine sc rfl ?_
    refine sc rfl ?_
    refine sc rfl ?_
    iterate 1 (first | refine so rfl ?_ | refine sb rfl ?_)
    refine so rfl ?_
    refine sc rfl ?_
    obtain rfl := Option.some.inj h
    exact ⟨_, rfl, rfl, rfl⟩
noncomputable def CostB_F (n : Int) : Option (Int) :=
  some (IntKind.i64.wrap (16 + (min (max n 0) 1024)))
theorem CostB_w (n : Int) (r : Int) (h : CostB_F n = some r) : FnP Tryz.prog 104 [I64 n] (· = I64 r) := by
  unfold CostB_F at h
  refine FnP.intro Tryz.tabOK Tryz.wide_ Tryz.func104 rfl (by decide) rfl (fun X => ?_)
  refine sc rfl ?_
  refine sc rfl ?_
  iterate 1 (first | refine so rfl ?_ | refine sb rfl ?_)
  refine so rfl ?_
  refine sc rfl ?_
  refine sc rfl ?_
  iterate 5 (first | refine so rfl ?_ | refine sb rfl ?_)
  refine so rfl ?_
  refine sc rfl ?_
  obtain rfl := Option.some.inj h
  exact ⟨_, rfl, rfl, rfl⟩
end Go.Proofs

/- Small functions of the document (printed by gen.py) -/
set_option linter.unusedSimpArgs false
set_option linter.unusedVariables false
set_option maxRecDepth 100000
namespace Go.Proofs
open Go.Sy Go.Lib

noncomputable def ConfOfR_L2 (l : List Int) (s2 : Int) : Option ((Int) ⊕ ((Cf × Int) ⊕ (Unit))) :=
  cond (decide (s2 < 9)) (chk ((0 : Int) ≤ s2 ∧ s2 < (l.length : Int)) (cond (decide ((l.getD (Int.toNat s2) default) < 0)) (some (Sum.inr ((Sum.inl ((⟨0, 0, 0, 0, 0, 0, 0, 0, 0⟩ : Cf), 1))))) (chk ((0 : Int) ≤ s2 ∧ s2 < (l.length : Int)) (chk ((0 : Int) ≤ s2 ∧ s2 < (([1048576, 1048576, 1048576, 1048576, 64, 64, 16, 1048576, 1048576] : List Int).length : Int)) (cond (decide ((([1048576, 1048576, 1048576, 1048576, 64, 64, 16, 1048576, 1048576] : List Int).getD (Int.toNat s2) default) < (l.getD (Int.toNat s2) default))) (some (Sum.inr ((Sum.inl ((⟨0, 0, 0, 0, 0, 0, 0, 0, 0⟩ : Cf), 1))))) (some (Sum.inl (IntKind.i64.wrap (s2 + 1))))))))) (some (Sum.inr ((Sum.inr ()))))
noncomputable def ConfOfR_F (l : List Int) : Option (Cf × Int) :=
  cond ((l.length : Int) != 9) (some ((⟨0, 0, 0, 0, 0, 0, 0, 0, 0⟩ : Cf), 1)) (Option.bind (Iter (ConfOfR_L2 l) 0) (Sum.elim (fun c14 => some c14) (fun b7 => chk ((0 : Int) ≤ 0 ∧ 0 < (l.length : Int)) (cond (decide ((l.getD (Int.toNat 0) default) < 1040)) (some ((⟨0, 0, 0, 0, 0, 0, 0, 0, 0⟩ : Cf), 1)) (chk ((0 : Int) ≤ 0 ∧ 0 < (l.length : Int)) (chk ((0 : Int) ≤ 1 ∧ 1 < (l.length : Int)) (chk ((0 : Int) ≤ 2 ∧ 2 < (l.length : Int)) (chk ((0 : Int) ≤ 3 ∧ 3 < (l.length : Int)) (chk ((0 : Int) ≤ 4 ∧ 4 < (l.length : Int)) (chk ((0 : Int) ≤ 5 ∧ 5 < (l.length : Int)) (chk ((0 : Int) ≤ 6 ∧ 6 < (l.length : Int)) (chk ((0 : Int) ≤ 7 ∧ 7 < (l.length : Int)) (chk ((0 : Int) ≤ 8 ∧ 8 < (l.length : Int)) (some ((⟨l.getD (Int.toNat 0) default, l.getD (Int.toNat 1) default, l.getD (Int.toNat 2) default, l.getD (Int.toNat 3) default, l.getD (Int.toNat 4) default, l.getD (Int.toNat 5) default, l.getD (Int.toNat 6) default, l.getD (Int.toNat 7) default, l.getD (Int.toNat 8) default⟩ : Cf), 0)))))))))))))))
theorem ConfOfR_w (l : List Int) (r : Cf × Int) (h : ConfOfR_F l = some r) : FnP Tryz.prog 238 [SL 1 INTc l] (· = .tup [.agg (Cf.c r.1), I64 r.2]) := by
  unfold ConfOfR_F at h
  refine FnP.intro Tryz.tabOK Tryz.wide_ Tryz.func238 rfl (by decide) rfl (fun X => ?_)
  refine sc rfl ?_
  refine sc rfl ?_
  iterate 2 (first | refine so rfl ?_ | refine sb rfl ?_)
  refine so rfl ?_
  refine sc rfl ?_
  refine sc rfl ?_
  refine sc rfl ?_
  iterate 3 (first | refine so rfl ?_ | refine sb rfl ?_)
  refine so rfl ?_
  refine C_if rfl (fun hb1 => ?_) (fun hb1 => ?_)
  · replace h := cT hb1 h
    refine sc rfl ?_
    refine sc rfl ?_
    iterate 1 (first | refine so rfl ?_ | refine sb rfl ?_)
    iterate 2 (first | refine so rfl ?_ | refine sb rfl ?_)
    refine so rfl ?_
    refine sc rfl ?_
    obtain rfl := Option.some.inj h
    exact ⟨_, rfl, rfl, rfl⟩
  · replace h := cF hb1 h
    refine sc rfl ?_
    refine sc rfl ?_
    refine sc rfl ?_
    refine sb rfl ?_
    refine O_le _ (Le.lit 10 INTc ([1048576, 1048576, 1048576, 1048576, 64, 64, 16, 1048576, 1048576] : List Int) rfl rfl rfl (by intro j hj; match j, hj with | 0, _ => rfl | 1, _ => rfl | 2, _ => rfl | 3, _ => rfl | 4, _ => rfl | 5, _ => rfl | 6, _ => rfl | 7, _ => rfl | 8, _ => rfl)) ?_
    iterate 1 (first | refine so rfl ?_ | refine sb rfl ?_)
    refine so rfl ?_
    refine sc rfl ?_
    refine sc rfl ?_
    refine sc rfl ?_
    iterate 1 (first | refine so rfl ?_ | refine sb rfl ?_)
    refine so rfl ?_
    obtain ⟨o3, ho3, h⟩ := bT h
    refine C_joinP ((fun b7 : Unit => (⟨[(0, SL 1 INTc l), (2, .bp 2 0)], [.box 2 120 [I64 0, I64 0, I64 0, I64 0, I64 0, I64 0, I64 0, I64 0, I64 0]]⟩ : St)) (match o3 with | (.inl b7) => default | (.inr b7) => b7)) (∃ b, o3 = (.inr b)) ?_ (fun s hs hp => ?_)
    · refine sc rfl ?_
      refine C_iter (fun s2 : Int => ⟨[(0, SL 1 INTc l), (2, .bp 2 0), (4, SL 1 INTc ([1048576, 1048576, 1048576, 1048576, 64, 64, 16, 1048576, 1048576] : List Int)), (5, I64 s2)], [.box 2 120 [I64 0, I64 0, I64 0, I64 0, I64 0, I64 0, I64 0, I64 0, I64 0]]⟩) ho3 (Le.sub [2] ⟨rfl, rfl, rfl, rfl, trivial⟩ rfl) (fun s2 y4 hy5 hr6 => ?_)
      unfold ConfOfR_L2 at hy5
      refine sc rfl ?_
      refine sc rfl ?_
      refine sc rfl ?_
      iterate 2 (first | refine so rfl ?_ | refine sb rfl ?_)
      refine so rfl ?_
      refine C_if rfl (fun hb8 => ?_) (fun hb8 => ?_)
      · replace hy5 := cT hb8 hy5
        refine sc rfl ?_
        refine sc rfl ?_
        refine sc rfl ?_
        refine sc rfl ?_
        refine C_drawD rfl (by kernel_rfl) ?_
        iterate 2 (first | refine sd rfl ?_ | refine sdb rfl ?_)
        obtain ⟨g9, hy5⟩ := gT hy5
        refine sd rfl (And.intro g9 ?_)
        iterate 3 (first | refine sd rfl ?_ | refine sdb rfl ?_)
        refine D_case 5 rfl (fun hb10 => ?_) (fun hb10 => ?_)
        · replace hy5 := cT hb10 hy5
          iterate 10 (first | refine sd rfl ?_ | refine sdb rfl ?_)
          refine sd rfl ?_
          refine C_true rfl rfl ?_
          refine sc rfl ?_
          refine sc rfl ?_
          iterate 1 (first | refine so rfl ?_ | refine sb rfl ?_)
          iterate 2 (first | refine so rfl ?_ | refine sb rfl ?_)
          refine so rfl ?_
          refine sc rfl ?_
          obtain rfl := Option.some.inj hy5
          have ho32 := hr6 _ rfl
          subst ho32
          obtain rfl := Option.some.inj h
          exact ⟨_, rfl, rfl, rfl⟩
        · replace hy5 := cF hb10 hy5
          iterate 2 (first | refine sd rfl ?_ | refine sdb rfl ?_)
          obtain ⟨g11, hy5⟩ := gT hy5
          refine sd rfl (And.intro g11 ?_)
          iterate 3 (first | refine sd rfl ?_ | refine sdb rfl ?_)
          obtain ⟨g12, hy5⟩ := gT hy5
          refine sd rfl (And.intro g12 ?_)
          iterate 3 (first | refine sd rfl ?_ | refine sdb rfl ?_)
          refine sd rfl ?_
          refine C_if rfl (fun hb13 => ?_) (fun hb13 => ?_)
          · replace hy5 := cT hb13 hy5
            refine sc rfl ?_
            refine sc rfl ?_
            iterate 1 (first | refine so rfl ?_ | refine sb rfl ?_)
            iterate 2 (first | refine so rfl ?_ | refine sb rfl ?_)
            refine so rfl ?_
            refine sc rfl ?_
            obtain rfl := Option.some.inj hy5
            have ho32 := hr6 _ rfl
            subst ho32
            obtain rfl := Option.some.inj h
            exact ⟨_, rfl, rfl, rfl⟩
          · replace hy5 := cF hb13 hy5
            refine sc rfl ?_
            refine sc rfl ?_
            iterate 3 (first | refine so rfl ?_ | refine sb rfl ?_)
            refine so rfl ?_
            obtain rfl := Option.some.inj hy5
            exact ⟨_, rfl, Le.sub [2] ⟨rfl, rfl, rfl, rfl, trivial⟩ rfl⟩
      · replace hy5 := cF hb8 hy5
        refine sc rfl ?_
        obtain rfl := Option.some.inj hy5
        have ho32 := hr6 _ rfl
        subst ho32
        exact ⟨Le.sub [2] ⟨rfl, rfl, trivial⟩ rfl, ⟨_, rfl⟩⟩
    obtain ⟨b7, rfl⟩ := hp
    refine C_le ⟨[(0, SL 1 INTc l), (2, .bp 2 0)], [.box 2 120 [I64 0, I64 0, I64 0, I64 0, I64 0, I64 0, I64 0, I64 0, I64 0]]⟩ hs ?_
    refine sc rfl ?_
    refine sc rfl ?_
    refine sc rfl ?_
    iterate 1 (first | refine so rfl ?_ | refine sb rfl ?_)
    obtain ⟨g15, h⟩ := gT h
    refine so rfl (And.intro g15 ?_)
    iterate 2 (first | refine so rfl ?_ | refine sb rfl ?_)
    refine so rfl ?_
    refine C_if rfl (fun hb16 => ?_) (fun hb16 => ?_)
    · replace h := cT hb16 h
      refine sc rfl ?_
      refine sc rfl ?_
      iterate 1 (first | refine so rfl ?_ | refine sb rfl ?_)
      iterate 2 (first | refine so rfl ?_ | refine sb rfl ?_)
      refine so rfl ?_
      refine sc rfl ?_
      obtain rfl := Option.some.inj h
      exact ⟨_, rfl, rfl, rfl⟩
    · replace h := cF hb16 h
      refine sc rfl ?_
      refine sc rfl ?_
      refine C_drawT 1 28 rfl (by kernel_rfl) (by kernel_rfl) ?_
      iterate 1 (first | refine sd rfl ?_ | refine sdb rfl ?_)
      obtain ⟨g17, h⟩ := gT h
      refine sd rfl (And.intro g17 ?_)
      iterate 2 (first | refine sd rfl ?_ | refine sdb rfl ?_)
      obtain ⟨g18, h⟩ := gT h
      refine sd rfl (And.intro g18 ?_)
      iterate 2 (first | refine sd rfl ?_ | refine sdb rfl ?_)
      obtain ⟨g19, h⟩ := gT h
      refine sd rfl (And.intro g19 ?_)
      iterate 2 (first | refine sd rfl ?_ | refine sdb rfl ?_)
      obtain ⟨g20, h⟩ := gT h
      refine sd rfl (And.intro g20 ?_)
      iterate 2 (first | refine sd rfl ?_ | refine sdb rfl ?_)
      obtain ⟨g21, h⟩ := gT h
      refine sd rfl (And.intro g21 ?_)
      iterate 2 (first | refine sd rfl ?_ | refine sdb rfl ?_)
      obtain ⟨g22, h⟩ := gT h
      refine sd rfl (And.intro g22 ?_)
      iterate 2 (first | refine sd rfl ?_ | refine sdb rfl ?_)
      obtain ⟨g23, h⟩ := gT h
      refine sd rfl (And.intro g23 ?_)
      iterate 2 (first | refine sd rfl ?_ | refine sdb rfl ?_)
      obtain ⟨g24, h⟩ := gT h
      refine sd rfl (And.intro g24 ?_)
      iterate 2 (first | refine sd rfl ?_ | refine sdb rfl ?_)
      obtain ⟨g25, h⟩ := gT h
      refine sd rfl (And.intro g25 ?_)
      iterate 2 (first | refine sd rfl ?_ | refine sdb rfl ?_)
      refine sd rfl ?_
      iterate 2 (first | refine so rfl ?_ | refine sb rfl ?_)
      refine so rfl ?_
      refine sc rfl ?_
      obtain rfl := Option.some.inj h
      exact ⟨_, rfl, rfl, rfl⟩
noncomputable def ConfListR_F (c : Cf) : Option (List Int) :=
  some ([c.quantum, c.rate, c.burst, c.mem, c.slots, c.outs, c.conns, c.state, c.decode] : List Int)
theorem ConfListR_w (c : Cf) (r : List Int) (h : ConfListR_F c = some r) : FnP Tryz.prog 272 [.agg (Cf.c c)] (· = SL 1 INTc r) := by
  unfold ConfListR_F at h
  refine FnP.intro Tryz.tabOK Tryz.wide_ Tryz.func272 rfl (by decide) rfl (fun X => ?_)
  refine sc rfl ?_
  refine sc rfl ?_
  iterate 2 (first | refine so rfl ?_ | refine sb rfl ?_)
  refine so rfl ?_
  refine sc rfl ?_
  refine sc rfl ?_
  iterate 18 (first | refine so rfl ?_ | refine sb rfl ?_)
  refine sb rfl ?_
  refine O_le _ (Le.lit 21 INTc ([c.quantum, c.rate, c.burst, c.mem, c.slots, c.outs, c.conns, c.state, c.decode] : List Int) rfl rfl rfl (by intro j hj; match j, hj with | 0, _ => rfl | 1, _ => rfl | 2, _ => rfl | 3, _ => rfl | 4, _ => rfl | 5, _ => rfl | 6, _ => rfl | 7, _ => rfl | 8, _ => rfl)) ?_
  iterate 1 (first | refine so rfl ?_ | refine sb rfl ?_)
  refine so rfl ?_
  refine sc rfl ?_
  obtain rfl := Option.some.inj h
  exact ⟨_, rfl, rfl, rfl⟩
noncomputable def ConfCheckR_F (c : Cf) : Option (Int) :=
  Option.bind (ConfListR_F c) (fun r1 => Option.bind (ConfOfR_F r1) (fun r4 => some r4.2))
theorem ConfCheckR_w (c : Cf) (r : Int) (h : ConfCheckR_F c = some r) : FnP Tryz.prog 240 [.agg (Cf.c c)] (· = I64 r) := by
  unfold ConfCheckR_F at h
  refine FnP.intro Tryz.tabOK Tryz.wide_ Tryz.func240 rfl (by decide) rfl (fun X => ?_)
  refine sc rfl ?_
  refine sc rfl ?_
  iterate 2 (first | refine so rfl ?_ | refine sb rfl ?_)
  refine so rfl ?_
  refine sc rfl ?_
  refine sc rfl ?_
  iterate 1 (first | refine so rfl ?_ | refine sb rfl ?_)
  obtain ⟨r1, hr2, h⟩ := bT h
  refine O_call (ConfListR_w _ _ hr2) (by rfl) (by rfl) (by rfl) (by rfl) (fun q3 hq3 => ?_)
  subst hq3
  obtain ⟨r4, hr5, h⟩ := bT h
  refine O_call (ConfOfR_w _ _ hr5) (by rfl) (by rfl) (by rfl) (by rfl) (fun q6 hq6 => ?_)
  subst hq6
  iterate 6 (first | refine so rfl ?_ | refine sb rfl ?_)
  refine so rfl ?_
  refine sc rfl ?_
  refine sc rfl ?_
  iterate 2 (first | refine so rfl ?_ | refine sb rfl ?_)
  refine so rfl ?_
  refine sc rfl ?_
  obtain rfl := Option.some.inj h
  exact ⟨_, rfl, rfl, rfl⟩
noncomputable def FormR_F (o : Ord) : Option (Bool) :=
  Option.bind (α := Bool) (cond (decide (o.op < 1)) (some true) (cond (decide (6 < o.op)) (some true) (cond (decide (o.owner < 1)) (some true) (some (decide (8 < o.owner)))))) (fun m1 => cond m1 (some false) (Option.bind (α := Bool) (cond (o.op != 1) (cond (o.op != 6) (some true) (Option.bind (ConfCheckR_F o.conf) (fun r9 => some (r9 == 0)))) (Option.bind (ConfCheckR_F o.conf) (fun r12 => some (r12 == 0)))) (fun m6 => some m6)))
theorem FormR_w (o : Ord) (r : Bool) (h : FormR_F o = some r) : FnP Tryz.prog 178 [.agg (Ord.c o)] (· = B r) := by
  unfold FormR_F at h
  refine FnP.intro Tryz.tabOK Tryz.wide_ Tryz.func178 rfl (by decide) rfl (fun X => ?_)
  refine sc rfl ?_
  refine sc rfl ?_
  iterate 2 (first | refine so rfl ?_ | refine sb rfl ?_)
  refine so rfl ?_
  refine sc rfl ?_
  refine sc rfl ?_
  obtain ⟨m1, hm1, h⟩ := bT h
  refine C_join ⟨[(1, .bp 1 0), (20, B m1)], [.box 1 134 [.v (.int .u64 o.id), I64 o.op, I64 o.owner, I64 o.conf.quantum, I64 o.conf.rate, I64 o.conf.burst, I64 o.conf.mem, I64 o.conf.slots, I64 o.conf.outs, I64 o.conf.conns, I64 o.conf.state, I64 o.conf.decode]]⟩ ?_ (fun s hm1s => C_le _ hm1s ?_)
  · refine sc rfl ?_
    iterate 4 (first | refine so rfl ?_ | refine sb rfl ?_)
    refine O_case 6 rfl (fun hb2 => ?_) (fun hb2 => ?_)
    · replace hm1 := cT hb2 hm1
      iterate 14 (first | refine so rfl ?_ | refine sb rfl ?_)
      refine so rfl ?_
      obtain rfl := Option.some.inj hm1
      exact Le.sub [1] ⟨rfl, rfl, trivial⟩ rfl
    · replace hm1 := cF hb2 hm1
      iterate 5 (first | refine so rfl ?_ | refine sb rfl ?_)
      refine O_case 11 rfl (fun hb3 => ?_) (fun hb3 => ?_)
      · replace hm1 := cT hb3 hm1
        iterate 9 (first | refine so rfl ?_ | refine sb rfl ?_)
        refine so rfl ?_
        obtain rfl := Option.some.inj hm1
        exact Le.sub [1] ⟨rfl, rfl, trivial⟩ rfl
      · replace hm1 := cF hb3 hm1
        iterate 5 (first | refine so rfl ?_ | refine sb rfl ?_)
        refine O_case 16 rfl (fun hb4 => ?_) (fun hb4 => ?_)
        · replace hm1 := cT hb4 hm1
          iterate 4 (first | refine so rfl ?_ | refine sb rfl ?_)
          refine so rfl ?_
          obtain rfl := Option.some.inj hm1
          exact Le.sub [1] ⟨rfl, rfl, trivial⟩ rfl
        · replace hm1 := cF hb4 hm1
          iterate 4 (first | refine so rfl ?_ | refine sb rfl ?_)
          refine so rfl ?_
          obtain rfl := Option.some.inj hm1
          exact Le.sub [1] ⟨rfl, rfl, trivial⟩ rfl
  refine C_if rfl (fun hb5 => ?_) (fun hb5 => ?_)
  · replace h := cT hb5 h
    refine sc rfl ?_
    refine sc rfl ?_
    iterate 1 (first | refine so rfl ?_ | refine sb rfl ?_)
    refine so rfl ?_
    refine sc rfl ?_
    obtain rfl := Option.some.inj h
    exact ⟨_, rfl, rfl, rfl⟩
  · replace h := cF hb5 h
    refine sc rfl ?_
    refine sc rfl ?_
    obtain ⟨m6, hm6, h⟩ := bT h
    refine C_join ⟨[(2, B m6)], [.box 1 134 [.v (.int .u64 o.id), I64 o.op, I64 o.owner, I64 o.conf.quantum, I64 o.conf.rate, I64 o.conf.burst, I64 o.conf.mem, I64 o.conf.slots, I64 o.conf.outs, I64 o.conf.conns, I64 o.conf.state, I64 o.conf.decode]]⟩ ?_ (fun s hm6s => C_le _ hm6s ?_)
    · refine sc rfl ?_
      iterate 4 (first | refine so rfl ?_ | refine sb rfl ?_)
      refine O_case 24 rfl (fun hb7 => ?_) (fun hb7 => ?_)
      · replace hm6 := cT hb7 hm6
        iterate 5 (first | refine so rfl ?_ | refine sb rfl ?_)
        refine O_case 29 rfl (fun hb8 => ?_) (fun hb8 => ?_)
        · replace hm6 := cT hb8 hm6
          iterate 6 (first | refine so rfl ?_ | refine sb rfl ?_)
          refine so rfl ?_
          obtain rfl := Option.some.inj hm6
          exact Le.sub [1] ⟨rfl, trivial⟩ rfl
        · replace hm6 := cF hb8 hm6
          iterate 2 (first | refine so rfl ?_ | refine sb rfl ?_)
          obtain ⟨r9, hr10, hm6⟩ := bT hm6
          refine O_call (ConfCheckR_w _ _ hr10) (by rfl) (by rfl) (by rfl) (by rfl) (fun q11 hq11 => ?_)
          subst hq11
          iterate 3 (first | refine so rfl ?_ | refine sb rfl ?_)
          refine so rfl ?_
          obtain rfl := Option.some.inj hm6
          exact Le.sub [1] ⟨rfl, trivial⟩ rfl
      · replace hm6 := cF hb7 hm6
        iterate 7 (first | refine so rfl ?_ | refine sb rfl ?_)
        obtain ⟨r12, hr13, hm6⟩ := bT hm6
        refine O_call (ConfCheckR_w _ _ hr13) (by rfl) (by rfl) (by rfl) (by rfl) (fun q14 hq14 => ?_)
        subst hq14
        iterate 3 (first | refine so rfl ?_ | refine sb rfl ?_)
        refine so rfl ?_
        obtain rfl := Option.some.inj hm6
        exact Le.sub [1] ⟨rfl, trivial⟩ rfl
    refine sc rfl ?_
    obtain rfl := Option.some.inj h
    exact ⟨_, rfl, rfl, rfl⟩
noncomputable def BookOfR_F (k : Bk) (owner : Int) : Option (Tn) :=
  Option.bind (α := Bool) (cond (decide (owner < 0)) (some true) (some (decide (8 < owner)))) (fun m1 => cond m1 (some (⟨false, false, (⟨0, 0, 0, 0, 0, 0, 0, 0, 0⟩ : Cf)⟩ : Tn)) (chk ((0 : Int) ≤ owner ∧ owner < (k.l.length : Int)) (some (⟨(k.l.getD (Int.toNat owner) default).lives, (k.l.getD (Int.toNat owner) default).rests, ((k.l.getD (Int.toNat owner) default).conf)⟩ : Tn))))
theorem BookOfR_w (k : Bk) (owner : Int) (r : Tn) (h : BookOfR_F k owner = some r) : FnP Tryz.prog 65 [.agg (Bk.c k), I64 owner] (· = .agg (Tn.c r)) := by
  unfold BookOfR_F at h
  refine FnP.intro Tryz.tabOK Tryz.wide_ Tryz.func65 rfl (by decide) rfl (fun X => ?_)
  refine sc rfl ?_
  refine sc rfl ?_
  iterate 2 (first | refine so rfl ?_ | refine sb rfl ?_)
  refine so rfl ?_
  refine sc rfl ?_
  refine sc rfl ?_
  obtain ⟨m1, hm1, h⟩ := bT h
  refine C_join ⟨[(1, I64 owner), (2, .bp 2 0), (4, .bp 4 0), (10, B m1)], [.box 2 131 [SL 11 Tn.c k.l], .box 4 144 [B false, B false, I64 0, I64 0, I64 0, I64 0, I64 0, I64 0, I64 0, I64 0, I64 0]]⟩ ?_ (fun s hm1s => C_le _ hm1s ?_)
  · refine sc rfl ?_
    iterate 3 (first | refine so rfl ?_ | refine sb rfl ?_)
    refine O_case 7 rfl (fun hb2 => ?_) (fun hb2 => ?_)
    · replace hm1 := cT hb2 hm1
      iterate 3 (first | refine so rfl ?_ | refine sb rfl ?_)
      refine so rfl ?_
      obtain rfl := Option.some.inj hm1
      exact Le.sub [2, 4] ⟨rfl, rfl, rfl, rfl, trivial⟩ rfl
    · replace hm1 := cF hb2 hm1
      iterate 3 (first | refine so rfl ?_ | refine sb rfl ?_)
      refine so rfl ?_
      obtain rfl := Option.some.inj hm1
      exact Le.sub [2, 4] ⟨rfl, rfl, rfl, rfl, trivial⟩ rfl
  refine C_if rfl (fun hb3 => ?_) (fun hb3 => ?_)
  · replace h := cT hb3 h
    refine sc rfl ?_
    refine sc rfl ?_
    iterate 1 (first | refine so rfl ?_ | refine sb rfl ?_)
    iterate 1 (first | refine so rfl ?_ | refine sb rfl ?_)
    refine so rfl ?_
    refine sc rfl ?_
    obtain rfl := Option.some.inj h
    exact ⟨_, rfl, rfl, rfl⟩
  · replace h := cF hb3 h
    refine sc rfl ?_
    refine sc rfl ?_
    refine sc rfl ?_
    iterate 3 (first | refine so rfl ?_ | refine sb rfl ?_)
    obtain ⟨g4, h⟩ := gT h
    refine so rfl (And.intro g4 ?_)
    iterate 1 (first | refine so rfl ?_ | refine sb rfl ?_)
    iterate 1 (first | refine so rfl ?_ | refine sb rfl ?_)
    refine so rfl ?_
    refine sc rfl ?_
    obtain rfl := Option.some.inj h
    exact ⟨_, rfl, rfl, rfl⟩
noncomputable def CheckR_F (k : Bk) (o : Ord) : Option (Int) :=
  Option.bind (FormR_F o) (fun r1 => cond (!r1) (some 1) (Option.bind (BookOfR_F k o.owner) (fun r5 => Option.bind (α := Bool) (cond (o.op == 1) (some r5.lives) (some false)) (fun m8 => cond m8 (some 7) (Option.bind (α := Bool) (cond (o.op != 1) (some (!r5.lives)) (some false)) (fun m11 => cond m11 (some 12) (Option.bind (α := Bool) (cond (o.op == 2) (cond r5.rests (some true) (cond (o.op == 3) (some (!r5.rests)) (some false))) (cond (o.op == 3) (some (!r5.rests)) (some false))) (fun m14 => cond m14 (some 17) (some 0)))))))))
theorem CheckR_w (k : Bk) (o : Ord) (r : Int) (h : CheckR_F k o = some r) : FnP Tryz.prog 107 [.agg (Bk.c k), .agg (Ord.c o)] (· = I64 r) := by
  unfold CheckR_F at h
  refine FnP.intro Tryz.tabOK Tryz.wide_ Tryz.func107 rfl (by decide) rfl (fun X => ?_)
  refine sc rfl ?_
  refine sc rfl ?_
  iterate 3 (first | refine so rfl ?_ | refine sb rfl ?_)
  refine so rfl ?_
  refine sc rfl ?_
  refine sc rfl ?_
  refine sc rfl ?_
  iterate 1 (first | refine so rfl ?_ | refine sb rfl ?_)
  obtain ⟨r1, hr2, h⟩ := bT h
  refine O_call (FormR_w _ _ hr2) (by rfl) (by rfl) (by rfl) (by rfl) (fun q3 hq3 => ?_)
  subst hq3
  iterate 1 (first | refine so rfl ?_ | refine sb rfl ?_)
  refine so rfl ?_
  refine C_if rfl (fun hb4 => ?_) (fun hb4 => ?_)
  · replace h := cT hb4 h
    refine sc rfl ?_
    refine sc rfl ?_
    iterate 1 (first | refine so rfl ?_ | refine sb rfl ?_)
    refine so rfl ?_
    refine sc rfl ?_
    obtain rfl := Option.some.inj h
    exact ⟨_, rfl, rfl, rfl⟩
  · replace h := cF hb4 h
    refine sc rfl ?_
    refine sc rfl ?_
    refine sc rfl ?_
    iterate 1 (first | refine so rfl ?_ | refine sb rfl ?_)
    iterate 2 (first | refine so rfl ?_ | refine sb rfl ?_)
    obtain ⟨r5, hr6, h⟩ := bT h
    refine O_call (BookOfR_w _ _ _ hr6) (by rfl) (by rfl) (by rfl) (by rfl) (fun q7 hq7 => ?_)
    subst hq7
    iterate 2 (first | refine so rfl ?_ | refine sb rfl ?_)
    refine so rfl ?_
    refine sc rfl ?_
    refine sc rfl ?_
    obtain ⟨m8, hm8, h⟩ := bT h
    refine C_join ⟨[(3, .bp 3 0), (5, .bp 5 0), (19, B m8)], [.box 5 144 [B r5.lives, B r5.rests, I64 r5.conf.quantum, I64 r5.conf.rate, I64 r5.conf.burst, I64 r5.conf.mem, I64 r5.conf.slots, I64 r5.conf.outs, I64 r5.conf.conns, I64 r5.conf.state, I64 r5.conf.decode], .box 2 131 [SL 11 Tn.c k.l], .box 3 134 [.v (.int .u64 o.id), I64 o.op, I64 o.owner, I64 o.conf.quantum, I64 o.conf.rate, I64 o.conf.burst, I64 o.conf.mem, I64 o.conf.slots, I64 o.conf.outs, I64 o.conf.conns, I64 o.conf.state, I64 o.conf.decode]]⟩ ?_ (fun s hm8s => C_le _ hm8s ?_)
    · refine sc rfl ?_
      iterate 4 (first | refine so rfl ?_ | refine sb rfl ?_)
      refine O_case 16 rfl (fun hb9 => ?_) (fun hb9 => ?_)
      · replace hm8 := cT hb9 hm8
        iterate 3 (first | refine so rfl ?_ | refine sb rfl ?_)
        refine so rfl ?_
        obtain rfl := Option.some.inj hm8
        exact Le.sub [5, 2, 3] ⟨rfl, rfl, rfl, trivial⟩ rfl
      · replace hm8 := cF hb9 hm8
        iterate 3 (first | refine so rfl ?_ | refine sb rfl ?_)
        refine so rfl ?_
        obtain rfl := Option.some.inj hm8
        exact Le.sub [5, 2, 3] ⟨rfl, rfl, rfl, trivial⟩ rfl
    refine C_if rfl (fun hb10 => ?_) (fun hb10 => ?_)
    · replace h := cT hb10 h
      refine sc rfl ?_
      refine sc rfl ?_
      iterate 1 (first | refine so rfl ?_ | refine sb rfl ?_)
      refine so rfl ?_
      refine sc rfl ?_
      obtain rfl := Option.some.inj h
      exact ⟨_, rfl, rfl, rfl⟩
    · replace h := cF hb10 h
      refine sc rfl ?_
      refine sc rfl ?_
      refine sc rfl ?_
      obtain ⟨m11, hm11, h⟩ := bT h
      refine C_join ⟨[(3, .bp 3 0), (5, .bp 5 0), (27, B m11)], [.box 5 144 [B r5.lives, B r5.rests, I64 r5.conf.quantum, I64 r5.conf.rate, I64 r5.conf.burst, I64 r5.conf.mem, I64 r5.conf.slots, I64 r5.conf.outs, I64 r5.conf.conns, I64 r5.conf.state, I64 r5.conf.decode], .box 2 131 [SL 11 Tn.c k.l], .box 3 134 [.v (.int .u64 o.id), I64 o.op, I64 o.owner, I64 o.conf.quantum, I64 o.conf.rate, I64 o.conf.burst, I64 o.conf.mem, I64 o.conf.slots, I64 o.conf.outs, I64 o.conf.conns, I64 o.conf.state, I64 o.conf.decode]]⟩ ?_ (fun s hm11s => C_le _ hm11s ?_)
      · refine sc rfl ?_
        iterate 4 (first | refine so rfl ?_ | refine sb rfl ?_)
        refine O_case 23 rfl (fun hb12 => ?_) (fun hb12 => ?_)
        · replace hm11 := cT hb12 hm11
          iterate 4 (first | refine so rfl ?_ | refine sb rfl ?_)
          refine so rfl ?_
          obtain rfl := Option.some.inj hm11
          exact Le.sub [5, 2, 3] ⟨rfl, rfl, rfl, trivial⟩ rfl
        · replace hm11 := cF hb12 hm11
          iterate 4 (first | refine so rfl ?_ | refine sb rfl ?_)
          refine so rfl ?_
          obtain rfl := Option.some.inj hm11
          exact Le.sub [5, 2, 3] ⟨rfl, rfl, rfl, trivial⟩ rfl
      refine C_if rfl (fun hb13 => ?_) (fun hb13 => ?_)
      · replace h := cT hb13 h
        refine sc rfl ?_
        refine sc rfl ?_
        iterate 1 (first | refine so rfl ?_ | refine sb rfl ?_)
        refine so rfl ?_
        refine sc rfl ?_
        obtain rfl := Option.some.inj h
        exact ⟨_, rfl, rfl, rfl⟩
      · replace h := cF hb13 h
        refine sc rfl ?_
        refine sc rfl ?_
        refine sc rfl ?_
        obtain ⟨m14, hm14, h⟩ := bT h
        refine C_join ⟨[(44, B m14)], [.box 5 144 [B r5.lives, B r5.rests, I64 r5.conf.quantum, I64 r5.conf.rate, I64 r5.conf.burst, I64 r5.conf.mem, I64 r5.conf.slots, I64 r5.conf.outs, I64 r5.conf.conns, I64 r5.conf.state, I64 r5.conf.decode], .box 2 131 [SL 11 Tn.c k.l], .box 3 134 [.v (.int .u64 o.id), I64 o.op, I64 o.owner, I64 o.conf.quantum, I64 o.conf.rate, I64 o.conf.burst, I64 o.conf.mem, I64 o.conf.slots, I64 o.conf.outs, I64 o.conf.conns, I64 o.conf.state, I64 o.conf.decode]]⟩ ?_ (fun s hm14s => C_le _ hm14s ?_)
        · refine sc rfl ?_
          iterate 4 (first | refine so rfl ?_ | refine sb rfl ?_)
          refine O_case 31 rfl (fun hb15 => ?_) (fun hb15 => ?_)
          · replace hm14 := cT hb15 hm14
            iterate 4 (first | refine so rfl ?_ | refine sb rfl ?_)
            refine O_case 35 rfl (fun hb16 => ?_) (fun hb16 => ?_)
            · replace hm14 := cT hb16 hm14
              iterate 9 (first | refine so rfl ?_ | refine sb rfl ?_)
              refine so rfl ?_
              obtain rfl := Option.some.inj hm14
              exact Le.sub [5, 2, 3] ⟨rfl, trivial⟩ rfl
            · replace hm14 := cF hb16 hm14
              iterate 4 (first | refine so rfl ?_ | refine sb rfl ?_)
              refine O_case 39 rfl (fun hb17 => ?_) (fun hb17 => ?_)
              · replace hm14 := cT hb17 hm14
                iterate 5 (first | refine so rfl ?_ | refine sb rfl ?_)
                refine so rfl ?_
                obtain rfl := Option.some.inj hm14
                exact Le.sub [5, 2, 3] ⟨rfl, trivial⟩ rfl
              · replace hm14 := cF hb17 hm14
                iterate 5 (first | refine so rfl ?_ | refine sb rfl ?_)
                refine so rfl ?_
                obtain rfl := Option.some.inj hm14
                exact Le.sub [5, 2, 3] ⟨rfl, trivial⟩ rfl
          · replace hm14 := cF hb15 hm14
            iterate 8 (first | refine so rfl ?_ | refine sb rfl ?_)
            refine O_case 39 rfl (fun hb18 => ?_) (fun hb18 => ?_)
            · replace hm14 := cT hb18 hm14
              iterate 5 (first | refine so rfl ?_ | refine sb rfl ?_)
              refine so rfl ?_
              obtain rfl := Option.some.inj hm14
              exact Le.sub [5, 2, 3] ⟨rfl, trivial⟩ rfl
            · replace hm14 := cF hb18 hm14
              iterate 5 (first | refine so rfl ?_ | refine sb rfl ?_)
              refine so rfl ?_
              obtain rfl := Option.some.inj hm14
              exact Le.sub [5, 2, 3] ⟨rfl, trivial⟩ rfl
        refine C_if rfl (fun hb19 => ?_) (fun hb19 => ?_)
        · replace h := cT hb19 h
          refine sc rfl ?_
          refine sc rfl ?_
          iterate 1 (first | refine so rfl ?_ | refine sb rfl ?_)
          refine so rfl ?_
          refine sc rfl ?_
          obtain rfl := Option.some.inj h
          exact ⟨_, rfl, rfl, rfl⟩
        · replace h := cF hb19 h
          refine sc rfl ?_
          refine sc rfl ?_
          refine sc rfl ?_
          iterate 1 (first | refine so rfl ?_ | refine sb rfl ?_)
          refine so rfl ?_
          refine sc rfl ?_
          obtain rfl := Option.some.inj h
          exact ⟨_, rfl, rfl, rfl⟩
noncomputable def AsksR_F (k : Int) : Option (Bool) :=
  Option.bind (α := Bool) (cond (k == 2) (some true) (cond (k == 3) (some true) (cond (k == 4) (some true) (cond (k == 6) (some true) (some (k == 7)))))) (fun m1 => some m1)
theorem AsksR_w (k : Int) (r : Bool) (h : AsksR_F k = some r) : FnP Tryz.prog 108 [I64 k] (· = B r) := by
  unfold AsksR_F at h
  refine FnP.intro Tryz.tabOK Tryz.wide_ Tryz.func108 rfl (by decide) rfl (fun X => ?_)
  refine sc rfl ?_
  refine sc rfl ?_
  iterate 1 (first | refine so rfl ?_ | refine sb rfl ?_)
  refine so rfl ?_
  refine sc rfl ?_
  obtain ⟨m1, hm1, h⟩ := bT h
  refine C_join ⟨[(2, B m1)], []⟩ ?_ (fun s hm1s => C_le _ hm1s ?_)
  · refine sc rfl ?_
    iterate 3 (first | refine so rfl ?_ | refine sb rfl ?_)
    refine O_case 5 rfl (fun hb2 => ?_) (fun hb2 => ?_)
    · replace hm1 := cT hb2 hm1
      iterate 16 (first | refine so rfl ?_ | refine sb rfl ?_)
      refine so rfl ?_
      obtain rfl := Option.some.inj hm1
      exact Le.sub [] ⟨rfl, trivial⟩ rfl
    · replace hm1 := cF hb2 hm1
      iterate 4 (first | refine so rfl ?_ | refine sb rfl ?_)
      refine O_case 9 rfl (fun hb3 => ?_) (fun hb3 => ?_)
      · replace hm1 := cT hb3 hm1
        iterate 12 (first | refine so rfl ?_ | refine sb rfl ?_)
        refine so rfl ?_
        obtain rfl := Option.some.inj hm1
        exact Le.sub [] ⟨rfl, trivial⟩ rfl
      · replace hm1 := cF hb3 hm1
        iterate 4 (first | refine so rfl ?_ | refine sb rfl ?_)
        refine O_case 13 rfl (fun hb4 => ?_) (fun hb4 => ?_)
        · replace hm1 := cT hb4 hm1
          iterate 8 (first | refine so rfl ?_ | refine sb rfl ?_)
          refine so rfl ?_
          obtain rfl := Option.some.inj hm1
          exact Le.sub [] ⟨rfl, trivial⟩ rfl
        · replace hm1 := cF hb4 hm1
          iterate 4 (first | refine so rfl ?_ | refine sb rfl ?_)
          refine O_case 17 rfl (fun hb5 => ?_) (fun hb5 => ?_)
          · replace hm1 := cT hb5 hm1
            iterate 4 (first | refine so rfl ?_ | refine sb rfl ?_)
            refine so rfl ?_
            obtain rfl := Option.some.inj hm1
            exact Le.sub [] ⟨rfl, trivial⟩ rfl
          · replace hm1 := cF hb5 hm1
            iterate 4 (first | refine so rfl ?_ | refine sb rfl ?_)
            refine so rfl ?_
            obtain rfl := Option.some.inj hm1
            exact Le.sub [] ⟨rfl, trivial⟩ rfl
  refine sc rfl ?_
  obtain rfl := Option.some.inj h
  exact ⟨_, rfl, rfl, rfl⟩
noncomputable def CameInR_F (x : Rw) (owner : Int) : Option (Bool) :=
  Option.bind (α := Bool) (cond (x.act == 1) (cond (x.note.owner == owner) (cond (x.note.err == 0) (Option.bind (AsksR_F x.note.kind) (fun r5 => some r5)) (some false)) (some false)) (some false)) (fun m1 => some m1)
theorem CameInR_w (x : Rw) (owner : Int) (r : Bool) (h : CameInR_F x owner = some r) : FnP Tryz.prog 64 [.agg (Rw.c x), I64 owner] (· = B r) := by
  unfold CameInR_F at h
  refine FnP.intro Tryz.tabOK Tryz.wide_ Tryz.func64 rfl (by decide) rfl (fun X => ?_)
  refine sc rfl ?_
  refine sc rfl ?_
  iterate 2 (first | refine so rfl ?_ | refine sb rfl ?_)
  refine so rfl ?_
  refine sc rfl ?_
  obtain ⟨m1, hm1, h⟩ := bT h
  refine C_join ⟨[(4, B m1)], [.box 2 30 [I64 x.fat, I64 x.act, I64 x.note.conn, I64 x.note.owner, I64 x.note.kind, .s x.note.body, I64 x.note.err, .s x.note.reply]]⟩ ?_ (fun s hm1s => C_le _ hm1s ?_)
  · refine sc rfl ?_
    iterate 4 (first | refine so rfl ?_ | refine sb rfl ?_)
    refine O_case 8 rfl (fun hb2 => ?_) (fun hb2 => ?_)
    · replace hm1 := cT hb2 hm1
      iterate 7 (first | refine so rfl ?_ | refine sb rfl ?_)
      refine O_case 15 rfl (fun hb3 => ?_) (fun hb3 => ?_)
      · replace hm1 := cT hb3 hm1
        iterate 6 (first | refine so rfl ?_ | refine sb rfl ?_)
        refine O_case 21 rfl (fun hb4 => ?_) (fun hb4 => ?_)
        · replace hm1 := cT hb4 hm1
          iterate 3 (first | refine so rfl ?_ | refine sb rfl ?_)
          obtain ⟨r5, hr6, hm1⟩ := bT hm1
          refine O_call (AsksR_w _ _ hr6) (by rfl) (by rfl) (by rfl) (by rfl) (fun q7 hq7 => ?_)
          subst hq7
          iterate 2 (first | refine so rfl ?_ | refine sb rfl ?_)
          refine so rfl ?_
          obtain rfl := Option.some.inj hm1
          exact Le.sub [2] ⟨rfl, trivial⟩ rfl
        · replace hm1 := cF hb4 hm1
          iterate 6 (first | refine so rfl ?_ | refine sb rfl ?_)
          refine so rfl ?_
          obtain rfl := Option.some.inj hm1
          exact Le.sub [2] ⟨rfl, trivial⟩ rfl
      · replace hm1 := cF hb3 hm1
        iterate 12 (first | refine so rfl ?_ | refine sb rfl ?_)
        refine so rfl ?_
        obtain rfl := Option.some.inj hm1
        exact Le.sub [2] ⟨rfl, trivial⟩ rfl
    · replace hm1 := cF hb2 hm1
      iterate 19 (first | refine so rfl ?_ | refine sb rfl ?_)
      refine so rfl ?_
      obtain rfl := Option.some.inj hm1
      exact Le.sub [2] ⟨rfl, trivial⟩ rfl
  refine sc rfl ?_
  obtain rfl := Option.some.inj h
  exact ⟨_, rfl, rfl, rfl⟩
noncomputable def CostR_F (n : Int) : Option (Int) :=
  cond (decide (n < 0)) (some 16) (cond (decide (1024 < n)) (some 1040) (some (IntKind.i64.wrap (16 + n))))
theorem CostR_w (n : Int) (r : Int) (h : CostR_F n = some r) : FnP Tryz.prog 109 [I64 n] (· = I64 r) := by
  unfold CostR_F at h
  refine FnP.intro Tryz.tabOK Tryz.wide_ Tryz.func109 rfl (by decide) rfl (fun X => ?_)
  refine sc rfl ?_
  refine sc rfl ?_
  iterate 1 (first | refine so rfl ?_ | refine sb rfl ?_)
  refine so rfl ?_
  refine sc rfl ?_
  refine sc rfl ?_
  refine sc rfl ?_
  iterate 2 (first | refine so rfl ?_ | refine sb rfl ?_)
  refine so rfl ?_
  refine C_if rfl (fun hb1 => ?_) (fun hb1 => ?_)
  · replace h := cT hb1 h
    refine sc rfl ?_
    refine sc rfl ?_
    iterate 1 (first | refine so rfl ?_ | refine sb rfl ?_)
    refine so rfl ?_
    refine sc rfl ?_
    obtain rfl := Option.some.inj h
    exact ⟨_, rfl, rfl, rfl⟩
  · replace h := cF hb1 h
    refine sc rfl ?_
    refine sc rfl ?_
    refine sc rfl ?_
    refine sc rfl ?_
    iterate 2 (first | refine so rfl ?_ | refine sb rfl ?_)
    refine so rfl ?_
    refine C_if rfl (fun hb2 => ?_) (fun hb2 => ?_)
    · replace h := cT hb2 h
      refine sc rfl ?_
      refine sc rfl ?_
      iterate 1 (first | refine so rfl ?_ | refine sb rfl ?_)
      refine so rfl ?_
      refine sc rfl ?_
      obtain rfl := Option.some.inj h
      exact ⟨_, rfl, rfl, rfl⟩
    · replace h := cF hb2 h
      refine sc rfl ?_
      refine sc rfl ?_
      refine sc rfl ?_
      iterate 3 (first | refine so rfl ?_ | refine sb rfl ?_)
      refine so rfl ?_
      refine sc rfl ?_
      obtain rfl := Option.some.inj h
      exact ⟨_, rfl, rfl, rfl⟩
noncomputable def AllR_L1 (k : Bk) (s1 : Int × List Int) : Option ((Int × List Int) ⊕ ((List Int))) :=
  cond (decide (s1.1 < (k.l.length : Int))) (chk ((0 : Int) ≤ s1.1 ∧ s1.1 < (k.l.length : Int)) (cond ((k.l.getD (Int.toNat s1.1) default).lives) (chk (s1.2.length < 100000000000) (some (Sum.inl (IntKind.i64.wrap (s1.1 + 1), s1.2 ++ [s1.1])))) (some (Sum.inl (IntKind.i64.wrap (s1.1 + 1), s1.2))))) (some (Sum.inr (s1.2)))
noncomputable def AllR_F (k : Bk) : Option (List Int) :=
  Option.bind (Iter (AllR_L1 k) (0, ([] : List Int))) (fun o2 => some o2)
theorem AllR_w (k : Bk) (r : List Int) (h : AllR_F k = some r) : FnP Tryz.prog 110 [.agg (Bk.c k)] (· = SL 1 INTc r) := by
  unfold AllR_F at h
  refine FnP.intro Tryz.tabOK Tryz.wide_ Tryz.func110 rfl (by decide) rfl (fun X => ?_)
  refine sc rfl ?_
  refine sc rfl ?_
  iterate 2 (first | refine so rfl ?_ | refine sb rfl ?_)
  refine so rfl ?_
  refine sc rfl ?_
  refine sc rfl ?_
  iterate 1 (first | refine so rfl ?_ | refine sb rfl ?_)
  refine so rfl ?_
  refine sc rfl ?_
  refine sc rfl ?_
  refine sc rfl ?_
  iterate 1 (first | refine so rfl ?_ | refine sb rfl ?_)
  refine so rfl ?_
  refine C_le _ (Le.nilvec INTc 3 21 3 1 rfl rfl rfl) ?_
  obtain ⟨o2, ho2, h⟩ := bT h
  refine C_joinP ⟨[(3, .own 21)], [VEC 21 3 1 INTc o2]⟩ True ?_ (fun s hs hp => ?_)
  · refine sc rfl ?_
    refine C_iter (fun s1 : Int × List Int => ⟨[(1, .bp 1 0), (3, .own 21), (4, I64 s1.1)], [.box 1 131 [SL 11 Tn.c k.l], VEC 21 3 1 INTc s1.2]⟩) ho2 (Le.sub [1, 21] ⟨rfl, rfl, rfl, trivial⟩ rfl) (fun s1 y3 hy4 hr5 => ?_)
    unfold AllR_L1 at hy4
    refine sc rfl ?_
    refine sc rfl ?_
    refine sc rfl ?_
    iterate 5 (first | refine so rfl ?_ | refine sb rfl ?_)
    refine so rfl ?_
    refine C_if rfl (fun hb7 => ?_) (fun hb7 => ?_)
    · replace hy4 := cT hb7 hy4
      refine sc rfl ?_
      refine sc rfl ?_
      refine sc rfl ?_
      refine sc rfl ?_
      refine sc rfl ?_
      iterate 3 (first | refine so rfl ?_ | refine sb rfl ?_)
      obtain ⟨g8, hy4⟩ := gT hy4
      refine so rfl (And.intro g8 ?_)
      iterate 2 (first | refine so rfl ?_ | refine sb rfl ?_)
      refine so rfl ?_
      refine C_if rfl (fun hb9 => ?_) (fun hb9 => ?_)
      · replace hy4 := cT hb9 hy4
        refine sc rfl ?_
        iterate 2 (first | refine so rfl ?_ | refine sb rfl ?_)
        refine sb rfl ?_
        obtain ⟨g10, hy4⟩ := gT hy4
        refine O_push (by_ := 8) INTc s1.2 s1.1 [(1, .bp 1 0), (4, I64 s1.1)] rfl rfl rfl rfl rfl rfl rfl rfl rfl rfl ⟨rfl, rfl, trivial⟩ rfl rfl (by omega) (by simp only [maxLen]; omega) ?_
        iterate 1 (first | refine so rfl ?_ | refine sb rfl ?_)
        refine so rfl ?_
        refine sc rfl ?_
        iterate 3 (first | refine so rfl ?_ | refine sb rfl ?_)
        refine so rfl ?_
        obtain rfl := Option.some.inj hy4
        exact ⟨_, rfl, Le.sub [1, 21] ⟨rfl, rfl, rfl, trivial⟩ rfl⟩
      · replace hy4 := cF hb9 hy4
        refine sc rfl ?_
        refine sc rfl ?_
        iterate 3 (first | refine so rfl ?_ | refine sb rfl ?_)
        refine so rfl ?_
        obtain rfl := Option.some.inj hy4
        exact ⟨_, rfl, Le.sub [1, 21] ⟨rfl, rfl, rfl, trivial⟩ rfl⟩
    · replace hy4 := cF hb7 hy4
      refine sc rfl ?_
      obtain rfl := Option.some.inj hy4
      have ho22 := hr5 _ rfl
      subst ho22
      exact ⟨Le.sub [21] ⟨rfl, trivial⟩ rfl, trivial⟩
  refine C_le ⟨[(3, .own 21)], [VEC 21 3 1 INTc o2]⟩ hs ?_
  refine sc rfl ?_
  refine sc rfl ?_
  iterate 2 (first | refine so rfl ?_ | refine sb rfl ?_)
  refine so rfl ?_
  refine C_le _ (Le.freezeL 2 rfl rfl) ?_
  refine sc rfl ?_
  obtain rfl := Option.some.inj h
  exact ⟨_, rfl, rfl, rfl⟩
noncomputable def QuantumR_F (q : Int) : Option (Int) :=
  cond (decide (q < 1)) (some 1) (cond (decide (1048576 < q)) (some 1048576) (some q))
theorem QuantumR_w (q : Int) (r : Int) (h : QuantumR_F q = some r) : FnP Tryz.prog 179 [I64 q] (· = I64 r) := by
  unfold QuantumR_F at h
  refine FnP.intro Tryz.tabOK Tryz.wide_ Tryz.func179 rfl (by decide) rfl (fun X => ?_)
  refine sc rfl ?_
  refine sc rfl ?_
  iterate 1 (first | refine so rfl ?_ | refine sb rfl ?_)
  refine so rfl ?_
  refine sc rfl ?_
  refine sc rfl ?_
  refine sc rfl ?_
  iterate 2 (first | refine so rfl ?_ | refine sb rfl ?_)
  refine so rfl ?_
  refine C_if rfl (fun hb1 => ?_) (fun hb1 => ?_)
  · replace h := cT hb1 h
    refine sc rfl ?_
    refine sc rfl ?_
    iterate 1 (first | refine so rfl ?_ | refine sb rfl ?_)
    refine so rfl ?_
    refine sc rfl ?_
    obtain rfl := Option.some.inj h
    exact ⟨_, rfl, rfl, rfl⟩
  · replace h := cF hb1 h
    refine sc rfl ?_
    refine sc rfl ?_
    refine sc rfl ?_
    refine sc rfl ?_
    iterate 2 (first | refine so rfl ?_ | refine sb rfl ?_)
    refine so rfl ?_
    refine C_if rfl (fun hb2 => ?_) (fun hb2 => ?_)
    · replace h := cT hb2 h
      refine sc rfl ?_
      refine sc rfl ?_
      iterate 1 (first | refine so rfl ?_ | refine sb rfl ?_)
      refine so rfl ?_
      refine sc rfl ?_
      obtain rfl := Option.some.inj h
      exact ⟨_, rfl, rfl, rfl⟩
    · replace h := cF hb2 h
      refine sc rfl ?_
      refine sc rfl ?_
      refine sc rfl ?_
      iterate 2 (first | refine so rfl ?_ | refine sb rfl ?_)
      refine so rfl ?_
      refine sc rfl ?_
      obtain rfl := Option.some.inj h
      exact ⟨_, rfl, rfl, rfl⟩
noncomputable def RoundR_F (q : Int) : Option (Int) :=
  Option.bind (QuantumR_F q) (fun r1 => chk ((16 : Int) ≠ 0) (some (IntKind.i64.wrap (Int.tdiv (IntKind.i64.wrap (r1 + 1040)) 16))))
theorem RoundR_w (q : Int) (r : Int) (h : RoundR_F q = some r) : FnP Tryz.prog 180 [I64 q] (· = I64 r) := by
  unfold RoundR_F at h
  refine FnP.intro Tryz.tabOK Tryz.wide_ Tryz.func180 rfl (by decide) rfl (fun X => ?_)
  refine sc rfl ?_
  refine sc rfl ?_
  iterate 1 (first | refine so rfl ?_ | refine sb rfl ?_)
  refine so rfl ?_
  refine sc rfl ?_
  refine sc rfl ?_
  iterate 1 (first | refine so rfl ?_ | refine sb rfl ?_)
  obtain ⟨r1, hr2, h⟩ := bT h
  refine O_call (QuantumR_w _ _ hr2) (by rfl) (by rfl) (by rfl) (by rfl) (fun q3 hq3 => ?_)
  subst hq3
  iterate 1 (first | refine so rfl ?_ | refine sb rfl ?_)
  obtain ⟨g4, h⟩ := gT h
  refine so rfl (And.intro g4 ?_)
  iterate 1 (first | refine so rfl ?_ | refine sb rfl ?_)
  refine so rfl ?_
  refine sc rfl ?_
  obtain rfl := Option.some.inj h
  exact ⟨_, rfl, rfl, rfl⟩
end Go.Proofs

/- Lists compared; late waits (printed by gen.py) -/
set_option linter.unusedSimpArgs false
set_option linter.unusedVariables false
set_option maxRecDepth 100000
namespace Go.Proofs
open Go.Sy Go.Lib

noncomputable def IntsR_L2 (a : List Int) (b : List Int) (s2 : Int) : Option ((Int) ⊕ ((Bool) ⊕ (Unit))) :=
  cond (decide (s2 < (a.length : Int))) (chk ((0 : Int) ≤ s2 ∧ s2 < (a.length : Int)) (chk ((0 : Int) ≤ s2 ∧ s2 < (b.length : Int)) (cond ((a.getD (Int.toNat s2) default) != (b.getD (Int.toNat s2) default)) (some (Sum.inr ((Sum.inl false)))) (some (Sum.inl (IntKind.i64.wrap (s2 + 1))))))) (some (Sum.inr ((Sum.inr ()))))
noncomputable def IntsR_F (a : List Int) (b : List Int) : Option (Bool) :=
  cond ((a.length : Int) != (b.length : Int)) (some false) (Option.bind (Iter (IntsR_L2 a b) 0) (Sum.elim (fun c12 => some c12) (fun b7 => some true)))
theorem IntsR_w (a : List Int) (b : List Int) (r : Bool) (h : IntsR_F a b = some r) : FnP Tryz.prog 18 [SL 1 INTc a, SL 1 INTc b] (· = B r) := by
  unfold IntsR_F at h
  refine FnP.intro Tryz.tabOK Tryz.wide_ Tryz.func18 rfl (by decide) rfl (fun X => ?_)
  refine sc rfl ?_
  refine sc rfl ?_
  iterate 1 (first | refine so rfl ?_ | refine sb rfl ?_)
  refine so rfl ?_
  refine sc rfl ?_
  refine sc rfl ?_
  refine sc rfl ?_
  iterate 5 (first | refine so rfl ?_ | refine sb rfl ?_)
  refine so rfl ?_
  refine C_if rfl (fun hb1 => ?_) (fun hb1 => ?_)
  · replace h := cT hb1 h
    refine sc rfl ?_
    refine sc rfl ?_
    iterate 1 (first | refine so rfl ?_ | refine sb rfl ?_)
    refine so rfl ?_
    refine sc rfl ?_
    obtain rfl := Option.some.inj h
    exact ⟨_, rfl, rfl, rfl⟩
  · replace h := cF hb1 h
    refine sc rfl ?_
    refine sc rfl ?_
    refine sc rfl ?_
    refine sc rfl ?_
    iterate 1 (first | refine so rfl ?_ | refine sb rfl ?_)
    refine so rfl ?_
    obtain ⟨o3, ho3, h⟩ := bT h
    refine C_joinP ((fun b7 : Unit => (⟨[], []⟩ : St)) (match o3 with | (.inl b7) => default | (.inr b7) => b7)) (∃ b, o3 = (.inr b)) ?_ (fun s hs hp => ?_)
    · refine sc rfl ?_
      refine C_iter (fun s2 : Int => ⟨[(0, SL 1 INTc a), (1, SL 1 INTc b), (5, I64 s2)], []⟩) ho3 (Le.sub [] ⟨rfl, rfl, rfl, trivial⟩ rfl) (fun s2 y4 hy5 hr6 => ?_)
      unfold IntsR_L2 at hy5
      refine sc rfl ?_
      refine sc rfl ?_
      refine sc rfl ?_
      iterate 4 (first | refine so rfl ?_ | refine sb rfl ?_)
      refine so rfl ?_
      refine C_if rfl (fun hb8 => ?_) (fun hb8 => ?_)
      · replace hy5 := cT hb8 hy5
        refine sc rfl ?_
        refine sc rfl ?_
        refine sc rfl ?_
        refine sc rfl ?_
        refine C_drawD rfl (by kernel_rfl) ?_
        iterate 2 (first | refine sd rfl ?_ | refine sdb rfl ?_)
        obtain ⟨g9, hy5⟩ := gT hy5
        refine sd rfl (And.intro g9 ?_)
        iterate 3 (first | refine sd rfl ?_ | refine sdb rfl ?_)
        obtain ⟨g10, hy5⟩ := gT hy5
        refine sd rfl (And.intro g10 ?_)
        iterate 2 (first | refine sd rfl ?_ | refine sdb rfl ?_)
        refine sd rfl ?_
        refine C_if rfl (fun hb11 => ?_) (fun hb11 => ?_)
        · replace hy5 := cT hb11 hy5
          refine sc rfl ?_
          refine sc rfl ?_
          iterate 1 (first | refine so rfl ?_ | refine sb rfl ?_)
          refine so rfl ?_
          refine sc rfl ?_
          obtain rfl := Option.some.inj hy5
          have ho32 := hr6 _ rfl
          subst ho32
          obtain rfl := Option.some.inj h
          exact ⟨_, rfl, rfl, rfl⟩
        · replace hy5 := cF hb11 hy5
          refine sc rfl ?_
          refine sc rfl ?_
          iterate 3 (first | refine so rfl ?_ | refine sb rfl ?_)
          refine so rfl ?_
          obtain rfl := Option.some.inj hy5
          exact ⟨_, rfl, Le.sub [] ⟨rfl, rfl, rfl, trivial⟩ rfl⟩
      · replace hy5 := cF hb8 hy5
        refine sc rfl ?_
        obtain rfl := Option.some.inj hy5
        have ho32 := hr6 _ rfl
        subst ho32
        exact ⟨Le.sub [] trivial rfl, ⟨_, rfl⟩⟩
    obtain ⟨b7, rfl⟩ := hp
    refine C_le ⟨[], []⟩ hs ?_
    refine sc rfl ?_
    refine sc rfl ?_
    iterate 1 (first | refine so rfl ?_ | refine sb rfl ?_)
    refine so rfl ?_
    refine sc rfl ?_
    obtain rfl := Option.some.inj h
    exact ⟨_, rfl, rfl, rfl⟩
noncomputable def LateB_L1 (l : List Wt) (s1 : Int × List Int) : Option ((Int × List Int) ⊕ ((List Int))) :=
  cond (decide (s1.1 < (l.length : Int))) (chk ((0 : Int) ≤ s1.1 ∧ s1.1 < (l.length : Int)) (cond (!((l.getD (Int.toNat s1.1) default).flet)) (cond (decide (((l.getD (Int.toNat s1.1) default).most) < ((l.getD (Int.toNat s1.1) default).turns))) (chk (s1.2.length < 10000000000000) (some (Sum.inl (IntKind.i64.wrap (s1.1 + 1), s1.2 ++ [s1.1])))) (cond (((l.getD (Int.toNat s1.1) default).turns) == ((l.getD (Int.toNat s1.1) default).most)) (cond (!((l.getD (Int.toNat s1.1) default).served)) (chk (s1.2.length < 10000000000000) (some (Sum.inl (IntKind.i64.wrap (s1.1 + 1), s1.2 ++ [s1.1])))) (some (Sum.inl (IntKind.i64.wrap (s1.1 + 1), s1.2)))) (some (Sum.inl (IntKind.i64.wrap (s1.1 + 1), s1.2))))) (some (Sum.inl (IntKind.i64.wrap (s1.1 + 1), s1.2))))) (some (Sum.inr (s1.2)))
noncomputable def LateB_F (l : List Wt) : Option (List Int) :=
  Option.bind (Iter (LateB_L1 l) (0, ([] : List Int))) (fun o2 => some o2)
theorem LateB_w (l : List Wt) (r : List Int) (h : LateB_F l = some r) : FnP Tryz.prog 19 [SL 7 Wt.c l] (· = SL 1 INTc r) := by
  unfold LateB_F at h
  refine FnP.intro Tryz.tabOK Tryz.wide_ Tryz.func19 rfl (by decide) rfl (fun X => ?_)
  refine sc rfl ?_
  refine sc rfl ?_
  iterate 1 (first | refine so rfl ?_ | refine sb rfl ?_)
  refine so rfl ?_
  refine sc rfl ?_
  refine sc rfl ?_
  iterate 1 (first | refine so rfl ?_ | refine sb rfl ?_)
  refine so rfl ?_
  refine sc rfl ?_
  refine sc rfl ?_
  refine sc rfl ?_
  iterate 3 (first | refine so rfl ?_ | refine sb rfl ?_)
  refine so rfl ?_
  refine C_le _ (Le.nilvec INTc 3 38 3 1 rfl rfl rfl) ?_
  obtain ⟨o2, ho2, h⟩ := bT h
  refine C_joinP ⟨[(3, .own 38)], [VEC 38 3 1 INTc o2]⟩ True ?_ (fun s hs hp => ?_)
  · refine sc rfl ?_
    refine C_iter (fun s1 : Int × List Int => ⟨[(3, .own 38), (6, SL 7 Wt.c l), (7, I64 (l.length : Int)), (8, I64 s1.1)], [VEC 38 3 1 INTc s1.2]⟩) ho2 (Le.sub [38] ⟨rfl, rfl, rfl, rfl, trivial⟩ rfl) (fun s1 y3 hy4 hr5 => ?_)
    unfold LateB_L1 at hy4
    refine sc rfl ?_
    refine sc rfl ?_
    iterate 1 (first | refine so rfl ?_ | refine sb rfl ?_)
    refine so rfl ?_
    refine sc rfl ?_
    refine C_if rfl (fun hb7 => ?_) (fun hb7 => ?_)
    · replace hy4 := cT hb7 hy4
      refine sc rfl ?_
      refine sc rfl ?_
      refine sc rfl ?_
      refine sc rfl ?_
      refine sc rfl ?_
      iterate 1 (first | refine so rfl ?_ | refine sb rfl ?_)
      obtain ⟨g8, hy4⟩ := gT hy4
      refine so rfl (And.intro g8 ?_)
      iterate 1 (first | refine so rfl ?_ | refine sb rfl ?_)
      iterate 3 (first | refine so rfl ?_ | refine sb rfl ?_)
      refine so rfl ?_
      refine sc rfl ?_
      refine sc rfl ?_
      iterate 4 (first | refine so rfl ?_ | refine sb rfl ?_)
      refine O_case 16 rfl (fun hb9 => ?_) (fun hb9 => ?_)
      · replace hy4 := cT hb9 hy4
        iterate 6 (first | refine so rfl ?_ | refine sb rfl ?_)
        refine O_case 22 rfl (fun hb10 => ?_) (fun hb10 => ?_)
        · replace hy4 := cT hb10 hy4
          iterate 12 (first | refine so rfl ?_ | refine sb rfl ?_)
          refine so rfl ?_
          refine C_true rfl rfl ?_
          refine sc rfl ?_
          iterate 2 (first | refine so rfl ?_ | refine sb rfl ?_)
          refine sb rfl ?_
          obtain ⟨g11, hy4⟩ := gT hy4
          refine O_push (by_ := 8) INTc s1.2 s1.1 [(6, SL 7 Wt.c l), (7, I64 (l.length : Int)), (8, I64 s1.1), (17, .bp 5 3), (18, I64 ((l.getD (Int.toNat s1.1) default).turns)), (19, .bp 5 4), (20, I64 ((l.getD (Int.toNat s1.1) default).most)), (21, B (decide (((l.getD (Int.toNat s1.1) default).most) < ((l.getD (Int.toNat s1.1) default).turns)))), (22, B true), (23, .tup []), (24, .tup []), (25, .tup []), (26, .tup []), (27, .tup []), (28, .tup []), (29, .tup []), (30, .tup []), (31, .tup []), (32, .tup []), (33, B true)] rfl rfl rfl rfl rfl rfl rfl rfl rfl rfl ⟨rfl, rfl, rfl, rfl, rfl, rfl, rfl, rfl, rfl, rfl, rfl, rfl, rfl, rfl, rfl, rfl, rfl, rfl, rfl, rfl, trivial⟩ rfl rfl (by omega) (by simp only [maxLen]; omega) ?_
          iterate 1 (first | refine so rfl ?_ | refine sb rfl ?_)
          refine so rfl ?_
          refine sc rfl ?_
          iterate 2 (first | refine so rfl ?_ | refine sb rfl ?_)
          refine so rfl ?_
          obtain rfl := Option.some.inj hy4
          exact ⟨_, rfl, Le.sub [38] ⟨rfl, rfl, rfl, rfl, trivial⟩ rfl⟩
        · replace hy4 := cF hb10 hy4
          iterate 6 (first | refine so rfl ?_ | refine sb rfl ?_)
          refine O_case 28 rfl (fun hb12 => ?_) (fun hb12 => ?_)
          · replace hy4 := cT hb12 hy4
            iterate 6 (first | refine so rfl ?_ | refine sb rfl ?_)
            refine so rfl ?_
            refine C_if rfl (fun hb13 => ?_) (fun hb13 => ?_)
            · replace hy4 := cT hb13 hy4
              refine sc rfl ?_
              iterate 2 (first | refine so rfl ?_ | refine sb rfl ?_)
              refine sb rfl ?_
              obtain ⟨g14, hy4⟩ := gT hy4
              refine O_push (by_ := 8) INTc s1.2 s1.1 [(6, SL 7 Wt.c l), (7, I64 (l.length : Int)), (8, I64 s1.1), (17, .bp 5 3), (18, I64 ((l.getD (Int.toNat s1.1) default).turns)), (19, .bp 5 4), (20, I64 ((l.getD (Int.toNat s1.1) default).most)), (21, B (decide (((l.getD (Int.toNat s1.1) default).most) < ((l.getD (Int.toNat s1.1) default).turns)))), (22, B false), (23, .bp 5 3), (24, I64 ((l.getD (Int.toNat s1.1) default).turns)), (25, .bp 5 4), (26, I64 ((l.getD (Int.toNat s1.1) default).most)), (27, B (((l.getD (Int.toNat s1.1) default).turns) == ((l.getD (Int.toNat s1.1) default).most))), (28, B true), (29, .bp 5 5), (30, B ((l.getD (Int.toNat s1.1) default).served)), (31, B (!((l.getD (Int.toNat s1.1) default).served))), (32, B (!((l.getD (Int.toNat s1.1) default).served))), (33, B (!((l.getD (Int.toNat s1.1) default).served)))] rfl rfl rfl rfl rfl rfl rfl rfl rfl rfl ⟨rfl, rfl, rfl, rfl, rfl, rfl, rfl, rfl, rfl, rfl, rfl, rfl, rfl, rfl, rfl, rfl, rfl, rfl, rfl, rfl, trivial⟩ rfl rfl (by omega) (by simp only [maxLen]; omega) ?_
              iterate 1 (first | refine so rfl ?_ | refine sb rfl ?_)
              refine so rfl ?_
              refine sc rfl ?_
              iterate 2 (first | refine so rfl ?_ | refine sb rfl ?_)
              refine so rfl ?_
              obtain rfl := Option.some.inj hy4
              exact ⟨_, rfl, Le.sub [38] ⟨rfl, rfl, rfl, rfl, trivial⟩ rfl⟩
            · replace hy4 := cF hb13 hy4
              refine sc rfl ?_
              refine sc rfl ?_
              iterate 2 (first | refine so rfl ?_ | refine sb rfl ?_)
              refine so rfl ?_
              obtain rfl := Option.some.inj hy4
              exact ⟨_, rfl, Le.sub [38] ⟨rfl, rfl, rfl, rfl, trivial⟩ rfl⟩
          · replace hy4 := cF hb12 hy4
            iterate 6 (first | refine so rfl ?_ | refine sb rfl ?_)
            refine so rfl ?_
            refine C_false rfl rfl ?_
            refine sc rfl ?_
            refine sc rfl ?_
            iterate 2 (first | refine so rfl ?_ | refine sb rfl ?_)
            refine so rfl ?_
            obtain rfl := Option.some.inj hy4
            exact ⟨_, rfl, Le.sub [38] ⟨rfl, rfl, rfl, rfl, trivial⟩ rfl⟩
      · replace hy4 := cF hb9 hy4
        iterate 18 (first | refine so rfl ?_ | refine sb rfl ?_)
        refine so rfl ?_
        refine C_false rfl rfl ?_
        refine sc rfl ?_
        refine sc rfl ?_
        iterate 2 (first | refine so rfl ?_ | refine sb rfl ?_)
        refine so rfl ?_
        obtain rfl := Option.some.inj hy4
        exact ⟨_, rfl, Le.sub [38] ⟨rfl, rfl, rfl, rfl, trivial⟩ rfl⟩
    · replace hy4 := cF hb7 hy4
      refine sc rfl ?_
      obtain rfl := Option.some.inj hy4
      have ho22 := hr5 _ rfl
      subst ho22
      exact ⟨Le.sub [38] ⟨rfl, trivial⟩ rfl, trivial⟩
  refine C_le ⟨[(3, .own 38)], [VEC 38 3 1 INTc o2]⟩ hs ?_
  refine sc rfl ?_
  refine sc rfl ?_
  iterate 2 (first | refine so rfl ?_ | refine sb rfl ?_)
  refine so rfl ?_
  refine C_le _ (Le.freezeL 2 rfl rfl) ?_
  refine sc rfl ?_
  obtain rfl := Option.some.inj h
  exact ⟨_, rfl, rfl, rfl⟩
noncomputable def LateR_L1 (l : List Wt) (s1 : Int × List Int) : Option ((Int × List Int) ⊕ ((List Int))) :=
  cond (decide (s1.1 < (l.length : Int))) (chk ((0 : Int) ≤ s1.1 ∧ s1.1 < (l.length : Int)) (cond (!((l.getD (Int.toNat s1.1) default).flet)) (cond (decide (((l.getD (Int.toNat s1.1) default).most) < ((l.getD (Int.toNat s1.1) default).turns))) (chk (s1.2.length < 10000000000000) (some (Sum.inl (IntKind.i64.wrap (s1.1 + 1), s1.2 ++ [s1.1])))) (cond (decide (((l.getD (Int.toNat s1.1) default).most) ≤ ((l.getD (Int.toNat s1.1) default).turns))) (cond (!((l.getD (Int.toNat s1.1) default).served)) (chk (s1.2.length < 10000000000000) (some (Sum.inl (IntKind.i64.wrap (s1.1 + 1), s1.2 ++ [s1.1])))) (some (Sum.inl (IntKind.i64.wrap (s1.1 + 1), s1.2)))) (some (Sum.inl (IntKind.i64.wrap (s1.1 + 1), s1.2))))) (some (Sum.inl (IntKind.i64.wrap (s1.1 + 1), s1.2))))) (some (Sum.inr (s1.2)))
noncomputable def LateR_F (l : List Wt) : Option (List Int) :=
  Option.bind (Iter (LateR_L1 l) (0, ([] : List Int))) (fun o2 => some o2)
theorem LateR_w (l : List Wt) (r : List Int) (h : LateR_F l = some r) : FnP Tryz.prog 20 [SL 7 Wt.c l] (· = SL 1 INTc r) := by
  unfold LateR_F at h
  refine FnP.intro Tryz.tabOK Tryz.wide_ Tryz.func20 rfl (by decide) rfl (fun X => ?_)
  refine sc rfl ?_
  refine sc rfl ?_
  iterate 1 (first | refine so rfl ?_ | refine sb rfl ?_)
  refine so rfl ?_
  refine sc rfl ?_
  refine sc rfl ?_
  iterate 1 (first | refine so rfl ?_ | refine sb rfl ?_)
  refine so rfl ?_
  refine sc rfl ?_
  refine sc rfl ?_
  refine sc rfl ?_
  iterate 1 (first | refine so rfl ?_ | refine sb rfl ?_)
  refine so rfl ?_
  refine C_le _ (Le.nilvec INTc 3 41 3 1 rfl rfl rfl) ?_
  obtain ⟨o2, ho2, h⟩ := bT h
  refine C_joinP ⟨[(3, .own 41)], [VEC 41 3 1 INTc o2]⟩ True ?_ (fun s hs hp => ?_)
  · refine sc rfl ?_
    refine C_iter (fun s1 : Int × List Int => ⟨[(0, SL 7 Wt.c l), (3, .own 41), (4, I64 s1.1)], [VEC 41 3 1 INTc s1.2]⟩) ho2 (Le.sub [41] ⟨rfl, rfl, rfl, trivial⟩ rfl) (fun s1 y3 hy4 hr5 => ?_)
    unfold LateR_L1 at hy4
    refine sc rfl ?_
    refine sc rfl ?_
    refine sc rfl ?_
    iterate 4 (first | refine so rfl ?_ | refine sb rfl ?_)
    refine so rfl ?_
    refine C_if rfl (fun hb7 => ?_) (fun hb7 => ?_)
    · replace hy4 := cT hb7 hy4
      refine sc rfl ?_
      refine sc rfl ?_
      refine sc rfl ?_
      refine sc rfl ?_
      refine sc rfl ?_
      iterate 2 (first | refine so rfl ?_ | refine sb rfl ?_)
      obtain ⟨g8, hy4⟩ := gT hy4
      refine so rfl (And.intro g8 ?_)
      iterate 1 (first | refine so rfl ?_ | refine sb rfl ?_)
      iterate 2 (first | refine so rfl ?_ | refine sb rfl ?_)
      refine so rfl ?_
      refine sc rfl ?_
      refine sc rfl ?_
      iterate 4 (first | refine so rfl ?_ | refine sb rfl ?_)
      refine O_case 19 rfl (fun hb9 => ?_) (fun hb9 => ?_)
      · replace hy4 := cT hb9 hy4
        iterate 6 (first | refine so rfl ?_ | refine sb rfl ?_)
        refine O_case 25 rfl (fun hb10 => ?_) (fun hb10 => ?_)
        · replace hy4 := cT hb10 hy4
          iterate 12 (first | refine so rfl ?_ | refine sb rfl ?_)
          refine so rfl ?_
          refine C_true rfl rfl ?_
          refine sc rfl ?_
          iterate 2 (first | refine so rfl ?_ | refine sb rfl ?_)
          refine sb rfl ?_
          obtain ⟨g11, hy4⟩ := gT hy4
          refine O_push (by_ := 8) INTc s1.2 s1.1 [(0, SL 7 Wt.c l), (4, I64 s1.1), (20, .bp 5 3), (21, I64 ((l.getD (Int.toNat s1.1) default).turns)), (22, .bp 5 4), (23, I64 ((l.getD (Int.toNat s1.1) default).most)), (24, B (decide (((l.getD (Int.toNat s1.1) default).most) < ((l.getD (Int.toNat s1.1) default).turns)))), (25, B true), (26, .tup []), (27, .tup []), (28, .tup []), (29, .tup []), (30, .tup []), (31, .tup []), (32, .tup []), (33, .tup []), (34, .tup []), (35, .tup []), (36, B true)] rfl rfl rfl rfl rfl rfl rfl rfl rfl rfl ⟨rfl, rfl, rfl, rfl, rfl, rfl, rfl, rfl, rfl, rfl, rfl, rfl, rfl, rfl, rfl, rfl, rfl, rfl, rfl, trivial⟩ rfl rfl (by omega) (by simp only [maxLen]; omega) ?_
          iterate 1 (first | refine so rfl ?_ | refine sb rfl ?_)
          refine so rfl ?_
          refine sc rfl ?_
          iterate 3 (first | refine so rfl ?_ | refine sb rfl ?_)
          refine so rfl ?_
          obtain rfl := Option.some.inj hy4
          exact ⟨_, rfl, Le.sub [41] ⟨rfl, rfl, rfl, trivial⟩ rfl⟩
        · replace hy4 := cF hb10 hy4
          iterate 6 (first | refine so rfl ?_ | refine sb rfl ?_)
          refine O_case 31 rfl (fun hb12 => ?_) (fun hb12 => ?_)
          · replace hy4 := cT hb12 hy4
            iterate 6 (first | refine so rfl ?_ | refine sb rfl ?_)
            refine so rfl ?_
            refine C_if rfl (fun hb13 => ?_) (fun hb13 => ?_)
            · replace hy4 := cT hb13 hy4
              refine sc rfl ?_
              iterate 2 (first | refine so rfl ?_ | refine sb rfl ?_)
              refine sb rfl ?_
              obtain ⟨g14, hy4⟩ := gT hy4
              refine O_push (by_ := 8) INTc s1.2 s1.1 [(0, SL 7 Wt.c l), (4, I64 s1.1), (20, .bp 5 3), (21, I64 ((l.getD (Int.toNat s1.1) default).turns)), (22, .bp 5 4), (23, I64 ((l.getD (Int.toNat s1.1) default).most)), (24, B (decide (((l.getD (Int.toNat s1.1) default).most) < ((l.getD (Int.toNat s1.1) default).turns)))), (25, B false), (26, .bp 5 3), (27, I64 ((l.getD (Int.toNat s1.1) default).turns)), (28, .bp 5 4), (29, I64 ((l.getD (Int.toNat s1.1) default).most)), (30, B (decide (((l.getD (Int.toNat s1.1) default).most) ≤ ((l.getD (Int.toNat s1.1) default).turns)))), (31, B true), (32, .bp 5 5), (33, B ((l.getD (Int.toNat s1.1) default).served)), (34, B (!((l.getD (Int.toNat s1.1) default).served))), (35, B (!((l.getD (Int.toNat s1.1) default).served))), (36, B (!((l.getD (Int.toNat s1.1) default).served)))] rfl rfl rfl rfl rfl rfl rfl rfl rfl rfl ⟨rfl, rfl, rfl, rfl, rfl, rfl, rfl, rfl, rfl, rfl, rfl, rfl, rfl, rfl, rfl, rfl, rfl, rfl, rfl, trivial⟩ rfl rfl (by omega) (by simp only [maxLen]; omega) ?_
              iterate 1 (first | refine so rfl ?_ | refine sb rfl ?_)
              refine so rfl ?_
              refine sc rfl ?_
              iterate 3 (first | refine so rfl ?_ | refine sb rfl ?_)
              refine so rfl ?_
              obtain rfl := Option.some.inj hy4
              exact ⟨_, rfl, Le.sub [41] ⟨rfl, rfl, rfl, trivial⟩ rfl⟩
            · replace hy4 := cF hb13 hy4
              refine sc rfl ?_
              refine sc rfl ?_
              iterate 3 (first | refine so rfl ?_ | refine sb rfl ?_)
              refine so rfl ?_
              obtain rfl := Option.some.inj hy4
              exact ⟨_, rfl, Le.sub [41] ⟨rfl, rfl, rfl, trivial⟩ rfl⟩
          · replace hy4 := cF hb12 hy4
            iterate 6 (first | refine so rfl ?_ | refine sb rfl ?_)
            refine so rfl ?_
            refine C_false rfl rfl ?_
            refine sc rfl ?_
            refine sc rfl ?_
            iterate 3 (first | refine so rfl ?_ | refine sb rfl ?_)
            refine so rfl ?_
            obtain rfl := Option.some.inj hy4
            exact ⟨_, rfl, Le.sub [41] ⟨rfl, rfl, rfl, trivial⟩ rfl⟩
      · replace hy4 := cF hb9 hy4
        iterate 18 (first | refine so rfl ?_ | refine sb rfl ?_)
        refine so rfl ?_
        refine C_false rfl rfl ?_
        refine sc rfl ?_
        refine sc rfl ?_
        iterate 3 (first | refine so rfl ?_ | refine sb rfl ?_)
        refine so rfl ?_
        obtain rfl := Option.some.inj hy4
        exact ⟨_, rfl, Le.sub [41] ⟨rfl, rfl, rfl, trivial⟩ rfl⟩
    · replace hy4 := cF hb7 hy4
      refine sc rfl ?_
      obtain rfl := Option.some.inj hy4
      have ho22 := hr5 _ rfl
      subst ho22
      exact ⟨Le.sub [41] ⟨rfl, trivial⟩ rfl, trivial⟩
  refine C_le ⟨[(3, .own 41)], [VEC 41 3 1 INTc o2]⟩ hs ?_
  refine sc rfl ?_
  refine sc rfl ?_
  iterate 2 (first | refine so rfl ?_ | refine sb rfl ?_)
  refine so rfl ?_
  refine C_le _ (Le.freezeL 2 rfl rfl) ?_
  refine sc rfl ?_
  obtain rfl := Option.some.inj h
  exact ⟨_, rfl, rfl, rfl⟩
end Go.Proofs
