/- Contracts of span: the reader of bytes. -/
import Derived.Test.YtekmhpkomhjbpaaGreatDoorF6
import Derived.Test.YtekmhpkomhjbpaaGreatDoorF4
import Derived.Test.YtekmhpkomhjbpaaGreatDoorF5
import Derived.Test.YtekmhpkomhjbpaaGreatDoorF2
import Derived.ScopeJumps
set_option linter.unusedSimpArgs false
set_option linter.unusedVariables false
set_option maxRecDepth 100000
namespace Go.Proofs
open Go.Sy Go.Lib

/-- A reader: its bytes, how many were taken, what was wrong. -/
abbrev rdr (g : Nat) (b : List UInt8) (at_ : Nat) (e : Int) : Abs := boxA g 248 [.s b, I64 (at_ : Nat), I64 e]
def rdAt (at_ k : Nat) (e e2 : Int) : Nat := if e ≠ 0 then at_ else if e2 ≠ 0 then at_ else at_ + k
def rdE (e e2 : Int) : Int := if e ≠ 0 then e else e2
def rdV {α : Type} (z x : α) (e e2 : Int) : α := if e ≠ 0 then z else if e2 ≠ 0 then z else x

theorem takeU_A (g : Nat) (b : List UInt8) (at_ : Nat) (e : Int) (fv : AV) (f : FuncId) (caps : List AV) (k : Nat) (e2 : Int) (x : Int) (hclo : IsClo fv f caps) (himm : fv.imm = true) (hat : at_ ≤ b.length) (hfv : fv = .p (cloRP f caps) ∨ ∃ v, fv = .v v)
    (hf : e = 0 → FnP Tryz.prog f ([.s (b.drop at_)] ++ caps) (· = .tup [U64 x, I64 (k : Nat), I64 e2])) (hk : e = 0 → e2 = 0 → at_ + k ≤ b.length) (hb : b.length ≤ 9223372036854775807) :
    FnA Tryz.prog 130 [PT g 0, fv] [rdr g b at_ e] (fun r cs' => r = U64 (rdV 0 x e e2) ∧ cs' = [rdr g b (rdAt at_ k e e2) (rdE e e2)]) := by
  rcases hfv with rfl | ⟨v, rfl⟩
  · refine FnA.intro Tryz.tabOK Tryz.wide_ Tryz.func130 rfl (by decide) rfl (fun X => ?_)
    repeat (first | refine sc rfl ?_ | refine so rfl ?_ | refine sb rfl ?_)
    refine O_Xd (X_ptrnil Tryz.underlying155 rfl rfl rfl) ?_
    repeat (first | refine sc rfl ?_ | refine so rfl ?_ | refine sb rfl ?_)
    first
      | refine O_loadP 0 (reads_box 2) rfl rfl rfl rfl rfl rfl ?_
      | refine O_loadP 1 (reads_box 2) rfl rfl rfl rfl rfl rfl ?_
      | refine O_loadP 2 (reads_box 2) rfl rfl rfl rfl rfl rfl ?_
      | refine O_loadP 3 (reads_box 2) rfl rfl rfl rfl rfl rfl ?_
      | refine O_loadP 4 (reads_box 2) rfl rfl rfl rfl rfl rfl ?_
    repeat (first | refine sc rfl ?_ | refine so rfl ?_ | refine sb rfl ?_)
    refine C_if rfl (fun h0 => ?_) (fun h0 => ?_) <;> simp only [decide_eq_true_eq, decide_eq_false_iff_not, Bool.not_eq_true', Bool.not_eq_false', beq_iff_eq, beq_eq_false_iff_ne, bne_iff_ne, ne_eq, bne_eq_false_iff_eq, Decidable.not_not] at h0
    · repeat (first | refine sc rfl ?_ | refine so rfl ?_ | refine sb rfl ?_)
      first
        | exact ⟨_, [_], _, rfl, pickA_perm (is := [0]) (As := [_]) rfl, rfl, by unfold rdV; rw [if_pos h0], by unfold rdAt rdE; rw [if_pos h0, if_pos h0]⟩
        | exact ⟨_, [_], _, rfl, pickA_perm (is := [1]) (As := [_]) rfl, rfl, by unfold rdV; rw [if_pos h0], by unfold rdAt rdE; rw [if_pos h0, if_pos h0]⟩
        | exact ⟨_, [_], _, rfl, pickA_perm (is := [2]) (As := [_]) rfl, rfl, by unfold rdV; rw [if_pos h0], by unfold rdAt rdE; rw [if_pos h0, if_pos h0]⟩
        | exact ⟨_, [_], _, rfl, pickA_perm (is := [3]) (As := [_]) rfl, rfl, by unfold rdV; rw [if_pos h0], by unfold rdAt rdE; rw [if_pos h0, if_pos h0]⟩
        | exact ⟨_, [_], _, rfl, pickA_perm (is := [4]) (As := [_]) rfl, rfl, by unfold rdV; rw [if_pos h0], by unfold rdAt rdE; rw [if_pos h0, if_pos h0]⟩
    subst h0
    repeat (first | refine sc rfl ?_ | refine so rfl ?_ | refine sb rfl ?_)
    refine C_drawD rfl (by kernel_rfl) ?_
    repeat (first | refine sd rfl ?_ | refine sdb rfl ?_ | refine sds rfl ?_)
    refine D_X (.s b) (X_loadP 0 (A := rdr g b at_ 0) (reads_box 0) rfl rfl rfl rfl rfl rfl) ?_
    repeat (first | refine sd rfl ?_ | refine sdb rfl ?_ | refine sds rfl ?_)
    refine D_X (I64 (at_ : Nat)) (X_loadP 0 (A := rdr g b at_ 0) (reads_box 1) rfl rfl rfl rfl rfl rfl) ?_
    repeat (first | refine sd rfl ?_ | refine ⟨by omega, ?_⟩)
    rw [Int.toNat_natCast]
    refine D_callV hclo himm (hf rfl) rfl rfl rfl rfl rfl ?_
    repeat (first | refine sd rfl ?_ | refine sdb rfl ?_ | refine sds rfl ?_)
    repeat (first | refine sc rfl ?_ | refine so rfl ?_ | refine sb rfl ?_)
    refine C_if rfl (fun h1 => ?_) (fun h1 => ?_) <;> simp only [decide_eq_true_eq, decide_eq_false_iff_not, Bool.not_eq_true', Bool.not_eq_false', beq_iff_eq, beq_eq_false_iff_ne, bne_iff_ne, ne_eq, bne_eq_false_iff_eq, Decidable.not_not] at h1
    · repeat (first | refine sc rfl ?_ | refine so rfl ?_ | refine sb rfl ?_)
      first
        | refine O_Xn (X_storeP 0 (writes_box (b := g) (t := 248) (cells := [.s b, I64 (at_ : Nat), I64 0]) (by simp)) rfl rfl rfl rfl rfl rfl rfl) ?_
        | refine O_Xn (X_storeP 1 (writes_box (b := g) (t := 248) (cells := [.s b, I64 (at_ : Nat), I64 0]) (by simp)) rfl rfl rfl rfl rfl rfl rfl) ?_
        | refine O_Xn (X_storeP 2 (writes_box (b := g) (t := 248) (cells := [.s b, I64 (at_ : Nat), I64 0]) (by simp)) rfl rfl rfl rfl rfl rfl rfl) ?_
        | refine O_Xn (X_storeP 3 (writes_box (b := g) (t := 248) (cells := [.s b, I64 (at_ : Nat), I64 0]) (by simp)) rfl rfl rfl rfl rfl rfl rfl) ?_
        | refine O_Xn (X_storeP 4 (writes_box (b := g) (t := 248) (cells := [.s b, I64 (at_ : Nat), I64 0]) (by simp)) rfl rfl rfl rfl rfl rfl rfl) ?_
      repeat (first | refine sc rfl ?_ | refine so rfl ?_ | refine sb rfl ?_)
      first
        | exact ⟨_, [_], _, rfl, pickA_perm (is := [0]) (As := [_]) rfl, rfl, by unfold rdV; rw [if_neg (by decide), if_pos h1], by unfold rdAt rdE; rw [if_neg (by decide), if_pos h1, if_neg (by decide)]; rfl⟩
        | exact ⟨_, [_], _, rfl, pickA_perm (is := [1]) (As := [_]) rfl, rfl, by unfold rdV; rw [if_neg (by decide), if_pos h1], by unfold rdAt rdE; rw [if_neg (by decide), if_pos h1, if_neg (by decide)]; rfl⟩
        | exact ⟨_, [_], _, rfl, pickA_perm (is := [2]) (As := [_]) rfl, rfl, by unfold rdV; rw [if_neg (by decide), if_pos h1], by unfold rdAt rdE; rw [if_neg (by decide), if_pos h1, if_neg (by decide)]; rfl⟩
        | exact ⟨_, [_], _, rfl, pickA_perm (is := [3]) (As := [_]) rfl, rfl, by unfold rdV; rw [if_neg (by decide), if_pos h1], by unfold rdAt rdE; rw [if_neg (by decide), if_pos h1, if_neg (by decide)]; rfl⟩
        | exact ⟨_, [_], _, rfl, pickA_perm (is := [4]) (As := [_]) rfl, rfl, by unfold rdV; rw [if_neg (by decide), if_pos h1], by unfold rdAt rdE; rw [if_neg (by decide), if_pos h1, if_neg (by decide)]; rfl⟩
    · subst h1
      have hk' := hk rfl rfl
      repeat (first | refine sc rfl ?_ | refine so rfl ?_ | refine sb rfl ?_)
      first
        | refine O_loadP 0 (reads_box 1) rfl rfl rfl rfl rfl rfl ?_
        | refine O_loadP 1 (reads_box 1) rfl rfl rfl rfl rfl rfl ?_
        | refine O_loadP 2 (reads_box 1) rfl rfl rfl rfl rfl rfl ?_
        | refine O_loadP 3 (reads_box 1) rfl rfl rfl rfl rfl rfl ?_
        | refine O_loadP 4 (reads_box 1) rfl rfl rfl rfl rfl rfl ?_
      repeat (first | refine sc rfl ?_ | refine so rfl ?_ | refine sb rfl ?_)
      rw [w64 (x := (at_ : Int) + (k : Int)) (by omega) (by omega)]
      first
        | refine O_Xn (X_storeP 0 (writes_box (b := g) (t := 248) (cells := [.s b, I64 (at_ : Nat), I64 0]) (by simp)) rfl rfl rfl rfl rfl rfl rfl) ?_
        | refine O_Xn (X_storeP 1 (writes_box (b := g) (t := 248) (cells := [.s b, I64 (at_ : Nat), I64 0]) (by simp)) rfl rfl rfl rfl rfl rfl rfl) ?_
        | refine O_Xn (X_storeP 2 (writes_box (b := g) (t := 248) (cells := [.s b, I64 (at_ : Nat), I64 0]) (by simp)) rfl rfl rfl rfl rfl rfl rfl) ?_
        | refine O_Xn (X_storeP 3 (writes_box (b := g) (t := 248) (cells := [.s b, I64 (at_ : Nat), I64 0]) (by simp)) rfl rfl rfl rfl rfl rfl rfl) ?_
        | refine O_Xn (X_storeP 4 (writes_box (b := g) (t := 248) (cells := [.s b, I64 (at_ : Nat), I64 0]) (by simp)) rfl rfl rfl rfl rfl rfl rfl) ?_
      repeat (first | refine sc rfl ?_ | refine so rfl ?_ | refine sb rfl ?_)
      first
        | exact ⟨_, [_], _, rfl, pickA_perm (is := [0]) (As := [_]) rfl, rfl, by unfold rdV; rw [if_neg (by decide), if_neg (by decide)], by unfold rdAt rdE; rw [if_neg (by decide), if_neg (by decide), if_neg (by decide)]; rfl⟩
        | exact ⟨_, [_], _, rfl, pickA_perm (is := [1]) (As := [_]) rfl, rfl, by unfold rdV; rw [if_neg (by decide), if_neg (by decide)], by unfold rdAt rdE; rw [if_neg (by decide), if_neg (by decide), if_neg (by decide)]; rfl⟩
        | exact ⟨_, [_], _, rfl, pickA_perm (is := [2]) (As := [_]) rfl, rfl, by unfold rdV; rw [if_neg (by decide), if_neg (by decide)], by unfold rdAt rdE; rw [if_neg (by decide), if_neg (by decide), if_neg (by decide)]; rfl⟩
        | exact ⟨_, [_], _, rfl, pickA_perm (is := [3]) (As := [_]) rfl, rfl, by unfold rdV; rw [if_neg (by decide), if_neg (by decide)], by unfold rdAt rdE; rw [if_neg (by decide), if_neg (by decide), if_neg (by decide)]; rfl⟩
        | exact ⟨_, [_], _, rfl, pickA_perm (is := [4]) (As := [_]) rfl, rfl, by unfold rdV; rw [if_neg (by decide), if_neg (by decide)], by unfold rdAt rdE; rw [if_neg (by decide), if_neg (by decide), if_neg (by decide)]; rfl⟩
  · refine FnA.intro Tryz.tabOK Tryz.wide_ Tryz.func130 rfl (by decide) rfl (fun X => ?_)
    repeat (first | refine sc rfl ?_ | refine so rfl ?_ | refine sb rfl ?_)
    refine O_Xd (X_ptrnil Tryz.underlying155 rfl rfl rfl) ?_
    repeat (first | refine sc rfl ?_ | refine so rfl ?_ | refine sb rfl ?_)
    first
      | refine O_loadP 0 (reads_box 2) rfl rfl rfl rfl rfl rfl ?_
      | refine O_loadP 1 (reads_box 2) rfl rfl rfl rfl rfl rfl ?_
      | refine O_loadP 2 (reads_box 2) rfl rfl rfl rfl rfl rfl ?_
      | refine O_loadP 3 (reads_box 2) rfl rfl rfl rfl rfl rfl ?_
      | refine O_loadP 4 (reads_box 2) rfl rfl rfl rfl rfl rfl ?_
    repeat (first | refine sc rfl ?_ | refine so rfl ?_ | refine sb rfl ?_)
    refine C_if rfl (fun h0 => ?_) (fun h0 => ?_) <;> simp only [decide_eq_true_eq, decide_eq_false_iff_not, Bool.not_eq_true', Bool.not_eq_false', beq_iff_eq, beq_eq_false_iff_ne, bne_iff_ne, ne_eq, bne_eq_false_iff_eq, Decidable.not_not] at h0
    · repeat (first | refine sc rfl ?_ | refine so rfl ?_ | refine sb rfl ?_)
      first
        | exact ⟨_, [_], _, rfl, pickA_perm (is := [0]) (As := [_]) rfl, rfl, by unfold rdV; rw [if_pos h0], by unfold rdAt rdE; rw [if_pos h0, if_pos h0]⟩
        | exact ⟨_, [_], _, rfl, pickA_perm (is := [1]) (As := [_]) rfl, rfl, by unfold rdV; rw [if_pos h0], by unfold rdAt rdE; rw [if_pos h0, if_pos h0]⟩
        | exact ⟨_, [_], _, rfl, pickA_perm (is := [2]) (As := [_]) rfl, rfl, by unfold rdV; rw [if_pos h0], by unfold rdAt rdE; rw [if_pos h0, if_pos h0]⟩
        | exact ⟨_, [_], _, rfl, pickA_perm (is := [3]) (As := [_]) rfl, rfl, by unfold rdV; rw [if_pos h0], by unfold rdAt rdE; rw [if_pos h0, if_pos h0]⟩
        | exact ⟨_, [_], _, rfl, pickA_perm (is := [4]) (As := [_]) rfl, rfl, by unfold rdV; rw [if_pos h0], by unfold rdAt rdE; rw [if_pos h0, if_pos h0]⟩
    subst h0
    repeat (first | refine sc rfl ?_ | refine so rfl ?_ | refine sb rfl ?_)
    refine C_drawD rfl (by kernel_rfl) ?_
    repeat (first | refine sd rfl ?_ | refine sdb rfl ?_ | refine sds rfl ?_)
    refine D_X (.s b) (X_loadP 0 (A := rdr g b at_ 0) (reads_box 0) rfl rfl rfl rfl rfl rfl) ?_
    repeat (first | refine sd rfl ?_ | refine sdb rfl ?_ | refine sds rfl ?_)
    refine D_X (I64 (at_ : Nat)) (X_loadP 0 (A := rdr g b at_ 0) (reads_box 1) rfl rfl rfl rfl rfl rfl) ?_
    repeat (first | refine sd rfl ?_ | refine ⟨by omega, ?_⟩)
    rw [Int.toNat_natCast]
    refine D_callV hclo himm (hf rfl) rfl rfl rfl rfl rfl ?_
    repeat (first | refine sd rfl ?_ | refine sdb rfl ?_ | refine sds rfl ?_)
    repeat (first | refine sc rfl ?_ | refine so rfl ?_ | refine sb rfl ?_)
    refine C_if rfl (fun h1 => ?_) (fun h1 => ?_) <;> simp only [decide_eq_true_eq, decide_eq_false_iff_not, Bool.not_eq_true', Bool.not_eq_false', beq_iff_eq, beq_eq_false_iff_ne, bne_iff_ne, ne_eq, bne_eq_false_iff_eq, Decidable.not_not] at h1
    · repeat (first | refine sc rfl ?_ | refine so rfl ?_ | refine sb rfl ?_)
      first
        | refine O_Xn (X_storeP 0 (writes_box (b := g) (t := 248) (cells := [.s b, I64 (at_ : Nat), I64 0]) (by simp)) rfl rfl rfl rfl rfl rfl rfl) ?_
        | refine O_Xn (X_storeP 1 (writes_box (b := g) (t := 248) (cells := [.s b, I64 (at_ : Nat), I64 0]) (by simp)) rfl rfl rfl rfl rfl rfl rfl) ?_
        | refine O_Xn (X_storeP 2 (writes_box (b := g) (t := 248) (cells := [.s b, I64 (at_ : Nat), I64 0]) (by simp)) rfl rfl rfl rfl rfl rfl rfl) ?_
        | refine O_Xn (X_storeP 3 (writes_box (b := g) (t := 248) (cells := [.s b, I64 (at_ : Nat), I64 0]) (by simp)) rfl rfl rfl rfl rfl rfl rfl) ?_
        | refine O_Xn (X_storeP 4 (writes_box (b := g) (t := 248) (cells := [.s b, I64 (at_ : Nat), I64 0]) (by simp)) rfl rfl rfl rfl rfl rfl rfl) ?_
      repeat (first | refine sc rfl ?_ | refine so rfl ?_ | refine sb rfl ?_)
      first
        | exact ⟨_, [_], _, rfl, pickA_perm (is := [0]) (As := [_]) rfl, rfl, by unfold rdV; rw [if_neg (by decide), if_pos h1], by unfold rdAt rdE; rw [if_neg (by decide), if_pos h1, if_neg (by decide)]; rfl⟩
        | exact ⟨_, [_], _, rfl, pickA_perm (is := [1]) (As := [_]) rfl, rfl, by unfold rdV; rw [if_neg (by decide), if_pos h1], by unfold rdAt rdE; rw [if_neg (by decide), if_pos h1, if_neg (by decide)]; rfl⟩
        | exact ⟨_, [_], _, rfl, pickA_perm (is := [2]) (As := [_]) rfl, rfl, by unfold rdV; rw [if_neg (by decide), if_pos h1], by unfold rdAt rdE; rw [if_neg (by decide), if_pos h1, if_neg (by decide)]; rfl⟩
        | exact ⟨_, [_], _, rfl, pickA_perm (is := [3]) (As := [_]) rfl, rfl, by unfold rdV; rw [if_neg (by decide), if_pos h1], by unfold rdAt rdE; rw [if_neg (by decide), if_pos h1, if_neg (by decide)]; rfl⟩
        | exact ⟨_, [_], _, rfl, pickA_perm (is := [4]) (As := [_]) rfl, rfl, by unfold rdV; rw [if_neg (by decide), if_pos h1], by unfold rdAt rdE; rw [if_neg (by decide), if_pos h1, if_neg (by decide)]; rfl⟩
    · subst h1
      have hk' := hk rfl rfl
      repeat (first | refine sc rfl ?_ | refine so rfl ?_ | refine sb rfl ?_)
      first
        | refine O_loadP 0 (reads_box 1) rfl rfl rfl rfl rfl rfl ?_
        | refine O_loadP 1 (reads_box 1) rfl rfl rfl rfl rfl rfl ?_
        | refine O_loadP 2 (reads_box 1) rfl rfl rfl rfl rfl rfl ?_
        | refine O_loadP 3 (reads_box 1) rfl rfl rfl rfl rfl rfl ?_
        | refine O_loadP 4 (reads_box 1) rfl rfl rfl rfl rfl rfl ?_
      repeat (first | refine sc rfl ?_ | refine so rfl ?_ | refine sb rfl ?_)
      rw [w64 (x := (at_ : Int) + (k : Int)) (by omega) (by omega)]
      first
        | refine O_Xn (X_storeP 0 (writes_box (b := g) (t := 248) (cells := [.s b, I64 (at_ : Nat), I64 0]) (by simp)) rfl rfl rfl rfl rfl rfl rfl) ?_
        | refine O_Xn (X_storeP 1 (writes_box (b := g) (t := 248) (cells := [.s b, I64 (at_ : Nat), I64 0]) (by simp)) rfl rfl rfl rfl rfl rfl rfl) ?_
        | refine O_Xn (X_storeP 2 (writes_box (b := g) (t := 248) (cells := [.s b, I64 (at_ : Nat), I64 0]) (by simp)) rfl rfl rfl rfl rfl rfl rfl) ?_
        | refine O_Xn (X_storeP 3 (writes_box (b := g) (t := 248) (cells := [.s b, I64 (at_ : Nat), I64 0]) (by simp)) rfl rfl rfl rfl rfl rfl rfl) ?_
        | refine O_Xn (X_storeP 4 (writes_box (b := g) (t := 248) (cells := [.s b, I64 (at_ : Nat), I64 0]) (by simp)) rfl rfl rfl rfl rfl rfl rfl) ?_
      repeat (first | refine sc rfl ?_ | refine so rfl ?_ | refine sb rfl ?_)
      first
        | exact ⟨_, [_], _, rfl, pickA_perm (is := [0]) (As := [_]) rfl, rfl, by unfold rdV; rw [if_neg (by decide), if_neg (by decide)], by unfold rdAt rdE; rw [if_neg (by decide), if_neg (by decide), if_neg (by decide)]; rfl⟩
        | exact ⟨_, [_], _, rfl, pickA_perm (is := [1]) (As := [_]) rfl, rfl, by unfold rdV; rw [if_neg (by decide), if_neg (by decide)], by unfold rdAt rdE; rw [if_neg (by decide), if_neg (by decide), if_neg (by decide)]; rfl⟩
        | exact ⟨_, [_], _, rfl, pickA_perm (is := [2]) (As := [_]) rfl, rfl, by unfold rdV; rw [if_neg (by decide), if_neg (by decide)], by unfold rdAt rdE; rw [if_neg (by decide), if_neg (by decide), if_neg (by decide)]; rfl⟩
        | exact ⟨_, [_], _, rfl, pickA_perm (is := [3]) (As := [_]) rfl, rfl, by unfold rdV; rw [if_neg (by decide), if_neg (by decide)], by unfold rdAt rdE; rw [if_neg (by decide), if_neg (by decide), if_neg (by decide)]; rfl⟩
        | exact ⟨_, [_], _, rfl, pickA_perm (is := [4]) (As := [_]) rfl, rfl, by unfold rdV; rw [if_neg (by decide), if_neg (by decide)], by unfold rdAt rdE; rw [if_neg (by decide), if_neg (by decide), if_neg (by decide)]; rfl⟩

theorem takeI_A (g : Nat) (b : List UInt8) (at_ : Nat) (e : Int) (fv : AV) (f : FuncId) (caps : List AV) (k : Nat) (e2 : Int) (x : Int) (hclo : IsClo fv f caps) (himm : fv.imm = true) (hat : at_ ≤ b.length) (hfv : fv = .p (cloRP f caps) ∨ ∃ v, fv = .v v)
    (hf : e = 0 → FnP Tryz.prog f ([.s (b.drop at_)] ++ caps) (· = .tup [I64 x, I64 (k : Nat), I64 e2])) (hk : e = 0 → e2 = 0 → at_ + k ≤ b.length) (hb : b.length ≤ 9223372036854775807) :
    FnA Tryz.prog 132 [PT g 0, fv] [rdr g b at_ e] (fun r cs' => r = I64 (rdV 0 x e e2) ∧ cs' = [rdr g b (rdAt at_ k e e2) (rdE e e2)]) := by
  rcases hfv with rfl | ⟨v, rfl⟩
  · refine FnA.intro Tryz.tabOK Tryz.wide_ Tryz.func132 rfl (by decide) rfl (fun X => ?_)
    repeat (first | refine sc rfl ?_ | refine so rfl ?_ | refine sb rfl ?_)
    refine O_Xd (X_ptrnil Tryz.underlying155 rfl rfl rfl) ?_
    repeat (first | refine sc rfl ?_ | refine so rfl ?_ | refine sb rfl ?_)
    first
      | refine O_loadP 0 (reads_box 2) rfl rfl rfl rfl rfl rfl ?_
      | refine O_loadP 1 (reads_box 2) rfl rfl rfl rfl rfl rfl ?_
      | refine O_loadP 2 (reads_box 2) rfl rfl rfl rfl rfl rfl ?_
      | refine O_loadP 3 (reads_box 2) rfl rfl rfl rfl rfl rfl ?_
      | refine O_loadP 4 (reads_box 2) rfl rfl rfl rfl rfl rfl ?_
    repeat (first | refine sc rfl ?_ | refine so rfl ?_ | refine sb rfl ?_)
    refine C_if rfl (fun h0 => ?_) (fun h0 => ?_) <;> simp only [decide_eq_true_eq, decide_eq_false_iff_not, Bool.not_eq_true', Bool.not_eq_false', beq_iff_eq, beq_eq_false_iff_ne, bne_iff_ne, ne_eq, bne_eq_false_iff_eq, Decidable.not_not] at h0
    · repeat (first | refine sc rfl ?_ | refine so rfl ?_ | refine sb rfl ?_)
      first
        | exact ⟨_, [_], _, rfl, pickA_perm (is := [0]) (As := [_]) rfl, rfl, by unfold rdV; rw [if_pos h0], by unfold rdAt rdE; rw [if_pos h0, if_pos h0]⟩
        | exact ⟨_, [_], _, rfl, pickA_perm (is := [1]) (As := [_]) rfl, rfl, by unfold rdV; rw [if_pos h0], by unfold rdAt rdE; rw [if_pos h0, if_pos h0]⟩
        | exact ⟨_, [_], _, rfl, pickA_perm (is := [2]) (As := [_]) rfl, rfl, by unfold rdV; rw [if_pos h0], by unfold rdAt rdE; rw [if_pos h0, if_pos h0]⟩
        | exact ⟨_, [_], _, rfl, pickA_perm (is := [3]) (As := [_]) rfl, rfl, by unfold rdV; rw [if_pos h0], by unfold rdAt rdE; rw [if_pos h0, if_pos h0]⟩
        | exact ⟨_, [_], _, rfl, pickA_perm (is := [4]) (As := [_]) rfl, rfl, by unfold rdV; rw [if_pos h0], by unfold rdAt rdE; rw [if_pos h0, if_pos h0]⟩
    subst h0
    repeat (first | refine sc rfl ?_ | refine so rfl ?_ | refine sb rfl ?_)
    refine C_drawD rfl (by kernel_rfl) ?_
    repeat (first | refine sd rfl ?_ | refine sdb rfl ?_ | refine sds rfl ?_)
    refine D_X (.s b) (X_loadP 0 (A := rdr g b at_ 0) (reads_box 0) rfl rfl rfl rfl rfl rfl) ?_
    repeat (first | refine sd rfl ?_ | refine sdb rfl ?_ | refine sds rfl ?_)
    refine D_X (I64 (at_ : Nat)) (X_loadP 0 (A := rdr g b at_ 0) (reads_box 1) rfl rfl rfl rfl rfl rfl) ?_
    repeat (first | refine sd rfl ?_ | refine ⟨by omega, ?_⟩)
    rw [Int.toNat_natCast]
    refine D_callV hclo himm (hf rfl) rfl rfl rfl rfl rfl ?_
    repeat (first | refine sd rfl ?_ | refine sdb rfl ?_ | refine sds rfl ?_)
    repeat (first | refine sc rfl ?_ | refine so rfl ?_ | refine sb rfl ?_)
    refine C_if rfl (fun h1 => ?_) (fun h1 => ?_) <;> simp only [decide_eq_true_eq, decide_eq_false_iff_not, Bool.not_eq_true', Bool.not_eq_false', beq_iff_eq, beq_eq_false_iff_ne, bne_iff_ne, ne_eq, bne_eq_false_iff_eq, Decidable.not_not] at h1
    · repeat (first | refine sc rfl ?_ | refine so rfl ?_ | refine sb rfl ?_)
      first
        | refine O_Xn (X_storeP 0 (writes_box (b := g) (t := 248) (cells := [.s b, I64 (at_ : Nat), I64 0]) (by simp)) rfl rfl rfl rfl rfl rfl rfl) ?_
        | refine O_Xn (X_storeP 1 (writes_box (b := g) (t := 248) (cells := [.s b, I64 (at_ : Nat), I64 0]) (by simp)) rfl rfl rfl rfl rfl rfl rfl) ?_
        | refine O_Xn (X_storeP 2 (writes_box (b := g) (t := 248) (cells := [.s b, I64 (at_ : Nat), I64 0]) (by simp)) rfl rfl rfl rfl rfl rfl rfl) ?_
        | refine O_Xn (X_storeP 3 (writes_box (b := g) (t := 248) (cells := [.s b, I64 (at_ : Nat), I64 0]) (by simp)) rfl rfl rfl rfl rfl rfl rfl) ?_
        | refine O_Xn (X_storeP 4 (writes_box (b := g) (t := 248) (cells := [.s b, I64 (at_ : Nat), I64 0]) (by simp)) rfl rfl rfl rfl rfl rfl rfl) ?_
      repeat (first | refine sc rfl ?_ | refine so rfl ?_ | refine sb rfl ?_)
      first
        | exact ⟨_, [_], _, rfl, pickA_perm (is := [0]) (As := [_]) rfl, rfl, by unfold rdV; rw [if_neg (by decide), if_pos h1], by unfold rdAt rdE; rw [if_neg (by decide), if_pos h1, if_neg (by decide)]; rfl⟩
        | exact ⟨_, [_], _, rfl, pickA_perm (is := [1]) (As := [_]) rfl, rfl, by unfold rdV; rw [if_neg (by decide), if_pos h1], by unfold rdAt rdE; rw [if_neg (by decide), if_pos h1, if_neg (by decide)]; rfl⟩
        | exact ⟨_, [_], _, rfl, pickA_perm (is := [2]) (As := [_]) rfl, rfl, by unfold rdV; rw [if_neg (by decide), if_pos h1], by unfold rdAt rdE; rw [if_neg (by decide), if_pos h1, if_neg (by decide)]; rfl⟩
        | exact ⟨_, [_], _, rfl, pickA_perm (is := [3]) (As := [_]) rfl, rfl, by unfold rdV; rw [if_neg (by decide), if_pos h1], by unfold rdAt rdE; rw [if_neg (by decide), if_pos h1, if_neg (by decide)]; rfl⟩
        | exact ⟨_, [_], _, rfl, pickA_perm (is := [4]) (As := [_]) rfl, rfl, by unfold rdV; rw [if_neg (by decide), if_pos h1], by unfold rdAt rdE; rw [if_neg (by decide), if_pos h1, if_neg (by decide)]; rfl⟩
    · subst h1
      have hk' := hk rfl rfl
      repeat (first | refine sc rfl ?_ | refine so rfl ?_ | refine sb rfl ?_)
      first
        | refine O_loadP 0 (reads_box 1) rfl rfl rfl rfl rfl rfl ?_
        | refine O_loadP 1 (reads_box 1) rfl rfl rfl rfl rfl rfl ?_
        | refine O_loadP 2 (reads_box 1) rfl rfl rfl rfl rfl rfl ?_
        | refine O_loadP 3 (reads_box 1) rfl rfl rfl rfl rfl rfl ?_
        | refine O_loadP 4 (reads_box 1) rfl rfl rfl rfl rfl rfl ?_
      repeat (first | refine sc rfl ?_ | refine so rfl ?_ | refine sb rfl ?_)
      rw [w64 (x := (at_ : Int) + (k : Int)) (by omega) (by omega)]
      first
        | refine O_Xn (X_storeP 0 (writes_box (b := g) (t := 248) (cells := [.s b, I64 (at_ : Nat), I64 0]) (by simp)) rfl rfl rfl rfl rfl rfl rfl) ?_
        | refine O_Xn (X_storeP 1 (writes_box (b := g) (t := 248) (cells := [.s b, I64 (at_ : Nat), I64 0]) (by simp)) rfl rfl rfl rfl rfl rfl rfl) ?_
        | refine O_Xn (X_storeP 2 (writes_box (b := g) (t := 248) (cells := [.s b, I64 (at_ : Nat), I64 0]) (by simp)) rfl rfl rfl rfl rfl rfl rfl) ?_
        | refine O_Xn (X_storeP 3 (writes_box (b := g) (t := 248) (cells := [.s b, I64 (at_ : Nat), I64 0]) (by simp)) rfl rfl rfl rfl rfl rfl rfl) ?_
        | refine O_Xn (X_storeP 4 (writes_box (b := g) (t := 248) (cells := [.s b, I64 (at_ : Nat), I64 0]) (by simp)) rfl rfl rfl rfl rfl rfl rfl) ?_
      repeat (first | refine sc rfl ?_ | refine so rfl ?_ | refine sb rfl ?_)
      first
        | exact ⟨_, [_], _, rfl, pickA_perm (is := [0]) (As := [_]) rfl, rfl, by unfold rdV; rw [if_neg (by decide), if_neg (by decide)], by unfold rdAt rdE; rw [if_neg (by decide), if_neg (by decide), if_neg (by decide)]; rfl⟩
        | exact ⟨_, [_], _, rfl, pickA_perm (is := [1]) (As := [_]) rfl, rfl, by unfold rdV; rw [if_neg (by decide), if_neg (by decide)], by unfold rdAt rdE; rw [if_neg (by decide), if_neg (by decide), if_neg (by decide)]; rfl⟩
        | exact ⟨_, [_], _, rfl, pickA_perm (is := [2]) (As := [_]) rfl, rfl, by unfold rdV; rw [if_neg (by decide), if_neg (by decide)], by unfold rdAt rdE; rw [if_neg (by decide), if_neg (by decide), if_neg (by decide)]; rfl⟩
        | exact ⟨_, [_], _, rfl, pickA_perm (is := [3]) (As := [_]) rfl, rfl, by unfold rdV; rw [if_neg (by decide), if_neg (by decide)], by unfold rdAt rdE; rw [if_neg (by decide), if_neg (by decide), if_neg (by decide)]; rfl⟩
        | exact ⟨_, [_], _, rfl, pickA_perm (is := [4]) (As := [_]) rfl, rfl, by unfold rdV; rw [if_neg (by decide), if_neg (by decide)], by unfold rdAt rdE; rw [if_neg (by decide), if_neg (by decide), if_neg (by decide)]; rfl⟩
  · refine FnA.intro Tryz.tabOK Tryz.wide_ Tryz.func132 rfl (by decide) rfl (fun X => ?_)
    repeat (first | refine sc rfl ?_ | refine so rfl ?_ | refine sb rfl ?_)
    refine O_Xd (X_ptrnil Tryz.underlying155 rfl rfl rfl) ?_
    repeat (first | refine sc rfl ?_ | refine so rfl ?_ | refine sb rfl ?_)
    first
      | refine O_loadP 0 (reads_box 2) rfl rfl rfl rfl rfl rfl ?_
      | refine O_loadP 1 (reads_box 2) rfl rfl rfl rfl rfl rfl ?_
      | refine O_loadP 2 (reads_box 2) rfl rfl rfl rfl rfl rfl ?_
      | refine O_loadP 3 (reads_box 2) rfl rfl rfl rfl rfl rfl ?_
      | refine O_loadP 4 (reads_box 2) rfl rfl rfl rfl rfl rfl ?_
    repeat (first | refine sc rfl ?_ | refine so rfl ?_ | refine sb rfl ?_)
    refine C_if rfl (fun h0 => ?_) (fun h0 => ?_) <;> simp only [decide_eq_true_eq, decide_eq_false_iff_not, Bool.not_eq_true', Bool.not_eq_false', beq_iff_eq, beq_eq_false_iff_ne, bne_iff_ne, ne_eq, bne_eq_false_iff_eq, Decidable.not_not] at h0
    · repeat (first | refine sc rfl ?_ | refine so rfl ?_ | refine sb rfl ?_)
      first
        | exact ⟨_, [_], _, rfl, pickA_perm (is := [0]) (As := [_]) rfl, rfl, by unfold rdV; rw [if_pos h0], by unfold rdAt rdE; rw [if_pos h0, if_pos h0]⟩
        | exact ⟨_, [_], _, rfl, pickA_perm (is := [1]) (As := [_]) rfl, rfl, by unfold rdV; rw [if_pos h0], by unfold rdAt rdE; rw [if_pos h0, if_pos h0]⟩
        | exact ⟨_, [_], _, rfl, pickA_perm (is := [2]) (As := [_]) rfl, rfl, by unfold rdV; rw [if_pos h0], by unfold rdAt rdE; rw [if_pos h0, if_pos h0]⟩
        | exact ⟨_, [_], _, rfl, pickA_perm (is := [3]) (As := [_]) rfl, rfl, by unfold rdV; rw [if_pos h0], by unfold rdAt rdE; rw [if_pos h0, if_pos h0]⟩
        | exact ⟨_, [_], _, rfl, pickA_perm (is := [4]) (As := [_]) rfl, rfl, by unfold rdV; rw [if_pos h0], by unfold rdAt rdE; rw [if_pos h0, if_pos h0]⟩
    subst h0
    repeat (first | refine sc rfl ?_ | refine so rfl ?_ | refine sb rfl ?_)
    refine C_drawD rfl (by kernel_rfl) ?_
    repeat (first | refine sd rfl ?_ | refine sdb rfl ?_ | refine sds rfl ?_)
    refine D_X (.s b) (X_loadP 0 (A := rdr g b at_ 0) (reads_box 0) rfl rfl rfl rfl rfl rfl) ?_
    repeat (first | refine sd rfl ?_ | refine sdb rfl ?_ | refine sds rfl ?_)
    refine D_X (I64 (at_ : Nat)) (X_loadP 0 (A := rdr g b at_ 0) (reads_box 1) rfl rfl rfl rfl rfl rfl) ?_
    repeat (first | refine sd rfl ?_ | refine ⟨by omega, ?_⟩)
    rw [Int.toNat_natCast]
    refine D_callV hclo himm (hf rfl) rfl rfl rfl rfl rfl ?_
    repeat (first | refine sd rfl ?_ | refine sdb rfl ?_ | refine sds rfl ?_)
    repeat (first | refine sc rfl ?_ | refine so rfl ?_ | refine sb rfl ?_)
    refine C_if rfl (fun h1 => ?_) (fun h1 => ?_) <;> simp only [decide_eq_true_eq, decide_eq_false_iff_not, Bool.not_eq_true', Bool.not_eq_false', beq_iff_eq, beq_eq_false_iff_ne, bne_iff_ne, ne_eq, bne_eq_false_iff_eq, Decidable.not_not] at h1
    · repeat (first | refine sc rfl ?_ | refine so rfl ?_ | refine sb rfl ?_)
      first
        | refine O_Xn (X_storeP 0 (writes_box (b := g) (t := 248) (cells := [.s b, I64 (at_ : Nat), I64 0]) (by simp)) rfl rfl rfl rfl rfl rfl rfl) ?_
        | refine O_Xn (X_storeP 1 (writes_box (b := g) (t := 248) (cells := [.s b, I64 (at_ : Nat), I64 0]) (by simp)) rfl rfl rfl rfl rfl rfl rfl) ?_
        | refine O_Xn (X_storeP 2 (writes_box (b := g) (t := 248) (cells := [.s b, I64 (at_ : Nat), I64 0]) (by simp)) rfl rfl rfl rfl rfl rfl rfl) ?_
        | refine O_Xn (X_storeP 3 (writes_box (b := g) (t := 248) (cells := [.s b, I64 (at_ : Nat), I64 0]) (by simp)) rfl rfl rfl rfl rfl rfl rfl) ?_
        | refine O_Xn (X_storeP 4 (writes_box (b := g) (t := 248) (cells := [.s b, I64 (at_ : Nat), I64 0]) (by simp)) rfl rfl rfl rfl rfl rfl rfl) ?_
      repeat (first | refine sc rfl ?_ | refine so rfl ?_ | refine sb rfl ?_)
      first
        | exact ⟨_, [_], _, rfl, pickA_perm (is := [0]) (As := [_]) rfl, rfl, by unfold rdV; rw [if_neg (by decide), if_pos h1], by unfold rdAt rdE; rw [if_neg (by decide), if_pos h1, if_neg (by decide)]; rfl⟩
        | exact ⟨_, [_], _, rfl, pickA_perm (is := [1]) (As := [_]) rfl, rfl, by unfold rdV; rw [if_neg (by decide), if_pos h1], by unfold rdAt rdE; rw [if_neg (by decide), if_pos h1, if_neg (by decide)]; rfl⟩
        | exact ⟨_, [_], _, rfl, pickA_perm (is := [2]) (As := [_]) rfl, rfl, by unfold rdV; rw [if_neg (by decide), if_pos h1], by unfold rdAt rdE; rw [if_neg (by decide), if_pos h1, if_neg (by decide)]; rfl⟩
        | exact ⟨_, [_], _, rfl, pickA_perm (is := [3]) (As := [_]) rfl, rfl, by unfold rdV; rw [if_neg (by decide), if_pos h1], by unfold rdAt rdE; rw [if_neg (by decide), if_pos h1, if_neg (by decide)]; rfl⟩
        | exact ⟨_, [_], _, rfl, pickA_perm (is := [4]) (As := [_]) rfl, rfl, by unfold rdV; rw [if_neg (by decide), if_pos h1], by unfold rdAt rdE; rw [if_neg (by decide), if_pos h1, if_neg (by decide)]; rfl⟩
    · subst h1
      have hk' := hk rfl rfl
      repeat (first | refine sc rfl ?_ | refine so rfl ?_ | refine sb rfl ?_)
      first
        | refine O_loadP 0 (reads_box 1) rfl rfl rfl rfl rfl rfl ?_
        | refine O_loadP 1 (reads_box 1) rfl rfl rfl rfl rfl rfl ?_
        | refine O_loadP 2 (reads_box 1) rfl rfl rfl rfl rfl rfl ?_
        | refine O_loadP 3 (reads_box 1) rfl rfl rfl rfl rfl rfl ?_
        | refine O_loadP 4 (reads_box 1) rfl rfl rfl rfl rfl rfl ?_
      repeat (first | refine sc rfl ?_ | refine so rfl ?_ | refine sb rfl ?_)
      rw [w64 (x := (at_ : Int) + (k : Int)) (by omega) (by omega)]
      first
        | refine O_Xn (X_storeP 0 (writes_box (b := g) (t := 248) (cells := [.s b, I64 (at_ : Nat), I64 0]) (by simp)) rfl rfl rfl rfl rfl rfl rfl) ?_
        | refine O_Xn (X_storeP 1 (writes_box (b := g) (t := 248) (cells := [.s b, I64 (at_ : Nat), I64 0]) (by simp)) rfl rfl rfl rfl rfl rfl rfl) ?_
        | refine O_Xn (X_storeP 2 (writes_box (b := g) (t := 248) (cells := [.s b, I64 (at_ : Nat), I64 0]) (by simp)) rfl rfl rfl rfl rfl rfl rfl) ?_
        | refine O_Xn (X_storeP 3 (writes_box (b := g) (t := 248) (cells := [.s b, I64 (at_ : Nat), I64 0]) (by simp)) rfl rfl rfl rfl rfl rfl rfl) ?_
        | refine O_Xn (X_storeP 4 (writes_box (b := g) (t := 248) (cells := [.s b, I64 (at_ : Nat), I64 0]) (by simp)) rfl rfl rfl rfl rfl rfl rfl) ?_
      repeat (first | refine sc rfl ?_ | refine so rfl ?_ | refine sb rfl ?_)
      first
        | exact ⟨_, [_], _, rfl, pickA_perm (is := [0]) (As := [_]) rfl, rfl, by unfold rdV; rw [if_neg (by decide), if_neg (by decide)], by unfold rdAt rdE; rw [if_neg (by decide), if_neg (by decide), if_neg (by decide)]; rfl⟩
        | exact ⟨_, [_], _, rfl, pickA_perm (is := [1]) (As := [_]) rfl, rfl, by unfold rdV; rw [if_neg (by decide), if_neg (by decide)], by unfold rdAt rdE; rw [if_neg (by decide), if_neg (by decide), if_neg (by decide)]; rfl⟩
        | exact ⟨_, [_], _, rfl, pickA_perm (is := [2]) (As := [_]) rfl, rfl, by unfold rdV; rw [if_neg (by decide), if_neg (by decide)], by unfold rdAt rdE; rw [if_neg (by decide), if_neg (by decide), if_neg (by decide)]; rfl⟩
        | exact ⟨_, [_], _, rfl, pickA_perm (is := [3]) (As := [_]) rfl, rfl, by unfold rdV; rw [if_neg (by decide), if_neg (by decide)], by unfold rdAt rdE; rw [if_neg (by decide), if_neg (by decide), if_neg (by decide)]; rfl⟩
        | exact ⟨_, [_], _, rfl, pickA_perm (is := [4]) (As := [_]) rfl, rfl, by unfold rdV; rw [if_neg (by decide), if_neg (by decide)], by unfold rdAt rdE; rw [if_neg (by decide), if_neg (by decide), if_neg (by decide)]; rfl⟩

end Go.Proofs

/- Contracts of span: numbers, what is left, the end. -/
set_option linter.unusedSimpArgs false
set_option linter.unusedVariables false
set_option maxRecDepth 100000
namespace Go.Proofs
open Go.Sy Go.Lib

/-- A number that is not too great, of bytes. -/
def intT (m : Nat) (l : List UInt8) : Int × Nat × Int := (IntKind.i64.wrap ((tk l).1 : Nat), (tk l).2.1, if (tk l).2.2 = 0 ∧ m < (tk l).1 then 3 else (tk l).2.2)

theorem IntF_p (m : Nat) (hm : m ≤ 9223372036854775807) (l : List UInt8) (hl : l.length ≤ 9223372036854775807) : FnP Tryz.prog 133 [.s l, .cp [I64 (m : Nat)]]
    (· = .tup [I64 (intT m l).1, I64 (((intT m l).2.1 : Nat) : Int), I64 (intT m l).2.2]) := by
  refine FnP.intro Tryz.tabOK Tryz.wide_ Tryz.func133 rfl (by decide) rfl (fun X => ?_)
  unfold intT
  repeat (first | refine sc rfl ?_ | refine so rfl ?_ | refine sb rfl ?_)
  refine O_call (vTake_p l hl) (by rfl) (by rfl) (by rfl) (by rfl) (fun r hr => ?_)
  subst hr
  obtain ⟨n, k, e, ht⟩ : ∃ n k e, tk l = (n, k, e) := ⟨_, _, _, rfl⟩
  rw [ht]
  simp only []
  repeat (first | refine sc rfl ?_ | refine so rfl ?_ | refine sb rfl ?_)
  refine O_join ⟨[(6, U64 (n : Nat)), (7, I64 (k : Nat)), (8, I64 e), (23, B (decide (e = 0 ∧ m < n)))], []⟩ ?_ (fun s h => C_le _ h ?_)
  · have fin2 : ∀ x : Bool, x = decide (e = 0 ∧ m < n) → some (B x) = some (B (decide (e = 0 ∧ m < n))) := fun x hb => by rw [hb]
    refine O_case 17 rfl (fun h5 => ?_) (fun h5 => ?_) <;> simp at h5 <;> repeat (first | refine sc rfl ?_ | refine so rfl ?_ | refine sb rfl ?_)
    · rw [show max (m : Int) 0 = (m : Int) by omega, u64wrap (x := (m : Int)) (by omega) (by omega)]
      refine Le.sub [] ⟨rfl, rfl, rfl, fin2 _ ?_, trivial⟩ rfl
      rw [Bool.eq_iff_iff, decide_eq_true_eq, decide_eq_true_eq]
      omega
    · exact Le.sub [] ⟨rfl, rfl, rfl, fin2 _ (by rw [Bool.eq_iff_iff]; simp; omega), trivial⟩ rfl
  refine C_ifJ ⟨[(6, U64 (n : Nat)), (7, I64 (k : Nat)), (8, I64 (if e = 0 ∧ m < n then 3 else e))], []⟩ rfl (fun h1 => ?_) (fun h1 => ?_) (fun s h => C_le _ h ?_)
  · rw [if_pos (of_decide_eq_true h1)]
    repeat (first | refine sc rfl ?_ | refine so rfl ?_ | refine sb rfl ?_)
    exact Le.sub [] ⟨rfl, rfl, rfl, trivial⟩ rfl
  · rw [if_neg (of_decide_eq_false h1)]
    repeat (first | refine sc rfl ?_ | refine so rfl ?_ | refine sb rfl ?_)
    exact Le.sub [] ⟨rfl, rfl, rfl, trivial⟩ rfl
  repeat (first | refine sc rfl ?_ | refine so rfl ?_ | refine sb rfl ?_)
  exact ⟨_, rfl, rfl, rfl⟩

theorem Read_A0 (b : List UInt8) : FnA Tryz.prog 81 [.s b] [] (fun r cs' => ∃ g, r = PT g 0 ∧ cs' = [rdr g b 0 0]) := by
  refine FnA.intro Tryz.tabOK Tryz.wide_ Tryz.func81 rfl (by decide) rfl (fun X => ?_)
  iterate 11 (first | refine sc rfl ?_ | refine so rfl ?_ | refine sb rfl ?_)
  refine C_absb 2 rfl rfl rfl (fun g => ?_)
  repeat (first | refine sc rfl ?_ | refine so rfl ?_ | refine sb rfl ?_)
  first
    | exact ⟨_, [_], _, rfl, pickA_perm (is := [0]) (As := [_]) rfl, rfl, g, rfl, rfl⟩
    | exact ⟨_, [_], _, rfl, pickA_perm (is := [1]) (As := [_]) rfl, rfl, g, rfl, rfl⟩

theorem tk_end {l : List UInt8} (h : (tk l).2.2 = 0) : (tk l).2.1 ≤ l.length := by
  obtain ⟨n, k, e, ht⟩ : ∃ n k e, tk l = (n, k, e) := ⟨_, _, _, rfl⟩
  rw [ht] at h ⊢
  simp only [] at h
  subst h
  exact (tk_take ht).2.2.1

theorem Num_A (g : Nat) (b : List UInt8) (at_ : Nat) (e : Int) (hat : at_ ≤ b.length) (hb : b.length ≤ 9223372036854775807) :
    FnA Tryz.prog 82 [PT g 0] [rdr g b at_ e] (fun r cs' => r = U64 (rdV 0 ((tk (b.drop at_)).1 : Nat) e (tk (b.drop at_)).2.2) ∧ cs' = [rdr g b (rdAt at_ (tk (b.drop at_)).2.1 e (tk (b.drop at_)).2.2) (rdE e (tk (b.drop at_)).2.2)]) := by
  refine FnA.intro Tryz.tabOK Tryz.wide_ Tryz.func82 rfl (by decide) rfl (fun X => ?_)
  repeat (first | refine sc rfl ?_ | refine so rfl ?_ | refine sb rfl ?_)
  first
    | refine O_callA [0] (takeU_A g b at_ e (.v (.func (.func 131) #[] #[])) 131 [] (tk (b.drop at_)).2.1 (tk (b.drop at_)).2.2 ((tk (b.drop at_)).1 : Nat) (isClo_func 131) rfl hat (.inr ⟨_, rfl⟩) (fun _ => vTake_p (b.drop at_) (by simp; omega)) (fun _ h => by have := tk_end h; simp at this; omega) hb) (by rfl) (by rfl) (by rfl) (by rfl) (by rfl) ?_
    | refine O_callA [1] (takeU_A g b at_ e (.v (.func (.func 131) #[] #[])) 131 [] (tk (b.drop at_)).2.1 (tk (b.drop at_)).2.2 ((tk (b.drop at_)).1 : Nat) (isClo_func 131) rfl hat (.inr ⟨_, rfl⟩) (fun _ => vTake_p (b.drop at_) (by simp; omega)) (fun _ h => by have := tk_end h; simp at this; omega) hb) (by rfl) (by rfl) (by rfl) (by rfl) (by rfl) ?_
    | refine O_callA [2] (takeU_A g b at_ e (.v (.func (.func 131) #[] #[])) 131 [] (tk (b.drop at_)).2.1 (tk (b.drop at_)).2.2 ((tk (b.drop at_)).1 : Nat) (isClo_func 131) rfl hat (.inr ⟨_, rfl⟩) (fun _ => vTake_p (b.drop at_) (by simp; omega)) (fun _ h => by have := tk_end h; simp at this; omega) hb) (by rfl) (by rfl) (by rfl) (by rfl) (by rfl) ?_
    | refine O_callA [3] (takeU_A g b at_ e (.v (.func (.func 131) #[] #[])) 131 [] (tk (b.drop at_)).2.1 (tk (b.drop at_)).2.2 ((tk (b.drop at_)).1 : Nat) (isClo_func 131) rfl hat (.inr ⟨_, rfl⟩) (fun _ => vTake_p (b.drop at_) (by simp; omega)) (fun _ h => by have := tk_end h; simp at this; omega) hb) (by rfl) (by rfl) (by rfl) (by rfl) (by rfl) ?_
    | refine O_callA [4] (takeU_A g b at_ e (.v (.func (.func 131) #[] #[])) 131 [] (tk (b.drop at_)).2.1 (tk (b.drop at_)).2.2 ((tk (b.drop at_)).1 : Nat) (isClo_func 131) rfl hat (.inr ⟨_, rfl⟩) (fun _ => vTake_p (b.drop at_) (by simp; omega)) (fun _ h => by have := tk_end h; simp at this; omega) hb) (by rfl) (by rfl) (by rfl) (by rfl) (by rfl) ?_
  rintro r cs' ⟨rfl, rfl⟩
  repeat (first | refine sc rfl ?_ | refine so rfl ?_ | refine sb rfl ?_)
  first
    | exact ⟨_, [_], _, rfl, pickA_perm (is := [0]) (As := [_]) rfl, rfl, rfl, rfl⟩
    | exact ⟨_, [_], _, rfl, pickA_perm (is := [1]) (As := [_]) rfl, rfl, rfl, rfl⟩
    | exact ⟨_, [_], _, rfl, pickA_perm (is := [2]) (As := [_]) rfl, rfl, rfl, rfl⟩
    | exact ⟨_, [_], _, rfl, pickA_perm (is := [3]) (As := [_]) rfl, rfl, rfl, rfl⟩
    | exact ⟨_, [_], _, rfl, pickA_perm (is := [4]) (As := [_]) rfl, rfl, rfl, rfl⟩

theorem intT_end {m : Nat} {l : List UInt8} (h : (intT m l).2.2 = 0) : (intT m l).2.1 ≤ l.length := by
  unfold intT at h ⊢
  simp only [] at h ⊢
  split at h
  · cases h
  · exact tk_end h

theorem Int_A (g : Nat) (b : List UInt8) (at_ : Nat) (e : Int) (m : Nat) (hm : m ≤ 9223372036854775807) (hat : at_ ≤ b.length) (hb : b.length ≤ 9223372036854775807) :
    FnA Tryz.prog 83 [PT g 0, I64 (m : Nat)] [rdr g b at_ e] (fun r cs' => r = I64 (rdV 0 (intT m (b.drop at_)).1 e (intT m (b.drop at_)).2.2) ∧ cs' = [rdr g b (rdAt at_ (intT m (b.drop at_)).2.1 e (intT m (b.drop at_)).2.2) (rdE e (intT m (b.drop at_)).2.2)]) := by
  refine FnA.intro Tryz.tabOK Tryz.wide_ Tryz.func83 rfl (by decide) rfl (fun X => ?_)
  repeat (first | refine sc rfl ?_ | refine so rfl ?_ | refine sb rfl ?_)
  refine O_le _ (Le.freezebox 3 rfl rfl rfl) ?_
  repeat (first | refine sc rfl ?_ | refine so rfl ?_ | refine sb rfl ?_)
  refine O_makeFunc rfl rfl rfl rfl ?_
  repeat (first | refine sc rfl ?_ | refine so rfl ?_ | refine sb rfl ?_)
  first
    | refine O_callA [0] (takeI_A g b at_ e (.p (cloRP 133 [.cp [I64 (m : Nat)]])) 133 [.cp [I64 (m : Nat)]] (intT m (b.drop at_)).2.1 (intT m (b.drop at_)).2.2 (intT m (b.drop at_)).1 (isClo_p _ _) rfl hat (.inl rfl) (fun _ => IntF_p m hm (b.drop at_) (by simp; omega)) (fun _ h => by have := intT_end h; simp at this; omega) hb) (by rfl) (by rfl) (by rfl) (by rfl) (by rfl) ?_
    | refine O_callA [1] (takeI_A g b at_ e (.p (cloRP 133 [.cp [I64 (m : Nat)]])) 133 [.cp [I64 (m : Nat)]] (intT m (b.drop at_)).2.1 (intT m (b.drop at_)).2.2 (intT m (b.drop at_)).1 (isClo_p _ _) rfl hat (.inl rfl) (fun _ => IntF_p m hm (b.drop at_) (by simp; omega)) (fun _ h => by have := intT_end h; simp at this; omega) hb) (by rfl) (by rfl) (by rfl) (by rfl) (by rfl) ?_
    | refine O_callA [2] (takeI_A g b at_ e (.p (cloRP 133 [.cp [I64 (m : Nat)]])) 133 [.cp [I64 (m : Nat)]] (intT m (b.drop at_)).2.1 (intT m (b.drop at_)).2.2 (intT m (b.drop at_)).1 (isClo_p _ _) rfl hat (.inl rfl) (fun _ => IntF_p m hm (b.drop at_) (by simp; omega)) (fun _ h => by have := intT_end h; simp at this; omega) hb) (by rfl) (by rfl) (by rfl) (by rfl) (by rfl) ?_
    | refine O_callA [3] (takeI_A g b at_ e (.p (cloRP 133 [.cp [I64 (m : Nat)]])) 133 [.cp [I64 (m : Nat)]] (intT m (b.drop at_)).2.1 (intT m (b.drop at_)).2.2 (intT m (b.drop at_)).1 (isClo_p _ _) rfl hat (.inl rfl) (fun _ => IntF_p m hm (b.drop at_) (by simp; omega)) (fun _ h => by have := intT_end h; simp at this; omega) hb) (by rfl) (by rfl) (by rfl) (by rfl) (by rfl) ?_
    | refine O_callA [4] (takeI_A g b at_ e (.p (cloRP 133 [.cp [I64 (m : Nat)]])) 133 [.cp [I64 (m : Nat)]] (intT m (b.drop at_)).2.1 (intT m (b.drop at_)).2.2 (intT m (b.drop at_)).1 (isClo_p _ _) rfl hat (.inl rfl) (fun _ => IntF_p m hm (b.drop at_) (by simp; omega)) (fun _ h => by have := intT_end h; simp at this; omega) hb) (by rfl) (by rfl) (by rfl) (by rfl) (by rfl) ?_
  rintro r cs' ⟨rfl, rfl⟩
  repeat (first | refine sc rfl ?_ | refine so rfl ?_ | refine sb rfl ?_)
  first
    | exact ⟨_, [_], _, rfl, pickA_perm (is := [0]) (As := [_]) rfl, rfl, rfl, rfl⟩
    | exact ⟨_, [_], _, rfl, pickA_perm (is := [1]) (As := [_]) rfl, rfl, rfl, rfl⟩
    | exact ⟨_, [_], _, rfl, pickA_perm (is := [2]) (As := [_]) rfl, rfl, rfl, rfl⟩
    | exact ⟨_, [_], _, rfl, pickA_perm (is := [3]) (As := [_]) rfl, rfl, rfl, rfl⟩
    | exact ⟨_, [_], _, rfl, pickA_perm (is := [4]) (As := [_]) rfl, rfl, rfl, rfl⟩

def rdDone (b : List UInt8) (at_ : Nat) (e : Int) : Int := if e ≠ 0 then e else if at_ < b.length then 1 else 0
theorem Done_A (g : Nat) (b : List UInt8) (at_ : Nat) (e : Int) : FnA Tryz.prog 85 [PT g 0] [rdr g b at_ e] (fun r cs' => r = I64 (rdDone b at_ e) ∧ cs' = [rdr g b at_ e]) := by
  refine FnA.intro Tryz.tabOK Tryz.wide_ Tryz.func85 rfl (by decide) rfl (fun X => ?_)
  unfold rdDone
  repeat (first | refine sc rfl ?_ | refine so rfl ?_ | refine sb rfl ?_)
  refine O_Xd (X_ptrnil Tryz.underlying155 rfl rfl rfl) ?_
  repeat (first | refine sc rfl ?_ | refine so rfl ?_ | refine sb rfl ?_)
  refine C_false rfl rfl ?_
  repeat (first | refine sc rfl ?_ | refine so rfl ?_ | refine sb rfl ?_)
  first
    | refine O_loadP 0 (reads_box 2) rfl rfl rfl rfl rfl rfl ?_
    | refine O_loadP 1 (reads_box 2) rfl rfl rfl rfl rfl rfl ?_
    | refine O_loadP 2 (reads_box 2) rfl rfl rfl rfl rfl rfl ?_
    | refine O_loadP 3 (reads_box 2) rfl rfl rfl rfl rfl rfl ?_
    | refine O_loadP 4 (reads_box 2) rfl rfl rfl rfl rfl rfl ?_
  repeat (first | refine sc rfl ?_ | refine so rfl ?_ | refine sb rfl ?_)
  refine C_if rfl (fun h0 => ?_) (fun h0 => ?_) <;> simp only [decide_eq_true_eq, decide_eq_false_iff_not, Bool.not_eq_true', Bool.not_eq_false', beq_iff_eq, beq_eq_false_iff_ne, bne_iff_ne, ne_eq, bne_eq_false_iff_eq, Decidable.not_not] at h0
  · repeat (first | refine sc rfl ?_ | refine so rfl ?_ | refine sb rfl ?_)
    first
      | refine O_loadP 0 (reads_box 2) rfl rfl rfl rfl rfl rfl ?_
      | refine O_loadP 1 (reads_box 2) rfl rfl rfl rfl rfl rfl ?_
      | refine O_loadP 2 (reads_box 2) rfl rfl rfl rfl rfl rfl ?_
      | refine O_loadP 3 (reads_box 2) rfl rfl rfl rfl rfl rfl ?_
      | refine O_loadP 4 (reads_box 2) rfl rfl rfl rfl rfl rfl ?_
    repeat (first | refine sc rfl ?_ | refine so rfl ?_ | refine sb rfl ?_)
    first
      | exact ⟨_, [_], _, rfl, pickA_perm (is := [0]) (As := [_]) rfl, rfl, by rw [if_pos h0], rfl⟩
      | exact ⟨_, [_], _, rfl, pickA_perm (is := [1]) (As := [_]) rfl, rfl, by rw [if_pos h0], rfl⟩
      | exact ⟨_, [_], _, rfl, pickA_perm (is := [2]) (As := [_]) rfl, rfl, by rw [if_pos h0], rfl⟩
      | exact ⟨_, [_], _, rfl, pickA_perm (is := [3]) (As := [_]) rfl, rfl, by rw [if_pos h0], rfl⟩
      | exact ⟨_, [_], _, rfl, pickA_perm (is := [4]) (As := [_]) rfl, rfl, by rw [if_pos h0], rfl⟩
  subst h0
  rw [if_neg (by decide)]
  repeat (first | refine sc rfl ?_ | refine so rfl ?_ | refine sb rfl ?_)
  refine C_drawD rfl (by kernel_rfl) ?_
  repeat (first | refine sd rfl ?_ | refine sdb rfl ?_ | refine sds rfl ?_)
  refine D_X (I64 (at_ : Nat)) (X_loadP 0 (A := rdr g b at_ 0) (reads_box 1) rfl rfl rfl rfl rfl rfl) ?_
  repeat (first | refine sd rfl ?_ | refine sdb rfl ?_ | refine sds rfl ?_)
  refine D_X (.s b) (X_loadP 0 (A := rdr g b at_ 0) (reads_box 0) rfl rfl rfl rfl rfl rfl) ?_
  repeat (first | refine sd rfl ?_ | refine sdb rfl ?_ | refine sds rfl ?_)
  repeat (first | refine sc rfl ?_ | refine so rfl ?_ | refine sb rfl ?_)
  refine C_if rfl (fun h1 => ?_) (fun h1 => ?_) <;> simp only [decide_eq_true_eq, decide_eq_false_iff_not, Bool.not_eq_true', Bool.not_eq_false', beq_iff_eq, beq_eq_false_iff_ne, bne_iff_ne, ne_eq, bne_eq_false_iff_eq, Decidable.not_not] at h1
  · rw [if_pos (by omega)]
    repeat (first | refine sc rfl ?_ | refine so rfl ?_ | refine sb rfl ?_)
    first
      | exact ⟨_, [_], _, rfl, pickA_perm (is := [0]) (As := [_]) rfl, rfl, rfl, rfl⟩
      | exact ⟨_, [_], _, rfl, pickA_perm (is := [1]) (As := [_]) rfl, rfl, rfl, rfl⟩
      | exact ⟨_, [_], _, rfl, pickA_perm (is := [2]) (As := [_]) rfl, rfl, rfl, rfl⟩
      | exact ⟨_, [_], _, rfl, pickA_perm (is := [3]) (As := [_]) rfl, rfl, rfl, rfl⟩
      | exact ⟨_, [_], _, rfl, pickA_perm (is := [4]) (As := [_]) rfl, rfl, rfl, rfl⟩
  · rw [if_neg (by omega)]
    repeat (first | refine sc rfl ?_ | refine so rfl ?_ | refine sb rfl ?_)
    first
      | exact ⟨_, [_], _, rfl, pickA_perm (is := [0]) (As := [_]) rfl, rfl, rfl, rfl⟩
      | exact ⟨_, [_], _, rfl, pickA_perm (is := [1]) (As := [_]) rfl, rfl, rfl, rfl⟩
      | exact ⟨_, [_], _, rfl, pickA_perm (is := [2]) (As := [_]) rfl, rfl, rfl, rfl⟩
      | exact ⟨_, [_], _, rfl, pickA_perm (is := [3]) (As := [_]) rfl, rfl, rfl, rfl⟩
      | exact ⟨_, [_], _, rfl, pickA_perm (is := [4]) (As := [_]) rfl, rfl, rfl, rfl⟩
end Go.Proofs

/- Contracts of conf and admin: Take; of trace: Done. -/
set_option linter.unusedSimpArgs false
set_option linter.unusedVariables false
set_option maxRecDepth 100000
namespace Go.Proofs
open Go.Sy Go.Lib

abbrev zCf : List AV := [I64 0, I64 0, I64 0, I64 0, I64 0, I64 0, I64 0, I64 0, I64 0]

end Go.Proofs

/- Contracts of the document's: numbers, configurations. -/
set_option linter.unusedSimpArgs false
set_option linter.unusedVariables false
set_option maxRecDepth 100000
namespace Go.Proofs
open Go.Sy Go.Lib

abbrev mostL : List Int := [1048576, 1048576, 1048576, 1048576, 64, 64, 16, 1048576, 1048576]
def okR (l : List Int) (j : Nat) : Prop := 0 ≤ l.getD j 0 ∧ l.getD j 0 ≤ mostL.getD j 0
instance (l : List Int) (j : Nat) : Decidable (okR l j) := inferInstanceAs (Decidable (_ ∧ _))
abbrev zCF : Cf := ⟨0, 0, 0, 0, 0, 0, 0, 0, 0⟩

end Go.Proofs

/- The document's configuration of bytes, and bytes of one; both say the same. -/
set_option linter.unusedSimpArgs false
set_option linter.unusedVariables false
set_option maxRecDepth 100000
namespace Go.Proofs
open Go.Sy Go.Lib

end Go.Proofs

/- The document's order as bytes, and its Put and Take. -/
set_option linter.unusedSimpArgs false
set_option linter.unusedVariables false
set_option maxRecDepth 100000
namespace Go.Proofs
open Go.Sy Go.Lib

end Go.Proofs

/- The document's order as bytes, and its Put. -/
set_option linter.unusedSimpArgs false
set_option linter.unusedVariables false
set_option maxRecDepth 100000
namespace Go.Proofs
open Go.Sy Go.Lib

end Go.Proofs

/- The document's order of bytes, and what was done. -/
set_option linter.unusedSimpArgs false
set_option linter.unusedVariables false
set_option maxRecDepth 100000
namespace Go.Proofs
open Go.Sy Go.Lib

end Go.Proofs

/- The symbolic walk, part 70: contracts of functions that may throw. -/
set_option linter.unusedSimpArgs false
set_option linter.unusedVariables false
namespace Go.Sy
open Go.RowKit

section
variable {P : Program} {T : Tab} {X : Ctx P T} {n : Nat} {e : Env} {st : St} {a : Act} {w : World} {ops : Array Oper} {K : St → Prop}

/-! ### Calls that throw -/
/-- Nothing is so. -/
def voidRP : RP := { R := fun _ _ => False, mono := fun _ _ h => h, one := fun h => h.elim }
abbrev VOID : AV := .p voidRP

/-! ### Interface values -/
end
end Go.Sy

/- The symbolic walk, part 71: calls as steps of drawn regions of effects; interface values called; maps of which the lookups are known. -/
set_option linter.unusedSimpArgs false
set_option linter.unusedVariables false
namespace Go.Sy
open Go.RowKit
section
variable {P : Program} {T : Tab} {X : Ctx P T} {n : Nat} {e : Env} {st : St} {a : Act} {w : World} {ops : Array Oper} {K : St → Prop}

/-! ### Calls through interface values -/

end
end Go.Sy

/- TraceAsks: which rows are picked. -/
set_option linter.unusedSimpArgs false
set_option linter.unusedVariables false
set_option maxRecDepth 100000
namespace Go.Proofs
open Go.Sy Go.Lib

noncomputable def asks (k : Int) : Bool := (AsksB_F k).getD false
end Go.Proofs

/- TraceAsks: what is picked. -/
set_option linter.unusedSimpArgs false
set_option linter.unusedVariables false
set_option maxRecDepth 100000
namespace Go.Proofs
open Go.Sy Go.Lib

end Go.Proofs

/- TraceAsks: notes and rows compared. -/
set_option linter.unusedSimpArgs false
set_option linter.unusedVariables false
set_option maxRecDepth 100000
namespace Go.Proofs
open Go.Sy Go.Lib

theorem rep_nte (m : Nte) (e : Env) (ys : List Value) (h : RepL e (Nte.c m) ys) : ys = (nteV m).toList := by
  simp only [Nte.c, RepL, Rep] at h
  obtain ⟨z1, t1, rfl, rfl, _, z2, t2, rfl, rfl, _, z3, t3, rfl, rfl, _, z4, t4, rfl, rfl, _, z5, t5, rfl, rfl, _, z6, t6, rfl, rfl, _, rfl⟩ := h
  rfl
theorem eq_nte0 (m : Nte) (w : World) : (Op.equalIn 10000 35 (.agg (nteV m)) (.agg (nteV m))).run Tryz.prog w = .ok true w := by
  rw [run_equalIn_struct w 9999 35 _ _ Tryz.underlying35 Tryz.stoodInHeld35]
  unfold Program.fieldsOf
  rw [Tryz.underlying35]
  have p0 : (part 3 (nteV m) 0).run Tryz.prog w = .ok (.int .i64 m.conn) w := by simp [part, isAgg, run_underlying Tryz.underlying3, nteV]
  have p1 : (part 3 (nteV m) 1).run Tryz.prog w = .ok (.int .i64 m.owner) w := by simp [part, isAgg, run_underlying Tryz.underlying3, nteV]
  have p2 : (part 3 (nteV m) 2).run Tryz.prog w = .ok (.int .i64 m.kind) w := by simp [part, isAgg, run_underlying Tryz.underlying3, nteV]
  have p3 : (part 9 (nteV m) 3).run Tryz.prog w = .ok (S m.body) w := by simp [part, isAgg, run_underlying Tryz.underlying9, nteV]
  have p4 : (part 33 (nteV m) 4).run Tryz.prog w = .ok (.int .i64 m.err) w := by simp [part, isAgg, run_underlying Tryz.underlying33, nteV]
  have p5 : (part 9 (nteV m) 5).run Tryz.prog w = .ok (S m.reply) w := by simp [part, isAgg, run_underlying Tryz.underlying9, nteV]
  have e0 : ∀ k, (Op.equalIn 9999 3 (.int .i64 k) (.int .i64 k)).run Tryz.prog w = .ok true w := fun k => by rw [run_equalIn_int w 9998 3 .i64 .i64 _ _ Tryz.underlying3]; simp
  have e1 : ∀ l, (Op.equalIn 9999 9 (S l) (S l)).run Tryz.prog w = .ok true w := fun l => by unfold S; rw [run_equalIn_string w 9998 9 _ _ Tryz.underlying9]; simp
  have e2 : ∀ k, (Op.equalIn 9999 33 (.int .i64 k) (.int .i64 k)).run Tryz.prog w = .ok true w := fun k => by rw [run_equalIn_int w 9998 33 .i64 .i64 _ _ Tryz.underlying33]; simp
  simp only [Op.eqFields]
  rw [if_pos (by decide), if_pos (by decide), if_pos (by decide), if_pos (by decide), if_pos (by decide), if_pos (by decide)]
  simp [Sem.run_bind, p0, p1, p2, p3, p4, p5, e0, e1, e2]
end Go.Proofs

/- ServerNone: a server that is not there. -/
set_option linter.unusedSimpArgs false
set_option linter.unusedVariables false
set_option maxRecDepth 100000
namespace Go.Proofs
open Go.Sy Go.Lib

abbrev NP : AV := .v (.pointer none)
theorem noneTick_c  : FnP Tryz.prog 18 [NP] (· = .tup []) := by
  refine FnP.intro Tryz.tabOK Tryz.wide_ Tryz.func18 rfl (by decide) rfl (fun X => ?_)
  repeat (first | refine sc rfl ?_ | refine so rfl ?_ | refine sb rfl ?_)
  refine O_Xd (X_ptrnil Tryz.underlying58 rfl rfl rfl) ?_
  repeat (first | refine sc rfl ?_ | refine so rfl ?_ | refine sb rfl ?_)
  refine C_true rfl rfl ?_
  repeat (first | refine sc rfl ?_ | refine so rfl ?_ | refine sb rfl ?_)
  exact ⟨_, rfl, rfl, rfl⟩
theorem noneOpen_c  : FnP Tryz.prog 19 [NP] (· = .tup [I64 0, I64 17]) := by
  refine FnP.intro Tryz.tabOK Tryz.wide_ Tryz.func19 rfl (by decide) rfl (fun X => ?_)
  repeat (first | refine sc rfl ?_ | refine so rfl ?_ | refine sb rfl ?_)
  refine O_Xd (X_ptrnil Tryz.underlying58 rfl rfl rfl) ?_
  repeat (first | refine sc rfl ?_ | refine so rfl ?_ | refine sb rfl ?_)
  refine C_true rfl rfl ?_
  repeat (first | refine sc rfl ?_ | refine so rfl ?_ | refine sb rfl ?_)
  exact ⟨_, rfl, rfl, rfl⟩
theorem noneRecv_c (n : Int) (b : List UInt8) : FnP Tryz.prog 20 [NP, I64 n, .s b] (· = .tup [NS, I64 17]) := by
  refine FnP.intro Tryz.tabOK Tryz.wide_ Tryz.func20 rfl (by decide) rfl (fun X => ?_)
  repeat (first | refine sc rfl ?_ | refine so rfl ?_ | refine sb rfl ?_)
  refine O_Xd (X_ptrnil Tryz.underlying58 rfl rfl rfl) ?_
  repeat (first | refine sc rfl ?_ | refine so rfl ?_ | refine sb rfl ?_)
  refine C_true rfl rfl ?_
  repeat (first | refine sc rfl ?_ | refine so rfl ?_ | refine sb rfl ?_)
  exact ⟨_, rfl, rfl, rfl⟩
theorem noneServe_c  : FnP Tryz.prog 21 [NP] (· = .tup [.agg (Nte.c default), B false]) := by
  refine FnP.intro Tryz.tabOK Tryz.wide_ Tryz.func21 rfl (by decide) rfl (fun X => ?_)
  repeat (first | refine sc rfl ?_ | refine so rfl ?_ | refine sb rfl ?_)
  refine O_Xd (X_ptrnil Tryz.underlying58 rfl rfl rfl) ?_
  repeat (first | refine sc rfl ?_ | refine so rfl ?_ | refine sb rfl ?_)
  refine C_true rfl rfl ?_
  repeat (first | refine sc rfl ?_ | refine so rfl ?_ | refine sb rfl ?_)
  exact ⟨_, rfl, rfl, rfl⟩
theorem noneDeliver_c (n : Int) : FnP Tryz.prog 22 [NP, I64 n] (· = .tup [.s [], B false, I64 17]) := by
  refine FnP.intro Tryz.tabOK Tryz.wide_ Tryz.func22 rfl (by decide) rfl (fun X => ?_)
  repeat (first | refine sc rfl ?_ | refine so rfl ?_ | refine sb rfl ?_)
  refine O_Xd (X_ptrnil Tryz.underlying58 rfl rfl rfl) ?_
  repeat (first | refine sc rfl ?_ | refine so rfl ?_ | refine sb rfl ?_)
  refine C_true rfl rfl ?_
  repeat (first | refine sc rfl ?_ | refine so rfl ?_ | refine sb rfl ?_)
  exact ⟨_, rfl, rfl, rfl⟩
theorem noneView_c (n : Int) : FnP Tryz.prog 23 [NP, I64 n] (· = .tup [.agg (Vw.c default), B false]) := by
  refine FnP.intro Tryz.tabOK Tryz.wide_ Tryz.func23 rfl (by decide) rfl (fun X => ?_)
  repeat (first | refine sc rfl ?_ | refine so rfl ?_ | refine sb rfl ?_)
  refine O_Xd (X_ptrnil Tryz.underlying58 rfl rfl rfl) ?_
  repeat (first | refine sc rfl ?_ | refine so rfl ?_ | refine sb rfl ?_)
  refine C_true rfl rfl ?_
  repeat (first | refine sc rfl ?_ | refine so rfl ?_ | refine sb rfl ?_)
  exact ⟨_, rfl, rfl, rfl⟩
theorem noneDraw_c (n : Int) : FnP Tryz.prog 24 [NP, U64 n] (· = B false) := by
  refine FnP.intro Tryz.tabOK Tryz.wide_ Tryz.func24 rfl (by decide) rfl (fun X => ?_)
  repeat (first | refine sc rfl ?_ | refine so rfl ?_ | refine sb rfl ?_)
  refine O_Xd (X_ptrnnil Tryz.underlying58 rfl rfl rfl) ?_
  repeat (first | refine sc rfl ?_ | refine so rfl ?_ | refine sb rfl ?_)
  exact ⟨_, rfl, rfl, rfl⟩
theorem noneReset_c (n : Int) : FnP Tryz.prog 25 [NP, I64 n] (· = I64 17) := by
  refine FnP.intro Tryz.tabOK Tryz.wide_ Tryz.func25 rfl (by decide) rfl (fun X => ?_)
  repeat (first | refine sc rfl ?_ | refine so rfl ?_ | refine sb rfl ?_)
  refine O_Xd (X_ptrnil Tryz.underlying58 rfl rfl rfl) ?_
  repeat (first | refine sc rfl ?_ | refine so rfl ?_ | refine sb rfl ?_)
  refine C_true rfl rfl ?_
  repeat (first | refine sc rfl ?_ | refine so rfl ?_ | refine sb rfl ?_)
  exact ⟨_, rfl, rfl, rfl⟩
theorem noneNow_c  : FnP Tryz.prog 26 [NP] (· = I64 0) := by
  refine FnP.intro Tryz.tabOK Tryz.wide_ Tryz.func26 rfl (by decide) rfl (fun X => ?_)
  repeat (first | refine sc rfl ?_ | refine so rfl ?_ | refine sb rfl ?_)
  refine O_Xd (X_ptrnil Tryz.underlying58 rfl rfl rfl) ?_
  repeat (first | refine sc rfl ?_ | refine so rfl ?_ | refine sb rfl ?_)
  refine C_true rfl rfl ?_
  repeat (first | refine sc rfl ?_ | refine so rfl ?_ | refine sb rfl ?_)
  exact ⟨_, rfl, rfl, rfl⟩
theorem noneLive_c  : FnP Tryz.prog 27 [NP] (· = NS) := by
  refine FnP.intro Tryz.tabOK Tryz.wide_ Tryz.func27 rfl (by decide) rfl (fun X => ?_)
  repeat (first | refine sc rfl ?_ | refine so rfl ?_ | refine sb rfl ?_)
  refine O_Xd (X_ptrnil Tryz.underlying58 rfl rfl rfl) ?_
  repeat (first | refine sc rfl ?_ | refine so rfl ?_ | refine sb rfl ?_)
  refine C_true rfl rfl ?_
  repeat (first | refine sc rfl ?_ | refine so rfl ?_ | refine sb rfl ?_)
  exact ⟨_, rfl, rfl, rfl⟩
theorem noneActive_c  : FnP Tryz.prog 28 [NP] (· = NS) := by
  refine FnP.intro Tryz.tabOK Tryz.wide_ Tryz.func28 rfl (by decide) rfl (fun X => ?_)
  repeat (first | refine sc rfl ?_ | refine so rfl ?_ | refine sb rfl ?_)
  refine O_Xd (X_ptrnil Tryz.underlying58 rfl rfl rfl) ?_
  repeat (first | refine sc rfl ?_ | refine so rfl ?_ | refine sb rfl ?_)
  refine C_true rfl rfl ?_
  repeat (first | refine sc rfl ?_ | refine so rfl ?_ | refine sb rfl ?_)
  exact ⟨_, rfl, rfl, rfl⟩
theorem noneOwner_c (n : Int) : FnP Tryz.prog 29 [NP, I64 n] (· = I64 (-1)) := by
  refine FnP.intro Tryz.tabOK Tryz.wide_ Tryz.func29 rfl (by decide) rfl (fun X => ?_)
  repeat (first | refine sc rfl ?_ | refine so rfl ?_ | refine sb rfl ?_)
  refine O_Xd (X_ptrnil Tryz.underlying58 rfl rfl rfl) ?_
  repeat (first | refine sc rfl ?_ | refine so rfl ?_ | refine sb rfl ?_)
  refine C_true rfl rfl ?_
  repeat (first | refine sc rfl ?_ | refine so rfl ?_ | refine sb rfl ?_)
  exact ⟨_, rfl, rfl, rfl⟩
def lodV (x : Lod) : Array Value := #[.int .i64 x.tokens, .int .i64 x.mem, .int .i64 x.slots, .int .i64 x.outs]
def vwV (x : Vw) : Array Value := #[.int .i64 x.conf.quantum, .int .i64 x.conf.rate, .int .i64 x.conf.burst, .int .i64 x.conf.mem, .int .i64 x.conf.slots, .int .i64 x.conf.outs, .int .i64 x.conf.conns, .int .i64 x.conf.state, .int .i64 x.conf.decode, .bool x.rests, .int .i64 x.load.tokens, .int .i64 x.load.mem, .int .i64 x.load.slots, .int .i64 x.load.outs, .int .i64 x.waits, .int .i64 x.cost, .int .i64 x.conns, .int .i64 x.state, .int .i64 x.kept, .int .i64 x.tombs, S x.text]
end Go.Proofs

/- The symbolic walk, part 78: scopes in which the run leaps back to a label. -/
set_option linter.unusedSimpArgs false
set_option linter.unusedVariables false
namespace Go.Sy
open Go.RowKit

section
variable {P : Program} {T : Tab} {X : Ctx P T} {n : Nat} {st : St}

theorem C_goto {l : Nat} {Q : Exit → St → Prop} (h : Q (.goto l) st) : SymC X n (.goto l) st Q := fun e _ _ r => wp_goto ⟨e, st, r, h⟩

theorem wp_scope_jumps_ghost {Q : Exit → Act → World → Prop} {a : Act} {w : World} {c rest : Code} (l : Nat) (J : Nat → Act → World → Prop) (hf : findLabel c l = some rest)
    (first : c.wp P (Exit.jump l (fun a w => ∃ k, J k a w) Q) a w)
    (pass : ∀ k a w, J k a w → rest.wp P (Exit.jump l (fun a' w' => ∃ j, j < k ∧ J j a' w') Q) a w) : (Code.scope c).wp P Q a w := by
  intro b k cs
  have hg : gotoIn l (.inScope c :: k) = some (.code rest :: .inScope c :: k) := by simp [gotoIn, hf]
  have key : ∀ n a w, J n a w → ∃ e a' w', Q e a' w' ∧ Arrives P (lone (b.at a (.code rest :: .inScope c :: k)) cs w) b k cs e a' w' := by
    intro n
    induction n using Nat.strongRecOn with
    | _ n ih =>
      intro a w hJ
      obtain ⟨e, a₁, w₁, hq, harr⟩ := pass n a w hJ b (.inScope c :: k) cs
      cases e with
      | normal => exact ⟨.normal, a₁, w₁, hq, Steps.trans harr (.one step_inScope)⟩
      | exit id => exact ⟨.exit id, a₁, w₁, hq, fun k' hk => harr k' (by simp [exitTo, hk])⟩
      | goto l' =>
        obtain ⟨rfl, j, hlt, hJ'⟩ := hq
        obtain ⟨e₂, a₂, w₂, hq₂, harr₂⟩ := ih j hlt a₁ w₁ hJ'
        exact ⟨e₂, a₂, w₂, hq₂, .of_steps (harr _ hg) harr₂⟩
      | ret => exact ⟨_, a₁, w₁, hq, harr⟩
      | panic ch => exact ⟨_, a₁, w₁, hq, harr⟩
      | outgrown => exact ⟨_, a₁, w₁, hq, harr⟩
  obtain ⟨e, a₁, w₁, hq, harr⟩ := first b (.inScope c :: k) cs
  cases e with
  | normal => exact ⟨.normal, a₁, w₁, hq, .head step_scope (Steps.trans harr (.one step_inScope))⟩
  | exit id => exact ⟨.exit id, a₁, w₁, hq, fun k' hk => .head step_scope (harr k' (by simp [exitTo, hk]))⟩
  | goto l' =>
    obtain ⟨rfl, j, hJ'⟩ := hq
    obtain ⟨e₂, a₂, w₂, hq₂, harr₂⟩ := key j a₁ w₁ hJ'
    exact ⟨e₂, a₂, w₂, hq₂, .of_steps (.head step_scope (harr _ hg)) harr₂⟩
  | ret => exact ⟨_, a₁, w₁, hq, .of_steps (.one step_scope) harr⟩
  | panic ch => exact ⟨_, a₁, w₁, hq, .of_steps (.one step_scope) harr⟩
  | outgrown => exact ⟨_, a₁, w₁, hq, .of_steps (.one step_scope) harr⟩

/-- Leaps back to one label: a state for each ghost. -/
theorem C_jumps {α : Type} {Q : Exit → St → Prop} {c rest : Code} (l : Nat) (hf : findLabel c l = some rest) (S : α → St) (I : α → Prop) (m : α → Nat)
    (first : SymC X n c st (fun ex s => match ex with
      | .goto l' => l' = l ∧ ∃ y, I y ∧ Le X n s (S y)
      | ex => Q ex s))
    (round : ∀ x, I x → SymC X n rest (S x) (fun ex s => match ex with
      | .goto l' => l' = l ∧ ∃ y, I y ∧ m y < m x ∧ Le X n s (S y)
      | ex => Q ex s)) : SymC X n (.scope c) st Q := by
  intro e a w r
  refine wp_scope_jumps_ghost l (fun k a w => ∃ x e, m x = k ∧ I x ∧ Rel X n e (S x) a w) hf ?_ ?_
  · refine Code.wp_mono (fun ex a' w' hc => ?_) (first e a w r)
    cases ex with
    | goto l' =>
      obtain ⟨e', st', h1, h2, y, hy, hle⟩ := hc
      obtain ⟨e2, h3⟩ := hle e' a' w' h1
      exact ⟨h2, m y, y, e2, rfl, hy, h3⟩
    | normal => exact hc
    | exit id => exact hc
    | ret => exact hc
    | panic ch => exact hc
    | outgrown => exact hc
  · rintro k a w ⟨x, e, rfl, hx, r⟩
    refine Code.wp_mono (fun ex a' w' hc => ?_) (round x hx e a w r)
    cases ex with
    | goto l' =>
      obtain ⟨e', st', h1, h2, y, hy, hlt, hle⟩ := hc
      obtain ⟨e2, h3⟩ := hle e' a' w' h1
      exact ⟨h2, m y, hlt, y, e2, rfl, hy, h3⟩
    | normal => exact hc
    | exit id => exact hc
    | ret => exact hc
    | panic ch => exact hc
    | outgrown => exact hc
end
end Go.Sy

/- Connections: one that was opened. -/
set_option linter.unusedSimpArgs false
set_option linter.unusedVariables false
set_option maxRecDepth 100000
namespace Go.Proofs
open Go.Sy Go.Lib

abbrev srvL (s mg tm : Nat) (now : Int) (L : Value) : Abs := boxA s 127 (PT mg 0 :: (z66 ++ [.v L, NM, NS, NS, NS, NS, NS, NS, NS, NS, NS, NS, NM, .v (.map (some tm)), I64 now]))
abbrev lnA (b : Nat) (rest : List UInt8) (e st own : Int) (out : Value) : Abs := boxA b 187 [.s rest, I64 e, I64 st, I64 own, .v out]
abbrev lnsA (h : Value) (b : Nat) : Abs := vecA h 181 1 1 (fun _ => [PT b 0])
abbrev outA (h : Value) (x : List UInt8) : Abs := vecA h 9 1 1 (fun _ => [.s x])
theorem find_A (s mg tm : Nat) (now : Int) (g cc b : Nat) : FnA Tryz.prog 99 [PT s 67, I64 0] [srvL s mg tm now (HD g 1 cc), lnsA (HD g 1 cc) b] (fun r cs' => r = .tup [PT b 0, I64 0] ∧ cs' = [srvL s mg tm now (HD g 1 cc), lnsA (HD g 1 cc) b]) := by
  refine FnA.intro Tryz.tabOK Tryz.wide_ Tryz.func99 rfl (by decide) rfl (fun X => ?_)
  repeat (first | refine sc rfl ?_ | refine so rfl ?_ | refine sb rfl ?_)
  refine O_Xd (X_ptrnil Tryz.underlying180 rfl rfl rfl) ?_
  repeat (first | refine sc rfl ?_ | refine so rfl ?_ | refine sb rfl ?_)
  first
    | refine O_loadP 0 (reads_box 67) rfl rfl rfl rfl rfl rfl ?_
    | refine O_loadP 1 (reads_box 67) rfl rfl rfl rfl rfl rfl ?_
    | refine O_loadP 2 (reads_box 67) rfl rfl rfl rfl rfl rfl ?_
    | refine O_loadP 3 (reads_box 67) rfl rfl rfl rfl rfl rfl ?_
    | refine O_loadP 4 (reads_box 67) rfl rfl rfl rfl rfl rfl ?_
  repeat (first | refine sc rfl ?_ | refine so rfl ?_ | refine sb rfl ?_)
  refine C_false rfl (by decide) ?_
  repeat (first | refine sc rfl ?_ | refine so rfl ?_ | refine sb rfl ?_)
  first
    | refine O_loadP 0 (reads_box 67) rfl rfl rfl rfl rfl rfl ?_
    | refine O_loadP 1 (reads_box 67) rfl rfl rfl rfl rfl rfl ?_
    | refine O_loadP 2 (reads_box 67) rfl rfl rfl rfl rfl rfl ?_
    | refine O_loadP 3 (reads_box 67) rfl rfl rfl rfl rfl rfl ?_
    | refine O_loadP 4 (reads_box 67) rfl rfl rfl rfl rfl rfl ?_
  repeat (first | refine sc rfl ?_ | refine so rfl ?_ | refine sb rfl ?_)
  refine ⟨by decide, ?_⟩
  repeat (first | refine sc rfl ?_ | refine so rfl ?_ | refine sb rfl ?_)
  first
    | refine O_loadP 0 (reads_vec (q := 0) (j := 0) (by decide) rfl) rfl rfl rfl rfl rfl rfl ?_
    | refine O_loadP 1 (reads_vec (q := 0) (j := 0) (by decide) rfl) rfl rfl rfl rfl rfl rfl ?_
    | refine O_loadP 2 (reads_vec (q := 0) (j := 0) (by decide) rfl) rfl rfl rfl rfl rfl rfl ?_
    | refine O_loadP 3 (reads_vec (q := 0) (j := 0) (by decide) rfl) rfl rfl rfl rfl rfl rfl ?_
    | refine O_loadP 4 (reads_vec (q := 0) (j := 0) (by decide) rfl) rfl rfl rfl rfl rfl rfl ?_
  repeat (first | refine sc rfl ?_ | refine so rfl ?_ | refine sb rfl ?_)
  first
    | exact ⟨_, [_, _], _, rfl, pickA_perm (is := [0, 0]) (As := [_, _]) rfl, rfl, rfl, rfl⟩
    | exact ⟨_, [_, _], _, rfl, pickA_perm (is := [0, 1]) (As := [_, _]) rfl, rfl, rfl, rfl⟩
    | exact ⟨_, [_, _], _, rfl, pickA_perm (is := [0, 2]) (As := [_, _]) rfl, rfl, rfl, rfl⟩
    | exact ⟨_, [_, _], _, rfl, pickA_perm (is := [0, 3]) (As := [_, _]) rfl, rfl, rfl, rfl⟩
    | exact ⟨_, [_, _], _, rfl, pickA_perm (is := [0, 4]) (As := [_, _]) rfl, rfl, rfl, rfl⟩
    | exact ⟨_, [_, _], _, rfl, pickA_perm (is := [0, 5]) (As := [_, _]) rfl, rfl, rfl, rfl⟩
    | exact ⟨_, [_, _], _, rfl, pickA_perm (is := [1, 0]) (As := [_, _]) rfl, rfl, rfl, rfl⟩
    | exact ⟨_, [_, _], _, rfl, pickA_perm (is := [1, 1]) (As := [_, _]) rfl, rfl, rfl, rfl⟩
    | exact ⟨_, [_, _], _, rfl, pickA_perm (is := [1, 2]) (As := [_, _]) rfl, rfl, rfl, rfl⟩
    | exact ⟨_, [_, _], _, rfl, pickA_perm (is := [1, 3]) (As := [_, _]) rfl, rfl, rfl, rfl⟩
    | exact ⟨_, [_, _], _, rfl, pickA_perm (is := [1, 4]) (As := [_, _]) rfl, rfl, rfl, rfl⟩
    | exact ⟨_, [_, _], _, rfl, pickA_perm (is := [1, 5]) (As := [_, _]) rfl, rfl, rfl, rfl⟩
    | exact ⟨_, [_, _], _, rfl, pickA_perm (is := [2, 0]) (As := [_, _]) rfl, rfl, rfl, rfl⟩
    | exact ⟨_, [_, _], _, rfl, pickA_perm (is := [2, 1]) (As := [_, _]) rfl, rfl, rfl, rfl⟩
    | exact ⟨_, [_, _], _, rfl, pickA_perm (is := [2, 2]) (As := [_, _]) rfl, rfl, rfl, rfl⟩
    | exact ⟨_, [_, _], _, rfl, pickA_perm (is := [2, 3]) (As := [_, _]) rfl, rfl, rfl, rfl⟩
    | exact ⟨_, [_, _], _, rfl, pickA_perm (is := [2, 4]) (As := [_, _]) rfl, rfl, rfl, rfl⟩
    | exact ⟨_, [_, _], _, rfl, pickA_perm (is := [2, 5]) (As := [_, _]) rfl, rfl, rfl, rfl⟩
    | exact ⟨_, [_, _], _, rfl, pickA_perm (is := [3, 0]) (As := [_, _]) rfl, rfl, rfl, rfl⟩
    | exact ⟨_, [_, _], _, rfl, pickA_perm (is := [3, 1]) (As := [_, _]) rfl, rfl, rfl, rfl⟩
    | exact ⟨_, [_, _], _, rfl, pickA_perm (is := [3, 2]) (As := [_, _]) rfl, rfl, rfl, rfl⟩
    | exact ⟨_, [_, _], _, rfl, pickA_perm (is := [3, 3]) (As := [_, _]) rfl, rfl, rfl, rfl⟩
    | exact ⟨_, [_, _], _, rfl, pickA_perm (is := [3, 4]) (As := [_, _]) rfl, rfl, rfl, rfl⟩
    | exact ⟨_, [_, _], _, rfl, pickA_perm (is := [3, 5]) (As := [_, _]) rfl, rfl, rfl, rfl⟩
    | exact ⟨_, [_, _], _, rfl, pickA_perm (is := [4, 0]) (As := [_, _]) rfl, rfl, rfl, rfl⟩
    | exact ⟨_, [_, _], _, rfl, pickA_perm (is := [4, 1]) (As := [_, _]) rfl, rfl, rfl, rfl⟩
    | exact ⟨_, [_, _], _, rfl, pickA_perm (is := [4, 2]) (As := [_, _]) rfl, rfl, rfl, rfl⟩
    | exact ⟨_, [_, _], _, rfl, pickA_perm (is := [4, 3]) (As := [_, _]) rfl, rfl, rfl, rfl⟩
    | exact ⟨_, [_, _], _, rfl, pickA_perm (is := [4, 4]) (As := [_, _]) rfl, rfl, rfl, rfl⟩
    | exact ⟨_, [_, _], _, rfl, pickA_perm (is := [4, 5]) (As := [_, _]) rfl, rfl, rfl, rfl⟩
    | exact ⟨_, [_, _], _, rfl, pickA_perm (is := [5, 0]) (As := [_, _]) rfl, rfl, rfl, rfl⟩
    | exact ⟨_, [_, _], _, rfl, pickA_perm (is := [5, 1]) (As := [_, _]) rfl, rfl, rfl, rfl⟩
    | exact ⟨_, [_, _], _, rfl, pickA_perm (is := [5, 2]) (As := [_, _]) rfl, rfl, rfl, rfl⟩
    | exact ⟨_, [_, _], _, rfl, pickA_perm (is := [5, 3]) (As := [_, _]) rfl, rfl, rfl, rfl⟩
    | exact ⟨_, [_, _], _, rfl, pickA_perm (is := [5, 4]) (As := [_, _]) rfl, rfl, rfl, rfl⟩
    | exact ⟨_, [_, _], _, rfl, pickA_perm (is := [5, 5]) (As := [_, _]) rfl, rfl, rfl, rfl⟩
    | exact ⟨_, [_, _], _, rfl, pickA_perm (is := [6, 0]) (As := [_, _]) rfl, rfl, rfl, rfl⟩
    | exact ⟨_, [_, _], _, rfl, pickA_perm (is := [6, 1]) (As := [_, _]) rfl, rfl, rfl, rfl⟩
    | exact ⟨_, [_, _], _, rfl, pickA_perm (is := [6, 2]) (As := [_, _]) rfl, rfl, rfl, rfl⟩
    | exact ⟨_, [_, _], _, rfl, pickA_perm (is := [6, 3]) (As := [_, _]) rfl, rfl, rfl, rfl⟩
    | exact ⟨_, [_, _], _, rfl, pickA_perm (is := [6, 4]) (As := [_, _]) rfl, rfl, rfl, rfl⟩
    | exact ⟨_, [_, _], _, rfl, pickA_perm (is := [6, 5]) (As := [_, _]) rfl, rfl, rfl, rfl⟩
theorem takes_A (b : Nat) (rest : List UInt8) (e st own : Int) (out : Value) : FnA Tryz.prog 100 [PT b 0] [lnA b rest e st own out] (fun r cs' => r = B (decide (st < 2)) ∧ cs' = [lnA b rest e st own out]) := by
  refine FnA.intro Tryz.tabOK Tryz.wide_ Tryz.func100 rfl (by decide) rfl (fun X => ?_)
  repeat (first | refine sc rfl ?_ | refine so rfl ?_ | refine sb rfl ?_)
  first
    | refine O_loadP 0 (reads_box 2) rfl rfl rfl rfl rfl rfl ?_
    | refine O_loadP 1 (reads_box 2) rfl rfl rfl rfl rfl rfl ?_
    | refine O_loadP 2 (reads_box 2) rfl rfl rfl rfl rfl rfl ?_
    | refine O_loadP 3 (reads_box 2) rfl rfl rfl rfl rfl rfl ?_
    | refine O_loadP 4 (reads_box 2) rfl rfl rfl rfl rfl rfl ?_
  repeat (first | refine sc rfl ?_ | refine so rfl ?_ | refine sb rfl ?_)
  first
    | exact ⟨_, [_], _, rfl, pickA_perm (is := [0]) (As := [_]) rfl, rfl, rfl, rfl⟩
    | exact ⟨_, [_], _, rfl, pickA_perm (is := [1]) (As := [_]) rfl, rfl, rfl, rfl⟩
    | exact ⟨_, [_], _, rfl, pickA_perm (is := [2]) (As := [_]) rfl, rfl, rfl, rfl⟩
    | exact ⟨_, [_], _, rfl, pickA_perm (is := [3]) (As := [_]) rfl, rfl, rfl, rfl⟩
    | exact ⟨_, [_], _, rfl, pickA_perm (is := [4]) (As := [_]) rfl, rfl, rfl, rfl⟩
theorem owner_A (s mg tm : Nat) (now : Int) (g cc b : Nat) (rest : List UInt8) (e st own : Int) (out : Value) : FnA Tryz.prog 77 [PT s 67, I64 0] [srvL s mg tm now (HD g 1 cc), lnsA (HD g 1 cc) b, lnA b rest e st own out] (fun r cs' => r = I64 own ∧ cs' = [srvL s mg tm now (HD g 1 cc), lnsA (HD g 1 cc) b, lnA b rest e st own out]) := by
  refine FnA.intro Tryz.tabOK Tryz.wide_ Tryz.func77 rfl (by decide) rfl (fun X => ?_)
  repeat (first | refine sc rfl ?_ | refine so rfl ?_ | refine sb rfl ?_)
  first
    | refine O_callA [0, 0] (find_A s mg tm now g cc b) (by rfl) (by rfl) (by rfl) (by rfl) (by rfl) ?_
    | refine O_callA [0, 1] (find_A s mg tm now g cc b) (by rfl) (by rfl) (by rfl) (by rfl) (by rfl) ?_
    | refine O_callA [0, 2] (find_A s mg tm now g cc b) (by rfl) (by rfl) (by rfl) (by rfl) (by rfl) ?_
    | refine O_callA [0, 3] (find_A s mg tm now g cc b) (by rfl) (by rfl) (by rfl) (by rfl) (by rfl) ?_
    | refine O_callA [0, 4] (find_A s mg tm now g cc b) (by rfl) (by rfl) (by rfl) (by rfl) (by rfl) ?_
    | refine O_callA [0, 5] (find_A s mg tm now g cc b) (by rfl) (by rfl) (by rfl) (by rfl) (by rfl) ?_
    | refine O_callA [1, 0] (find_A s mg tm now g cc b) (by rfl) (by rfl) (by rfl) (by rfl) (by rfl) ?_
    | refine O_callA [1, 1] (find_A s mg tm now g cc b) (by rfl) (by rfl) (by rfl) (by rfl) (by rfl) ?_
    | refine O_callA [1, 2] (find_A s mg tm now g cc b) (by rfl) (by rfl) (by rfl) (by rfl) (by rfl) ?_
    | refine O_callA [1, 3] (find_A s mg tm now g cc b) (by rfl) (by rfl) (by rfl) (by rfl) (by rfl) ?_
    | refine O_callA [1, 4] (find_A s mg tm now g cc b) (by rfl) (by rfl) (by rfl) (by rfl) (by rfl) ?_
    | refine O_callA [1, 5] (find_A s mg tm now g cc b) (by rfl) (by rfl) (by rfl) (by rfl) (by rfl) ?_
    | refine O_callA [2, 0] (find_A s mg tm now g cc b) (by rfl) (by rfl) (by rfl) (by rfl) (by rfl) ?_
    | refine O_callA [2, 1] (find_A s mg tm now g cc b) (by rfl) (by rfl) (by rfl) (by rfl) (by rfl) ?_
    | refine O_callA [2, 2] (find_A s mg tm now g cc b) (by rfl) (by rfl) (by rfl) (by rfl) (by rfl) ?_
    | refine O_callA [2, 3] (find_A s mg tm now g cc b) (by rfl) (by rfl) (by rfl) (by rfl) (by rfl) ?_
    | refine O_callA [2, 4] (find_A s mg tm now g cc b) (by rfl) (by rfl) (by rfl) (by rfl) (by rfl) ?_
    | refine O_callA [2, 5] (find_A s mg tm now g cc b) (by rfl) (by rfl) (by rfl) (by rfl) (by rfl) ?_
    | refine O_callA [3, 0] (find_A s mg tm now g cc b) (by rfl) (by rfl) (by rfl) (by rfl) (by rfl) ?_
    | refine O_callA [3, 1] (find_A s mg tm now g cc b) (by rfl) (by rfl) (by rfl) (by rfl) (by rfl) ?_
    | refine O_callA [3, 2] (find_A s mg tm now g cc b) (by rfl) (by rfl) (by rfl) (by rfl) (by rfl) ?_
    | refine O_callA [3, 3] (find_A s mg tm now g cc b) (by rfl) (by rfl) (by rfl) (by rfl) (by rfl) ?_
    | refine O_callA [3, 4] (find_A s mg tm now g cc b) (by rfl) (by rfl) (by rfl) (by rfl) (by rfl) ?_
    | refine O_callA [3, 5] (find_A s mg tm now g cc b) (by rfl) (by rfl) (by rfl) (by rfl) (by rfl) ?_
    | refine O_callA [4, 0] (find_A s mg tm now g cc b) (by rfl) (by rfl) (by rfl) (by rfl) (by rfl) ?_
    | refine O_callA [4, 1] (find_A s mg tm now g cc b) (by rfl) (by rfl) (by rfl) (by rfl) (by rfl) ?_
    | refine O_callA [4, 2] (find_A s mg tm now g cc b) (by rfl) (by rfl) (by rfl) (by rfl) (by rfl) ?_
    | refine O_callA [4, 3] (find_A s mg tm now g cc b) (by rfl) (by rfl) (by rfl) (by rfl) (by rfl) ?_
    | refine O_callA [4, 4] (find_A s mg tm now g cc b) (by rfl) (by rfl) (by rfl) (by rfl) (by rfl) ?_
    | refine O_callA [4, 5] (find_A s mg tm now g cc b) (by rfl) (by rfl) (by rfl) (by rfl) (by rfl) ?_
    | refine O_callA [5, 0] (find_A s mg tm now g cc b) (by rfl) (by rfl) (by rfl) (by rfl) (by rfl) ?_
    | refine O_callA [5, 1] (find_A s mg tm now g cc b) (by rfl) (by rfl) (by rfl) (by rfl) (by rfl) ?_
    | refine O_callA [5, 2] (find_A s mg tm now g cc b) (by rfl) (by rfl) (by rfl) (by rfl) (by rfl) ?_
    | refine O_callA [5, 3] (find_A s mg tm now g cc b) (by rfl) (by rfl) (by rfl) (by rfl) (by rfl) ?_
    | refine O_callA [5, 4] (find_A s mg tm now g cc b) (by rfl) (by rfl) (by rfl) (by rfl) (by rfl) ?_
    | refine O_callA [5, 5] (find_A s mg tm now g cc b) (by rfl) (by rfl) (by rfl) (by rfl) (by rfl) ?_
    | refine O_callA [6, 0] (find_A s mg tm now g cc b) (by rfl) (by rfl) (by rfl) (by rfl) (by rfl) ?_
    | refine O_callA [6, 1] (find_A s mg tm now g cc b) (by rfl) (by rfl) (by rfl) (by rfl) (by rfl) ?_
    | refine O_callA [6, 2] (find_A s mg tm now g cc b) (by rfl) (by rfl) (by rfl) (by rfl) (by rfl) ?_
    | refine O_callA [6, 3] (find_A s mg tm now g cc b) (by rfl) (by rfl) (by rfl) (by rfl) (by rfl) ?_
    | refine O_callA [6, 4] (find_A s mg tm now g cc b) (by rfl) (by rfl) (by rfl) (by rfl) (by rfl) ?_
    | refine O_callA [6, 5] (find_A s mg tm now g cc b) (by rfl) (by rfl) (by rfl) (by rfl) (by rfl) ?_
  rintro r' cs' ⟨rfl, rfl⟩
  repeat (first | refine sc rfl ?_ | refine so rfl ?_ | refine sb rfl ?_)
  refine C_false rfl rfl ?_
  repeat (first | refine sc rfl ?_ | refine so rfl ?_ | refine sb rfl ?_)
  first
    | refine O_loadP 0 (reads_box 3) rfl rfl rfl rfl rfl rfl ?_
    | refine O_loadP 1 (reads_box 3) rfl rfl rfl rfl rfl rfl ?_
    | refine O_loadP 2 (reads_box 3) rfl rfl rfl rfl rfl rfl ?_
    | refine O_loadP 3 (reads_box 3) rfl rfl rfl rfl rfl rfl ?_
    | refine O_loadP 4 (reads_box 3) rfl rfl rfl rfl rfl rfl ?_
  repeat (first | refine sc rfl ?_ | refine so rfl ?_ | refine sb rfl ?_)
  exact ⟨_, [_, _, _], _, rfl, pickA_perm (is := [0, 0, 0]) (As := [_, _, _]) rfl, rfl, rfl, rfl⟩
theorem open_A (s mg tm : Nat) (now : Int) : FnA Tryz.prog 48 [PT s 67] [srvL s mg tm now (.slice none 0 0)] (fun r cs' => ∃ g cc b, r = .tup [I64 0, I64 0] ∧ cs' = [srvL s mg tm now (HD g 1 cc), lnsA (HD g 1 cc) b, lnA b [] 0 0 (-1) (.slice none 0 0)]) := by
  refine FnA.intro Tryz.tabOK Tryz.wide_ Tryz.func48 rfl (by decide) rfl (fun X => ?_)
  repeat (first | refine sc rfl ?_ | refine so rfl ?_ | refine sb rfl ?_)
  refine O_Xd (X_ptrnil Tryz.underlying180 rfl rfl rfl) ?_
  repeat (first | refine sc rfl ?_ | refine so rfl ?_ | refine sb rfl ?_)
  refine C_false rfl rfl ?_
  repeat (first | refine sc rfl ?_ | refine so rfl ?_ | refine sb rfl ?_)
  first
    | refine O_loadP 0 (reads_box 67) rfl rfl rfl rfl rfl rfl ?_
    | refine O_loadP 1 (reads_box 67) rfl rfl rfl rfl rfl rfl ?_
    | refine O_loadP 2 (reads_box 67) rfl rfl rfl rfl rfl rfl ?_
    | refine O_loadP 3 (reads_box 67) rfl rfl rfl rfl rfl rfl ?_
    | refine O_loadP 4 (reads_box 67) rfl rfl rfl rfl rfl rfl ?_
  repeat (first | refine sc rfl ?_ | refine so rfl ?_ | refine sb rfl ?_)
  refine C_false rfl (by decide) ?_
  repeat (first | refine sc rfl ?_ | refine so rfl ?_ | refine sb rfl ?_)
  first
    | refine O_loadP 0 (reads_box 67) rfl rfl rfl rfl rfl rfl ?_
    | refine O_loadP 1 (reads_box 67) rfl rfl rfl rfl rfl rfl ?_
    | refine O_loadP 2 (reads_box 67) rfl rfl rfl rfl rfl rfl ?_
    | refine O_loadP 3 (reads_box 67) rfl rfl rfl rfl rfl rfl ?_
    | refine O_loadP 4 (reads_box 67) rfl rfl rfl rfl rfl rfl ?_
  iterate 2 (first | refine so rfl ?_ | refine sb rfl ?_)
  refine O_absb 20 rfl rfl rfl (fun b => ?_)
  repeat (first | refine sc rfl ?_ | refine so rfl ?_ | refine sb rfl ?_)
  refine O_le _ (Le.freeze 21 rfl rfl) ?_
  refine O_le _ (Le.addVec 181 1 (fun _ => [PT b 0])) ?_
  refine O_appendV 0 (m2 := 1) (m3 := 1) (row3 := fun _ => [PT b 0]) rfl rfl rfl rfl rfl rfl (fun i hi => ?_) rfl (by decide) (by decide) rfl (fun i hi => ?_) (fun v' hv' => ?_)
  · obtain rfl : i = 0 := Nat.lt_one_iff.1 hi
    rfl
  · obtain rfl : i = 0 := Nat.lt_one_iff.1 hi
    rfl
  obtain ⟨g, cc, rfl⟩ := hv'.resolve_left (fun h => by simp at h)
  repeat (first | refine sc rfl ?_ | refine so rfl ?_ | refine sb rfl ?_)
  first
    | refine O_Xn (X_storeP 0 (writes_box (by show 67 < 82; decide)) rfl rfl rfl rfl rfl rfl rfl) ?_
    | refine O_Xn (X_storeP 1 (writes_box (by show 67 < 82; decide)) rfl rfl rfl rfl rfl rfl rfl) ?_
    | refine O_Xn (X_storeP 2 (writes_box (by show 67 < 82; decide)) rfl rfl rfl rfl rfl rfl rfl) ?_
    | refine O_Xn (X_storeP 3 (writes_box (by show 67 < 82; decide)) rfl rfl rfl rfl rfl rfl rfl) ?_
    | refine O_Xn (X_storeP 4 (writes_box (by show 67 < 82; decide)) rfl rfl rfl rfl rfl rfl rfl) ?_
  repeat (first | refine sc rfl ?_ | refine so rfl ?_ | refine sb rfl ?_)
  first
    | refine O_loadP 0 (reads_box 67) rfl rfl rfl rfl rfl rfl ?_
    | refine O_loadP 1 (reads_box 67) rfl rfl rfl rfl rfl rfl ?_
    | refine O_loadP 2 (reads_box 67) rfl rfl rfl rfl rfl rfl ?_
    | refine O_loadP 3 (reads_box 67) rfl rfl rfl rfl rfl rfl ?_
    | refine O_loadP 4 (reads_box 67) rfl rfl rfl rfl rfl rfl ?_
  repeat (first | refine sc rfl ?_ | refine so rfl ?_ | refine sb rfl ?_)
  exact ⟨_, [_, _, _], _, rfl, pickA_perm (is := [0, 0, 0]) (As := [_, _, _]) rfl, rfl, g, cc, b, rfl, rfl⟩
theorem vec_cap {g m cc : Nat} {t : TypeId} {esz : Nat} {row : Nat → List AV} {G : IM} {w : World} (h : (vecA (HD g m cc) t esz m row).ok G w) : m ≤ cc := by
  obtain ⟨xs, h1, h2⟩ := h
  rcases h1.2 with ⟨hnil, hm⟩ | ⟨g', cap, cur, hsl, _, hg, hcap, hmax, hcs, htake⟩
  · cases hnil
  · simp only [HD, Value.slice.injEq, Option.some.injEq, Addr.mk.injEq, and_true, true_and] at hsl
    obtain ⟨rfl, h3⟩ := hsl
    omega
theorem shut_A (s mg tm : Nat) (now : Int) (g cc b : Nat) (rest : List UInt8) (e own : Int) (out : Value) : FnA Tryz.prog 53 [PT s 67, I64 0] [srvL s mg tm now (HD g 1 cc), lnsA (HD g 1 cc) b, lnA b rest e 0 own out] (fun r cs' => r = I64 0 ∧ cs' = [srvL s mg tm now (HD g 1 cc), lnsA (HD g 1 cc) b, lnA b rest e 2 own out]) := by
  refine FnA.intro Tryz.tabOK Tryz.wide_ Tryz.func53 rfl (by decide) rfl (fun X => ?_)
  repeat (first | refine sc rfl ?_ | refine so rfl ?_ | refine sb rfl ?_)
  first
    | refine O_callA [0, 0] (find_A s mg tm now g cc b) (by rfl) (by rfl) (by rfl) (by rfl) (by rfl) ?_
    | refine O_callA [0, 1] (find_A s mg tm now g cc b) (by rfl) (by rfl) (by rfl) (by rfl) (by rfl) ?_
    | refine O_callA [0, 2] (find_A s mg tm now g cc b) (by rfl) (by rfl) (by rfl) (by rfl) (by rfl) ?_
    | refine O_callA [0, 3] (find_A s mg tm now g cc b) (by rfl) (by rfl) (by rfl) (by rfl) (by rfl) ?_
    | refine O_callA [0, 4] (find_A s mg tm now g cc b) (by rfl) (by rfl) (by rfl) (by rfl) (by rfl) ?_
    | refine O_callA [0, 5] (find_A s mg tm now g cc b) (by rfl) (by rfl) (by rfl) (by rfl) (by rfl) ?_
    | refine O_callA [1, 0] (find_A s mg tm now g cc b) (by rfl) (by rfl) (by rfl) (by rfl) (by rfl) ?_
    | refine O_callA [1, 1] (find_A s mg tm now g cc b) (by rfl) (by rfl) (by rfl) (by rfl) (by rfl) ?_
    | refine O_callA [1, 2] (find_A s mg tm now g cc b) (by rfl) (by rfl) (by rfl) (by rfl) (by rfl) ?_
    | refine O_callA [1, 3] (find_A s mg tm now g cc b) (by rfl) (by rfl) (by rfl) (by rfl) (by rfl) ?_
    | refine O_callA [1, 4] (find_A s mg tm now g cc b) (by rfl) (by rfl) (by rfl) (by rfl) (by rfl) ?_
    | refine O_callA [1, 5] (find_A s mg tm now g cc b) (by rfl) (by rfl) (by rfl) (by rfl) (by rfl) ?_
    | refine O_callA [2, 0] (find_A s mg tm now g cc b) (by rfl) (by rfl) (by rfl) (by rfl) (by rfl) ?_
    | refine O_callA [2, 1] (find_A s mg tm now g cc b) (by rfl) (by rfl) (by rfl) (by rfl) (by rfl) ?_
    | refine O_callA [2, 2] (find_A s mg tm now g cc b) (by rfl) (by rfl) (by rfl) (by rfl) (by rfl) ?_
    | refine O_callA [2, 3] (find_A s mg tm now g cc b) (by rfl) (by rfl) (by rfl) (by rfl) (by rfl) ?_
    | refine O_callA [2, 4] (find_A s mg tm now g cc b) (by rfl) (by rfl) (by rfl) (by rfl) (by rfl) ?_
    | refine O_callA [2, 5] (find_A s mg tm now g cc b) (by rfl) (by rfl) (by rfl) (by rfl) (by rfl) ?_
    | refine O_callA [3, 0] (find_A s mg tm now g cc b) (by rfl) (by rfl) (by rfl) (by rfl) (by rfl) ?_
    | refine O_callA [3, 1] (find_A s mg tm now g cc b) (by rfl) (by rfl) (by rfl) (by rfl) (by rfl) ?_
    | refine O_callA [3, 2] (find_A s mg tm now g cc b) (by rfl) (by rfl) (by rfl) (by rfl) (by rfl) ?_
    | refine O_callA [3, 3] (find_A s mg tm now g cc b) (by rfl) (by rfl) (by rfl) (by rfl) (by rfl) ?_
    | refine O_callA [3, 4] (find_A s mg tm now g cc b) (by rfl) (by rfl) (by rfl) (by rfl) (by rfl) ?_
    | refine O_callA [3, 5] (find_A s mg tm now g cc b) (by rfl) (by rfl) (by rfl) (by rfl) (by rfl) ?_
    | refine O_callA [4, 0] (find_A s mg tm now g cc b) (by rfl) (by rfl) (by rfl) (by rfl) (by rfl) ?_
    | refine O_callA [4, 1] (find_A s mg tm now g cc b) (by rfl) (by rfl) (by rfl) (by rfl) (by rfl) ?_
    | refine O_callA [4, 2] (find_A s mg tm now g cc b) (by rfl) (by rfl) (by rfl) (by rfl) (by rfl) ?_
    | refine O_callA [4, 3] (find_A s mg tm now g cc b) (by rfl) (by rfl) (by rfl) (by rfl) (by rfl) ?_
    | refine O_callA [4, 4] (find_A s mg tm now g cc b) (by rfl) (by rfl) (by rfl) (by rfl) (by rfl) ?_
    | refine O_callA [4, 5] (find_A s mg tm now g cc b) (by rfl) (by rfl) (by rfl) (by rfl) (by rfl) ?_
    | refine O_callA [5, 0] (find_A s mg tm now g cc b) (by rfl) (by rfl) (by rfl) (by rfl) (by rfl) ?_
    | refine O_callA [5, 1] (find_A s mg tm now g cc b) (by rfl) (by rfl) (by rfl) (by rfl) (by rfl) ?_
    | refine O_callA [5, 2] (find_A s mg tm now g cc b) (by rfl) (by rfl) (by rfl) (by rfl) (by rfl) ?_
    | refine O_callA [5, 3] (find_A s mg tm now g cc b) (by rfl) (by rfl) (by rfl) (by rfl) (by rfl) ?_
    | refine O_callA [5, 4] (find_A s mg tm now g cc b) (by rfl) (by rfl) (by rfl) (by rfl) (by rfl) ?_
    | refine O_callA [5, 5] (find_A s mg tm now g cc b) (by rfl) (by rfl) (by rfl) (by rfl) (by rfl) ?_
    | refine O_callA [6, 0] (find_A s mg tm now g cc b) (by rfl) (by rfl) (by rfl) (by rfl) (by rfl) ?_
    | refine O_callA [6, 1] (find_A s mg tm now g cc b) (by rfl) (by rfl) (by rfl) (by rfl) (by rfl) ?_
    | refine O_callA [6, 2] (find_A s mg tm now g cc b) (by rfl) (by rfl) (by rfl) (by rfl) (by rfl) ?_
    | refine O_callA [6, 3] (find_A s mg tm now g cc b) (by rfl) (by rfl) (by rfl) (by rfl) (by rfl) ?_
    | refine O_callA [6, 4] (find_A s mg tm now g cc b) (by rfl) (by rfl) (by rfl) (by rfl) (by rfl) ?_
    | refine O_callA [6, 5] (find_A s mg tm now g cc b) (by rfl) (by rfl) (by rfl) (by rfl) (by rfl) ?_
  rintro r' cs' ⟨rfl, rfl⟩
  repeat (first | refine sc rfl ?_ | refine so rfl ?_ | refine sb rfl ?_)
  refine C_false rfl rfl ?_
  repeat (first | refine sc rfl ?_ | refine so rfl ?_ | refine sb rfl ?_)
  first
    | refine O_callA [0] (takes_A b rest e 0 own out) (by rfl) (by rfl) (by rfl) (by rfl) (by rfl) ?_
    | refine O_callA [1] (takes_A b rest e 0 own out) (by rfl) (by rfl) (by rfl) (by rfl) (by rfl) ?_
    | refine O_callA [2] (takes_A b rest e 0 own out) (by rfl) (by rfl) (by rfl) (by rfl) (by rfl) ?_
    | refine O_callA [3] (takes_A b rest e 0 own out) (by rfl) (by rfl) (by rfl) (by rfl) (by rfl) ?_
    | refine O_callA [4] (takes_A b rest e 0 own out) (by rfl) (by rfl) (by rfl) (by rfl) (by rfl) ?_
  rintro r' cs' ⟨rfl, rfl⟩
  repeat (first | refine sc rfl ?_ | refine so rfl ?_ | refine sb rfl ?_)
  refine C_false rfl rfl ?_
  repeat (first | refine sc rfl ?_ | refine so rfl ?_ | refine sb rfl ?_)
  first
    | refine O_Xn (X_storeP 0 (writes_box (by show 2 < 5; decide)) rfl rfl rfl rfl rfl rfl rfl) ?_
    | refine O_Xn (X_storeP 1 (writes_box (by show 2 < 5; decide)) rfl rfl rfl rfl rfl rfl rfl) ?_
    | refine O_Xn (X_storeP 2 (writes_box (by show 2 < 5; decide)) rfl rfl rfl rfl rfl rfl rfl) ?_
    | refine O_Xn (X_storeP 3 (writes_box (by show 2 < 5; decide)) rfl rfl rfl rfl rfl rfl rfl) ?_
    | refine O_Xn (X_storeP 4 (writes_box (by show 2 < 5; decide)) rfl rfl rfl rfl rfl rfl rfl) ?_
  repeat (first | refine sc rfl ?_ | refine so rfl ?_ | refine sb rfl ?_)
  first
    | exact ⟨_, [_, _, _], _, rfl, pickA_perm (is := [1, 1, 0]) (As := [_, _, _]) rfl, rfl, rfl, rfl⟩
    | exact ⟨_, [_, _, _], _, rfl, pickA_perm (is := [0, 0, 0]) (As := [_, _, _]) rfl, rfl, rfl, rfl⟩
theorem send_A (s mg tm : Nat) (now : Int) (g cc b : Nat) (rest x : List UInt8) (e own : Int) : FnA Tryz.prog 58 [PT s 67, I64 0, .s x] [srvL s mg tm now (HD g 1 cc), lnsA (HD g 1 cc) b, lnA b rest e 0 own (.slice none 0 0)] (fun r cs' => ∃ h d, 1 ≤ d ∧ r = I64 0 ∧ cs' = [srvL s mg tm now (HD g 1 cc), lnsA (HD g 1 cc) b, lnA b rest e 0 own (HD h 1 d), outA (HD h 1 d) x]) := by
  refine FnA.intro Tryz.tabOK Tryz.wide_ Tryz.func58 rfl (by decide) rfl (fun X => ?_)
  repeat (first | refine sc rfl ?_ | refine so rfl ?_ | refine sb rfl ?_)
  first
    | refine O_callA [0, 0] (find_A s mg tm now g cc b) (by rfl) (by rfl) (by rfl) (by rfl) (by rfl) ?_
    | refine O_callA [0, 1] (find_A s mg tm now g cc b) (by rfl) (by rfl) (by rfl) (by rfl) (by rfl) ?_
    | refine O_callA [0, 2] (find_A s mg tm now g cc b) (by rfl) (by rfl) (by rfl) (by rfl) (by rfl) ?_
    | refine O_callA [0, 3] (find_A s mg tm now g cc b) (by rfl) (by rfl) (by rfl) (by rfl) (by rfl) ?_
    | refine O_callA [0, 4] (find_A s mg tm now g cc b) (by rfl) (by rfl) (by rfl) (by rfl) (by rfl) ?_
    | refine O_callA [0, 5] (find_A s mg tm now g cc b) (by rfl) (by rfl) (by rfl) (by rfl) (by rfl) ?_
    | refine O_callA [1, 0] (find_A s mg tm now g cc b) (by rfl) (by rfl) (by rfl) (by rfl) (by rfl) ?_
    | refine O_callA [1, 1] (find_A s mg tm now g cc b) (by rfl) (by rfl) (by rfl) (by rfl) (by rfl) ?_
    | refine O_callA [1, 2] (find_A s mg tm now g cc b) (by rfl) (by rfl) (by rfl) (by rfl) (by rfl) ?_
    | refine O_callA [1, 3] (find_A s mg tm now g cc b) (by rfl) (by rfl) (by rfl) (by rfl) (by rfl) ?_
    | refine O_callA [1, 4] (find_A s mg tm now g cc b) (by rfl) (by rfl) (by rfl) (by rfl) (by rfl) ?_
    | refine O_callA [1, 5] (find_A s mg tm now g cc b) (by rfl) (by rfl) (by rfl) (by rfl) (by rfl) ?_
    | refine O_callA [2, 0] (find_A s mg tm now g cc b) (by rfl) (by rfl) (by rfl) (by rfl) (by rfl) ?_
    | refine O_callA [2, 1] (find_A s mg tm now g cc b) (by rfl) (by rfl) (by rfl) (by rfl) (by rfl) ?_
    | refine O_callA [2, 2] (find_A s mg tm now g cc b) (by rfl) (by rfl) (by rfl) (by rfl) (by rfl) ?_
    | refine O_callA [2, 3] (find_A s mg tm now g cc b) (by rfl) (by rfl) (by rfl) (by rfl) (by rfl) ?_
    | refine O_callA [2, 4] (find_A s mg tm now g cc b) (by rfl) (by rfl) (by rfl) (by rfl) (by rfl) ?_
    | refine O_callA [2, 5] (find_A s mg tm now g cc b) (by rfl) (by rfl) (by rfl) (by rfl) (by rfl) ?_
    | refine O_callA [3, 0] (find_A s mg tm now g cc b) (by rfl) (by rfl) (by rfl) (by rfl) (by rfl) ?_
    | refine O_callA [3, 1] (find_A s mg tm now g cc b) (by rfl) (by rfl) (by rfl) (by rfl) (by rfl) ?_
    | refine O_callA [3, 2] (find_A s mg tm now g cc b) (by rfl) (by rfl) (by rfl) (by rfl) (by rfl) ?_
    | refine O_callA [3, 3] (find_A s mg tm now g cc b) (by rfl) (by rfl) (by rfl) (by rfl) (by rfl) ?_
    | refine O_callA [3, 4] (find_A s mg tm now g cc b) (by rfl) (by rfl) (by rfl) (by rfl) (by rfl) ?_
    | refine O_callA [3, 5] (find_A s mg tm now g cc b) (by rfl) (by rfl) (by rfl) (by rfl) (by rfl) ?_
    | refine O_callA [4, 0] (find_A s mg tm now g cc b) (by rfl) (by rfl) (by rfl) (by rfl) (by rfl) ?_
    | refine O_callA [4, 1] (find_A s mg tm now g cc b) (by rfl) (by rfl) (by rfl) (by rfl) (by rfl) ?_
    | refine O_callA [4, 2] (find_A s mg tm now g cc b) (by rfl) (by rfl) (by rfl) (by rfl) (by rfl) ?_
    | refine O_callA [4, 3] (find_A s mg tm now g cc b) (by rfl) (by rfl) (by rfl) (by rfl) (by rfl) ?_
    | refine O_callA [4, 4] (find_A s mg tm now g cc b) (by rfl) (by rfl) (by rfl) (by rfl) (by rfl) ?_
    | refine O_callA [4, 5] (find_A s mg tm now g cc b) (by rfl) (by rfl) (by rfl) (by rfl) (by rfl) ?_
    | refine O_callA [5, 0] (find_A s mg tm now g cc b) (by rfl) (by rfl) (by rfl) (by rfl) (by rfl) ?_
    | refine O_callA [5, 1] (find_A s mg tm now g cc b) (by rfl) (by rfl) (by rfl) (by rfl) (by rfl) ?_
    | refine O_callA [5, 2] (find_A s mg tm now g cc b) (by rfl) (by rfl) (by rfl) (by rfl) (by rfl) ?_
    | refine O_callA [5, 3] (find_A s mg tm now g cc b) (by rfl) (by rfl) (by rfl) (by rfl) (by rfl) ?_
    | refine O_callA [5, 4] (find_A s mg tm now g cc b) (by rfl) (by rfl) (by rfl) (by rfl) (by rfl) ?_
    | refine O_callA [5, 5] (find_A s mg tm now g cc b) (by rfl) (by rfl) (by rfl) (by rfl) (by rfl) ?_
    | refine O_callA [6, 0] (find_A s mg tm now g cc b) (by rfl) (by rfl) (by rfl) (by rfl) (by rfl) ?_
    | refine O_callA [6, 1] (find_A s mg tm now g cc b) (by rfl) (by rfl) (by rfl) (by rfl) (by rfl) ?_
    | refine O_callA [6, 2] (find_A s mg tm now g cc b) (by rfl) (by rfl) (by rfl) (by rfl) (by rfl) ?_
    | refine O_callA [6, 3] (find_A s mg tm now g cc b) (by rfl) (by rfl) (by rfl) (by rfl) (by rfl) ?_
    | refine O_callA [6, 4] (find_A s mg tm now g cc b) (by rfl) (by rfl) (by rfl) (by rfl) (by rfl) ?_
    | refine O_callA [6, 5] (find_A s mg tm now g cc b) (by rfl) (by rfl) (by rfl) (by rfl) (by rfl) ?_
  rintro r' cs' ⟨rfl, rfl⟩
  repeat (first | refine sc rfl ?_ | refine so rfl ?_ | refine sb rfl ?_)
  refine C_false rfl rfl ?_
  repeat (first | refine sc rfl ?_ | refine so rfl ?_ | refine sb rfl ?_)
  first
    | refine O_loadP 0 (reads_box 2) rfl rfl rfl rfl rfl rfl ?_
    | refine O_loadP 1 (reads_box 2) rfl rfl rfl rfl rfl rfl ?_
    | refine O_loadP 2 (reads_box 2) rfl rfl rfl rfl rfl rfl ?_
    | refine O_loadP 3 (reads_box 2) rfl rfl rfl rfl rfl rfl ?_
    | refine O_loadP 4 (reads_box 2) rfl rfl rfl rfl rfl rfl ?_
  repeat (first | refine sc rfl ?_ | refine so rfl ?_ | refine sb rfl ?_)
  refine C_false rfl rfl ?_
  repeat (first | refine sc rfl ?_ | refine so rfl ?_ | refine sb rfl ?_)
  first
    | refine O_loadP 0 (reads_box 4) rfl rfl rfl rfl rfl rfl ?_
    | refine O_loadP 1 (reads_box 4) rfl rfl rfl rfl rfl rfl ?_
    | refine O_loadP 2 (reads_box 4) rfl rfl rfl rfl rfl rfl ?_
    | refine O_loadP 3 (reads_box 4) rfl rfl rfl rfl rfl rfl ?_
    | refine O_loadP 4 (reads_box 4) rfl rfl rfl rfl rfl rfl ?_
  repeat (first | refine sc rfl ?_ | refine so rfl ?_ | refine sb rfl ?_)
  refine O_le _ (Le.freeze 31 rfl rfl) ?_
  refine O_le _ (Le.addVec 9 1 (fun _ => [.s x])) ?_
  refine O_appendV 0 (m2 := 1) (m3 := 1) (row3 := fun _ => [.s x]) rfl rfl rfl rfl rfl rfl (fun i hi => ?_) rfl (by decide) (by decide) rfl (fun i hi => ?_) (fun v' hv' => ?_)
  · obtain rfl : i = 0 := Nat.lt_one_iff.1 hi
    rfl
  · obtain rfl : i = 0 := Nat.lt_one_iff.1 hi
    rfl
  obtain ⟨h, d, rfl⟩ := hv'.resolve_left (fun h => by simp at h)
  refine O_know 0 (1 ≤ d) rfl (fun G w hok _ => vec_cap hok) (fun hd => ?_)
  repeat (first | refine sc rfl ?_ | refine so rfl ?_ | refine sb rfl ?_)
  first
    | refine O_Xn (X_storeP 0 (writes_box (by show 4 < 5; decide)) rfl rfl rfl rfl rfl rfl rfl) ?_
    | refine O_Xn (X_storeP 1 (writes_box (by show 4 < 5; decide)) rfl rfl rfl rfl rfl rfl rfl) ?_
    | refine O_Xn (X_storeP 2 (writes_box (by show 4 < 5; decide)) rfl rfl rfl rfl rfl rfl rfl) ?_
    | refine O_Xn (X_storeP 3 (writes_box (by show 4 < 5; decide)) rfl rfl rfl rfl rfl rfl rfl) ?_
    | refine O_Xn (X_storeP 4 (writes_box (by show 4 < 5; decide)) rfl rfl rfl rfl rfl rfl rfl) ?_
  repeat (first | refine sc rfl ?_ | refine so rfl ?_ | refine sb rfl ?_)
  first
    | exact ⟨_, [_, _, _, _], _, rfl, pickA_perm (is := [2, 2, 0, 0]) (As := [_, _, _, _]) rfl, rfl, h, d, hd, rfl, rfl⟩
    | exact ⟨_, [_, _, _, _], _, rfl, pickA_perm (is := [2, 2, 1, 0]) (As := [_, _, _, _]) rfl, rfl, h, d, hd, rfl, rfl⟩
theorem waits_A (s mg tm : Nat) (now : Int) (g cc b : Nat) (rest : List UInt8) (e st own : Int) (a : Option Addr) (m c : Nat) : FnA Tryz.prog 60 [PT s 67, I64 0] [srvL s mg tm now (HD g 1 cc), lnsA (HD g 1 cc) b, lnA b rest e st own (.slice a m c)] (fun r cs' => r = I64 (m : Nat) ∧ cs' = [srvL s mg tm now (HD g 1 cc), lnsA (HD g 1 cc) b, lnA b rest e st own (.slice a m c)]) := by
  refine FnA.intro Tryz.tabOK Tryz.wide_ Tryz.func60 rfl (by decide) rfl (fun X => ?_)
  repeat (first | refine sc rfl ?_ | refine so rfl ?_ | refine sb rfl ?_)
  first
    | refine O_callA [0, 0] (find_A s mg tm now g cc b) (by rfl) (by rfl) (by rfl) (by rfl) (by rfl) ?_
    | refine O_callA [0, 1] (find_A s mg tm now g cc b) (by rfl) (by rfl) (by rfl) (by rfl) (by rfl) ?_
    | refine O_callA [0, 2] (find_A s mg tm now g cc b) (by rfl) (by rfl) (by rfl) (by rfl) (by rfl) ?_
    | refine O_callA [0, 3] (find_A s mg tm now g cc b) (by rfl) (by rfl) (by rfl) (by rfl) (by rfl) ?_
    | refine O_callA [0, 4] (find_A s mg tm now g cc b) (by rfl) (by rfl) (by rfl) (by rfl) (by rfl) ?_
    | refine O_callA [0, 5] (find_A s mg tm now g cc b) (by rfl) (by rfl) (by rfl) (by rfl) (by rfl) ?_
    | refine O_callA [1, 0] (find_A s mg tm now g cc b) (by rfl) (by rfl) (by rfl) (by rfl) (by rfl) ?_
    | refine O_callA [1, 1] (find_A s mg tm now g cc b) (by rfl) (by rfl) (by rfl) (by rfl) (by rfl) ?_
    | refine O_callA [1, 2] (find_A s mg tm now g cc b) (by rfl) (by rfl) (by rfl) (by rfl) (by rfl) ?_
    | refine O_callA [1, 3] (find_A s mg tm now g cc b) (by rfl) (by rfl) (by rfl) (by rfl) (by rfl) ?_
    | refine O_callA [1, 4] (find_A s mg tm now g cc b) (by rfl) (by rfl) (by rfl) (by rfl) (by rfl) ?_
    | refine O_callA [1, 5] (find_A s mg tm now g cc b) (by rfl) (by rfl) (by rfl) (by rfl) (by rfl) ?_
    | refine O_callA [2, 0] (find_A s mg tm now g cc b) (by rfl) (by rfl) (by rfl) (by rfl) (by rfl) ?_
    | refine O_callA [2, 1] (find_A s mg tm now g cc b) (by rfl) (by rfl) (by rfl) (by rfl) (by rfl) ?_
    | refine O_callA [2, 2] (find_A s mg tm now g cc b) (by rfl) (by rfl) (by rfl) (by rfl) (by rfl) ?_
    | refine O_callA [2, 3] (find_A s mg tm now g cc b) (by rfl) (by rfl) (by rfl) (by rfl) (by rfl) ?_
    | refine O_callA [2, 4] (find_A s mg tm now g cc b) (by rfl) (by rfl) (by rfl) (by rfl) (by rfl) ?_
    | refine O_callA [2, 5] (find_A s mg tm now g cc b) (by rfl) (by rfl) (by rfl) (by rfl) (by rfl) ?_
    | refine O_callA [3, 0] (find_A s mg tm now g cc b) (by rfl) (by rfl) (by rfl) (by rfl) (by rfl) ?_
    | refine O_callA [3, 1] (find_A s mg tm now g cc b) (by rfl) (by rfl) (by rfl) (by rfl) (by rfl) ?_
    | refine O_callA [3, 2] (find_A s mg tm now g cc b) (by rfl) (by rfl) (by rfl) (by rfl) (by rfl) ?_
    | refine O_callA [3, 3] (find_A s mg tm now g cc b) (by rfl) (by rfl) (by rfl) (by rfl) (by rfl) ?_
    | refine O_callA [3, 4] (find_A s mg tm now g cc b) (by rfl) (by rfl) (by rfl) (by rfl) (by rfl) ?_
    | refine O_callA [3, 5] (find_A s mg tm now g cc b) (by rfl) (by rfl) (by rfl) (by rfl) (by rfl) ?_
    | refine O_callA [4, 0] (find_A s mg tm now g cc b) (by rfl) (by rfl) (by rfl) (by rfl) (by rfl) ?_
    | refine O_callA [4, 1] (find_A s mg tm now g cc b) (by rfl) (by rfl) (by rfl) (by rfl) (by rfl) ?_
    | refine O_callA [4, 2] (find_A s mg tm now g cc b) (by rfl) (by rfl) (by rfl) (by rfl) (by rfl) ?_
    | refine O_callA [4, 3] (find_A s mg tm now g cc b) (by rfl) (by rfl) (by rfl) (by rfl) (by rfl) ?_
    | refine O_callA [4, 4] (find_A s mg tm now g cc b) (by rfl) (by rfl) (by rfl) (by rfl) (by rfl) ?_
    | refine O_callA [4, 5] (find_A s mg tm now g cc b) (by rfl) (by rfl) (by rfl) (by rfl) (by rfl) ?_
    | refine O_callA [5, 0] (find_A s mg tm now g cc b) (by rfl) (by rfl) (by rfl) (by rfl) (by rfl) ?_
    | refine O_callA [5, 1] (find_A s mg tm now g cc b) (by rfl) (by rfl) (by rfl) (by rfl) (by rfl) ?_
    | refine O_callA [5, 2] (find_A s mg tm now g cc b) (by rfl) (by rfl) (by rfl) (by rfl) (by rfl) ?_
    | refine O_callA [5, 3] (find_A s mg tm now g cc b) (by rfl) (by rfl) (by rfl) (by rfl) (by rfl) ?_
    | refine O_callA [5, 4] (find_A s mg tm now g cc b) (by rfl) (by rfl) (by rfl) (by rfl) (by rfl) ?_
    | refine O_callA [5, 5] (find_A s mg tm now g cc b) (by rfl) (by rfl) (by rfl) (by rfl) (by rfl) ?_
    | refine O_callA [6, 0] (find_A s mg tm now g cc b) (by rfl) (by rfl) (by rfl) (by rfl) (by rfl) ?_
    | refine O_callA [6, 1] (find_A s mg tm now g cc b) (by rfl) (by rfl) (by rfl) (by rfl) (by rfl) ?_
    | refine O_callA [6, 2] (find_A s mg tm now g cc b) (by rfl) (by rfl) (by rfl) (by rfl) (by rfl) ?_
    | refine O_callA [6, 3] (find_A s mg tm now g cc b) (by rfl) (by rfl) (by rfl) (by rfl) (by rfl) ?_
    | refine O_callA [6, 4] (find_A s mg tm now g cc b) (by rfl) (by rfl) (by rfl) (by rfl) (by rfl) ?_
    | refine O_callA [6, 5] (find_A s mg tm now g cc b) (by rfl) (by rfl) (by rfl) (by rfl) (by rfl) ?_
  rintro r' cs' ⟨rfl, rfl⟩
  repeat (first | refine sc rfl ?_ | refine so rfl ?_ | refine sb rfl ?_)
  refine C_false rfl rfl ?_
  repeat (first | refine sc rfl ?_ | refine so rfl ?_ | refine sb rfl ?_)
  first
    | refine O_loadP 0 (reads_box 4) rfl rfl rfl rfl rfl rfl ?_
    | refine O_loadP 1 (reads_box 4) rfl rfl rfl rfl rfl rfl ?_
    | refine O_loadP 2 (reads_box 4) rfl rfl rfl rfl rfl rfl ?_
    | refine O_loadP 3 (reads_box 4) rfl rfl rfl rfl rfl rfl ?_
    | refine O_loadP 4 (reads_box 4) rfl rfl rfl rfl rfl rfl ?_
  repeat (first | refine sc rfl ?_ | refine so rfl ?_ | refine sb rfl ?_)
  exact ⟨_, [_, _, _], _, rfl, pickA_perm (is := [0, 0, 0]) (As := [_, _, _]) rfl, rfl, rfl, rfl⟩
theorem deliver1_A (s mg tm : Nat) (now : Int) (g cc b : Nat) (rest x : List UInt8) (e own : Int) (h d : Nat) (hd : 1 ≤ d) : FnA Tryz.prog 61 [PT s 67, I64 0] [srvL s mg tm now (HD g 1 cc), lnsA (HD g 1 cc) b, lnA b rest e 2 own (HD h 1 d), outA (HD h 1 d) x] (fun r cs' => ∃ a c, r = .tup [.s x, B false, I64 0] ∧ cs' = [srvL s mg tm now (HD g 1 cc), lnsA (HD g 1 cc) b, lnA b rest e 2 own (.slice a 0 c)]) := by
  refine FnA.intro Tryz.tabOK Tryz.wide_ Tryz.func61 rfl (by decide) rfl (fun X => ?_)
  repeat (first | refine sc rfl ?_ | refine so rfl ?_ | refine sb rfl ?_)
  first
    | refine O_callA [0, 0] (find_A s mg tm now g cc b) (by rfl) (by rfl) (by rfl) (by rfl) (by rfl) ?_
    | refine O_callA [0, 1] (find_A s mg tm now g cc b) (by rfl) (by rfl) (by rfl) (by rfl) (by rfl) ?_
    | refine O_callA [0, 2] (find_A s mg tm now g cc b) (by rfl) (by rfl) (by rfl) (by rfl) (by rfl) ?_
    | refine O_callA [0, 3] (find_A s mg tm now g cc b) (by rfl) (by rfl) (by rfl) (by rfl) (by rfl) ?_
    | refine O_callA [0, 4] (find_A s mg tm now g cc b) (by rfl) (by rfl) (by rfl) (by rfl) (by rfl) ?_
    | refine O_callA [0, 5] (find_A s mg tm now g cc b) (by rfl) (by rfl) (by rfl) (by rfl) (by rfl) ?_
    | refine O_callA [1, 0] (find_A s mg tm now g cc b) (by rfl) (by rfl) (by rfl) (by rfl) (by rfl) ?_
    | refine O_callA [1, 1] (find_A s mg tm now g cc b) (by rfl) (by rfl) (by rfl) (by rfl) (by rfl) ?_
    | refine O_callA [1, 2] (find_A s mg tm now g cc b) (by rfl) (by rfl) (by rfl) (by rfl) (by rfl) ?_
    | refine O_callA [1, 3] (find_A s mg tm now g cc b) (by rfl) (by rfl) (by rfl) (by rfl) (by rfl) ?_
    | refine O_callA [1, 4] (find_A s mg tm now g cc b) (by rfl) (by rfl) (by rfl) (by rfl) (by rfl) ?_
    | refine O_callA [1, 5] (find_A s mg tm now g cc b) (by rfl) (by rfl) (by rfl) (by rfl) (by rfl) ?_
    | refine O_callA [2, 0] (find_A s mg tm now g cc b) (by rfl) (by rfl) (by rfl) (by rfl) (by rfl) ?_
    | refine O_callA [2, 1] (find_A s mg tm now g cc b) (by rfl) (by rfl) (by rfl) (by rfl) (by rfl) ?_
    | refine O_callA [2, 2] (find_A s mg tm now g cc b) (by rfl) (by rfl) (by rfl) (by rfl) (by rfl) ?_
    | refine O_callA [2, 3] (find_A s mg tm now g cc b) (by rfl) (by rfl) (by rfl) (by rfl) (by rfl) ?_
    | refine O_callA [2, 4] (find_A s mg tm now g cc b) (by rfl) (by rfl) (by rfl) (by rfl) (by rfl) ?_
    | refine O_callA [2, 5] (find_A s mg tm now g cc b) (by rfl) (by rfl) (by rfl) (by rfl) (by rfl) ?_
    | refine O_callA [3, 0] (find_A s mg tm now g cc b) (by rfl) (by rfl) (by rfl) (by rfl) (by rfl) ?_
    | refine O_callA [3, 1] (find_A s mg tm now g cc b) (by rfl) (by rfl) (by rfl) (by rfl) (by rfl) ?_
    | refine O_callA [3, 2] (find_A s mg tm now g cc b) (by rfl) (by rfl) (by rfl) (by rfl) (by rfl) ?_
    | refine O_callA [3, 3] (find_A s mg tm now g cc b) (by rfl) (by rfl) (by rfl) (by rfl) (by rfl) ?_
    | refine O_callA [3, 4] (find_A s mg tm now g cc b) (by rfl) (by rfl) (by rfl) (by rfl) (by rfl) ?_
    | refine O_callA [3, 5] (find_A s mg tm now g cc b) (by rfl) (by rfl) (by rfl) (by rfl) (by rfl) ?_
    | refine O_callA [4, 0] (find_A s mg tm now g cc b) (by rfl) (by rfl) (by rfl) (by rfl) (by rfl) ?_
    | refine O_callA [4, 1] (find_A s mg tm now g cc b) (by rfl) (by rfl) (by rfl) (by rfl) (by rfl) ?_
    | refine O_callA [4, 2] (find_A s mg tm now g cc b) (by rfl) (by rfl) (by rfl) (by rfl) (by rfl) ?_
    | refine O_callA [4, 3] (find_A s mg tm now g cc b) (by rfl) (by rfl) (by rfl) (by rfl) (by rfl) ?_
    | refine O_callA [4, 4] (find_A s mg tm now g cc b) (by rfl) (by rfl) (by rfl) (by rfl) (by rfl) ?_
    | refine O_callA [4, 5] (find_A s mg tm now g cc b) (by rfl) (by rfl) (by rfl) (by rfl) (by rfl) ?_
    | refine O_callA [5, 0] (find_A s mg tm now g cc b) (by rfl) (by rfl) (by rfl) (by rfl) (by rfl) ?_
    | refine O_callA [5, 1] (find_A s mg tm now g cc b) (by rfl) (by rfl) (by rfl) (by rfl) (by rfl) ?_
    | refine O_callA [5, 2] (find_A s mg tm now g cc b) (by rfl) (by rfl) (by rfl) (by rfl) (by rfl) ?_
    | refine O_callA [5, 3] (find_A s mg tm now g cc b) (by rfl) (by rfl) (by rfl) (by rfl) (by rfl) ?_
    | refine O_callA [5, 4] (find_A s mg tm now g cc b) (by rfl) (by rfl) (by rfl) (by rfl) (by rfl) ?_
    | refine O_callA [5, 5] (find_A s mg tm now g cc b) (by rfl) (by rfl) (by rfl) (by rfl) (by rfl) ?_
    | refine O_callA [6, 0] (find_A s mg tm now g cc b) (by rfl) (by rfl) (by rfl) (by rfl) (by rfl) ?_
    | refine O_callA [6, 1] (find_A s mg tm now g cc b) (by rfl) (by rfl) (by rfl) (by rfl) (by rfl) ?_
    | refine O_callA [6, 2] (find_A s mg tm now g cc b) (by rfl) (by rfl) (by rfl) (by rfl) (by rfl) ?_
    | refine O_callA [6, 3] (find_A s mg tm now g cc b) (by rfl) (by rfl) (by rfl) (by rfl) (by rfl) ?_
    | refine O_callA [6, 4] (find_A s mg tm now g cc b) (by rfl) (by rfl) (by rfl) (by rfl) (by rfl) ?_
    | refine O_callA [6, 5] (find_A s mg tm now g cc b) (by rfl) (by rfl) (by rfl) (by rfl) (by rfl) ?_
  rintro r' cs' ⟨rfl, rfl⟩
  repeat (first | refine sc rfl ?_ | refine so rfl ?_ | refine sb rfl ?_)
  refine C_false rfl rfl ?_
  repeat (first | refine sc rfl ?_ | refine so rfl ?_ | refine sb rfl ?_)
  first
    | refine O_loadP 0 (reads_box 2) rfl rfl rfl rfl rfl rfl ?_
    | refine O_loadP 1 (reads_box 2) rfl rfl rfl rfl rfl rfl ?_
    | refine O_loadP 2 (reads_box 2) rfl rfl rfl rfl rfl rfl ?_
    | refine O_loadP 3 (reads_box 2) rfl rfl rfl rfl rfl rfl ?_
    | refine O_loadP 4 (reads_box 2) rfl rfl rfl rfl rfl rfl ?_
  repeat (first | refine sc rfl ?_ | refine so rfl ?_ | refine sb rfl ?_)
  refine C_false rfl rfl ?_
  repeat (first | refine sc rfl ?_ | refine so rfl ?_ | refine sb rfl ?_)
  first
    | refine O_loadP 0 (reads_box 4) rfl rfl rfl rfl rfl rfl ?_
    | refine O_loadP 1 (reads_box 4) rfl rfl rfl rfl rfl rfl ?_
    | refine O_loadP 2 (reads_box 4) rfl rfl rfl rfl rfl rfl ?_
    | refine O_loadP 3 (reads_box 4) rfl rfl rfl rfl rfl rfl ?_
    | refine O_loadP 4 (reads_box 4) rfl rfl rfl rfl rfl rfl ?_
  repeat (first | refine sc rfl ?_ | refine so rfl ?_ | refine sb rfl ?_)
  refine C_true rfl (by decide) ?_
  repeat (first | refine sc rfl ?_ | refine so rfl ?_ | refine sb rfl ?_)
  first
    | refine O_loadP 0 (reads_box 4) rfl rfl rfl rfl rfl rfl ?_
    | refine O_loadP 1 (reads_box 4) rfl rfl rfl rfl rfl rfl ?_
    | refine O_loadP 2 (reads_box 4) rfl rfl rfl rfl rfl rfl ?_
    | refine O_loadP 3 (reads_box 4) rfl rfl rfl rfl rfl rfl ?_
    | refine O_loadP 4 (reads_box 4) rfl rfl rfl rfl rfl rfl ?_
  repeat (first | refine sc rfl ?_ | refine so rfl ?_ | refine sb rfl ?_)
  refine ⟨by decide, ?_⟩
  repeat (first | refine sc rfl ?_ | refine so rfl ?_ | refine sb rfl ?_)
  first
    | refine O_loadP 0 (reads_vec (q := 0) (j := 0) (by decide) rfl) rfl rfl rfl rfl rfl rfl ?_
    | refine O_loadP 1 (reads_vec (q := 0) (j := 0) (by decide) rfl) rfl rfl rfl rfl rfl rfl ?_
    | refine O_loadP 2 (reads_vec (q := 0) (j := 0) (by decide) rfl) rfl rfl rfl rfl rfl rfl ?_
    | refine O_loadP 3 (reads_vec (q := 0) (j := 0) (by decide) rfl) rfl rfl rfl rfl rfl rfl ?_
    | refine O_loadP 4 (reads_vec (q := 0) (j := 0) (by decide) rfl) rfl rfl rfl rfl rfl rfl ?_
  repeat (first | refine sc rfl ?_ | refine so rfl ?_ | refine sb rfl ?_)
  first
    | refine O_loadP 0 (reads_box 4) rfl rfl rfl rfl rfl rfl ?_
    | refine O_loadP 1 (reads_box 4) rfl rfl rfl rfl rfl rfl ?_
    | refine O_loadP 2 (reads_box 4) rfl rfl rfl rfl rfl rfl ?_
    | refine O_loadP 3 (reads_box 4) rfl rfl rfl rfl rfl rfl ?_
    | refine O_loadP 4 (reads_box 4) rfl rfl rfl rfl rfl rfl ?_
  repeat (first | refine sc rfl ?_ | refine so rfl ?_ | refine sb rfl ?_)
  refine O_Xd (X_sliceFrom (i := 1) (r := 0) rfl rfl rfl rfl rfl rfl (by decide) hd rfl) ?_
  repeat (first | refine sc rfl ?_ | refine so rfl ?_ | refine sb rfl ?_)
  first
    | refine O_Xn (X_storeP 0 (writes_box (by show 4 < 5; decide)) rfl rfl rfl rfl rfl rfl rfl) ?_
    | refine O_Xn (X_storeP 1 (writes_box (by show 4 < 5; decide)) rfl rfl rfl rfl rfl rfl rfl) ?_
    | refine O_Xn (X_storeP 2 (writes_box (by show 4 < 5; decide)) rfl rfl rfl rfl rfl rfl rfl) ?_
    | refine O_Xn (X_storeP 3 (writes_box (by show 4 < 5; decide)) rfl rfl rfl rfl rfl rfl rfl) ?_
    | refine O_Xn (X_storeP 4 (writes_box (by show 4 < 5; decide)) rfl rfl rfl rfl rfl rfl rfl) ?_
  repeat (first | refine sc rfl ?_ | refine so rfl ?_ | refine sb rfl ?_)
  first
    | exact ⟨_, [_, _, _], _, rfl, pickA_perm (is := [1, 1, 0]) (As := [_, _, _]) rfl, rfl, _, _, rfl, rfl⟩
    | exact ⟨_, [_, _, _], _, rfl, pickA_perm (is := [0, 0, 0]) (As := [_, _, _]) rfl, rfl, _, _, rfl, rfl⟩
theorem deliver2_A (s mg tm : Nat) (now : Int) (g cc b : Nat) (rest : List UInt8) (e own : Int) (a : Option Addr) (c : Nat) : FnA Tryz.prog 61 [PT s 67, I64 0] [srvL s mg tm now (HD g 1 cc), lnsA (HD g 1 cc) b, lnA b rest e 2 own (.slice a 0 c)] (fun r cs' => r = .tup [.s [], B true, I64 0] ∧ cs' = [srvL s mg tm now (HD g 1 cc), lnsA (HD g 1 cc) b, lnA b rest e 3 own (.slice a 0 c)]) := by
  refine FnA.intro Tryz.tabOK Tryz.wide_ Tryz.func61 rfl (by decide) rfl (fun X => ?_)
  repeat (first | refine sc rfl ?_ | refine so rfl ?_ | refine sb rfl ?_)
  first
    | refine O_callA [0, 0] (find_A s mg tm now g cc b) (by rfl) (by rfl) (by rfl) (by rfl) (by rfl) ?_
    | refine O_callA [0, 1] (find_A s mg tm now g cc b) (by rfl) (by rfl) (by rfl) (by rfl) (by rfl) ?_
    | refine O_callA [0, 2] (find_A s mg tm now g cc b) (by rfl) (by rfl) (by rfl) (by rfl) (by rfl) ?_
    | refine O_callA [0, 3] (find_A s mg tm now g cc b) (by rfl) (by rfl) (by rfl) (by rfl) (by rfl) ?_
    | refine O_callA [0, 4] (find_A s mg tm now g cc b) (by rfl) (by rfl) (by rfl) (by rfl) (by rfl) ?_
    | refine O_callA [0, 5] (find_A s mg tm now g cc b) (by rfl) (by rfl) (by rfl) (by rfl) (by rfl) ?_
    | refine O_callA [1, 0] (find_A s mg tm now g cc b) (by rfl) (by rfl) (by rfl) (by rfl) (by rfl) ?_
    | refine O_callA [1, 1] (find_A s mg tm now g cc b) (by rfl) (by rfl) (by rfl) (by rfl) (by rfl) ?_
    | refine O_callA [1, 2] (find_A s mg tm now g cc b) (by rfl) (by rfl) (by rfl) (by rfl) (by rfl) ?_
    | refine O_callA [1, 3] (find_A s mg tm now g cc b) (by rfl) (by rfl) (by rfl) (by rfl) (by rfl) ?_
    | refine O_callA [1, 4] (find_A s mg tm now g cc b) (by rfl) (by rfl) (by rfl) (by rfl) (by rfl) ?_
    | refine O_callA [1, 5] (find_A s mg tm now g cc b) (by rfl) (by rfl) (by rfl) (by rfl) (by rfl) ?_
    | refine O_callA [2, 0] (find_A s mg tm now g cc b) (by rfl) (by rfl) (by rfl) (by rfl) (by rfl) ?_
    | refine O_callA [2, 1] (find_A s mg tm now g cc b) (by rfl) (by rfl) (by rfl) (by rfl) (by rfl) ?_
    | refine O_callA [2, 2] (find_A s mg tm now g cc b) (by rfl) (by rfl) (by rfl) (by rfl) (by rfl) ?_
    | refine O_callA [2, 3] (find_A s mg tm now g cc b) (by rfl) (by rfl) (by rfl) (by rfl) (by rfl) ?_
    | refine O_callA [2, 4] (find_A s mg tm now g cc b) (by rfl) (by rfl) (by rfl) (by rfl) (by rfl) ?_
    | refine O_callA [2, 5] (find_A s mg tm now g cc b) (by rfl) (by rfl) (by rfl) (by rfl) (by rfl) ?_
    | refine O_callA [3, 0] (find_A s mg tm now g cc b) (by rfl) (by rfl) (by rfl) (by rfl) (by rfl) ?_
    | refine O_callA [3, 1] (find_A s mg tm now g cc b) (by rfl) (by rfl) (by rfl) (by rfl) (by rfl) ?_
    | refine O_callA [3, 2] (find_A s mg tm now g cc b) (by rfl) (by rfl) (by rfl) (by rfl) (by rfl) ?_
    | refine O_callA [3, 3] (find_A s mg tm now g cc b) (by rfl) (by rfl) (by rfl) (by rfl) (by rfl) ?_
    | refine O_callA [3, 4] (find_A s mg tm now g cc b) (by rfl) (by rfl) (by rfl) (by rfl) (by rfl) ?_
    | refine O_callA [3, 5] (find_A s mg tm now g cc b) (by rfl) (by rfl) (by rfl) (by rfl) (by rfl) ?_
    | refine O_callA [4, 0] (find_A s mg tm now g cc b) (by rfl) (by rfl) (by rfl) (by rfl) (by rfl) ?_
    | refine O_callA [4, 1] (find_A s mg tm now g cc b) (by rfl) (by rfl) (by rfl) (by rfl) (by rfl) ?_
    | refine O_callA [4, 2] (find_A s mg tm now g cc b) (by rfl) (by rfl) (by rfl) (by rfl) (by rfl) ?_
    | refine O_callA [4, 3] (find_A s mg tm now g cc b) (by rfl) (by rfl) (by rfl) (by rfl) (by rfl) ?_
    | refine O_callA [4, 4] (find_A s mg tm now g cc b) (by rfl) (by rfl) (by rfl) (by rfl) (by rfl) ?_
    | refine O_callA [4, 5] (find_A s mg tm now g cc b) (by rfl) (by rfl) (by rfl) (by rfl) (by rfl) ?_
    | refine O_callA [5, 0] (find_A s mg tm now g cc b) (by rfl) (by rfl) (by rfl) (by rfl) (by rfl) ?_
    | refine O_callA [5, 1] (find_A s mg tm now g cc b) (by rfl) (by rfl) (by rfl) (by rfl) (by rfl) ?_
    | refine O_callA [5, 2] (find_A s mg tm now g cc b) (by rfl) (by rfl) (by rfl) (by rfl) (by rfl) ?_
    | refine O_callA [5, 3] (find_A s mg tm now g cc b) (by rfl) (by rfl) (by rfl) (by rfl) (by rfl) ?_
    | refine O_callA [5, 4] (find_A s mg tm now g cc b) (by rfl) (by rfl) (by rfl) (by rfl) (by rfl) ?_
    | refine O_callA [5, 5] (find_A s mg tm now g cc b) (by rfl) (by rfl) (by rfl) (by rfl) (by rfl) ?_
    | refine O_callA [6, 0] (find_A s mg tm now g cc b) (by rfl) (by rfl) (by rfl) (by rfl) (by rfl) ?_
    | refine O_callA [6, 1] (find_A s mg tm now g cc b) (by rfl) (by rfl) (by rfl) (by rfl) (by rfl) ?_
    | refine O_callA [6, 2] (find_A s mg tm now g cc b) (by rfl) (by rfl) (by rfl) (by rfl) (by rfl) ?_
    | refine O_callA [6, 3] (find_A s mg tm now g cc b) (by rfl) (by rfl) (by rfl) (by rfl) (by rfl) ?_
    | refine O_callA [6, 4] (find_A s mg tm now g cc b) (by rfl) (by rfl) (by rfl) (by rfl) (by rfl) ?_
    | refine O_callA [6, 5] (find_A s mg tm now g cc b) (by rfl) (by rfl) (by rfl) (by rfl) (by rfl) ?_
  rintro r' cs' ⟨rfl, rfl⟩
  repeat (first | refine sc rfl ?_ | refine so rfl ?_ | refine sb rfl ?_)
  refine C_false rfl rfl ?_
  repeat (first | refine sc rfl ?_ | refine so rfl ?_ | refine sb rfl ?_)
  first
    | refine O_loadP 0 (reads_box 2) rfl rfl rfl rfl rfl rfl ?_
    | refine O_loadP 1 (reads_box 2) rfl rfl rfl rfl rfl rfl ?_
    | refine O_loadP 2 (reads_box 2) rfl rfl rfl rfl rfl rfl ?_
    | refine O_loadP 3 (reads_box 2) rfl rfl rfl rfl rfl rfl ?_
    | refine O_loadP 4 (reads_box 2) rfl rfl rfl rfl rfl rfl ?_
  repeat (first | refine sc rfl ?_ | refine so rfl ?_ | refine sb rfl ?_)
  refine C_false rfl rfl ?_
  repeat (first | refine sc rfl ?_ | refine so rfl ?_ | refine sb rfl ?_)
  first
    | refine O_loadP 0 (reads_box 4) rfl rfl rfl rfl rfl rfl ?_
    | refine O_loadP 1 (reads_box 4) rfl rfl rfl rfl rfl rfl ?_
    | refine O_loadP 2 (reads_box 4) rfl rfl rfl rfl rfl rfl ?_
    | refine O_loadP 3 (reads_box 4) rfl rfl rfl rfl rfl rfl ?_
    | refine O_loadP 4 (reads_box 4) rfl rfl rfl rfl rfl rfl ?_
  repeat (first | refine sc rfl ?_ | refine so rfl ?_ | refine sb rfl ?_)
  refine C_false rfl (by decide) ?_
  repeat (first | refine sc rfl ?_ | refine so rfl ?_ | refine sb rfl ?_)
  first
    | refine O_loadP 0 (reads_box 2) rfl rfl rfl rfl rfl rfl ?_
    | refine O_loadP 1 (reads_box 2) rfl rfl rfl rfl rfl rfl ?_
    | refine O_loadP 2 (reads_box 2) rfl rfl rfl rfl rfl rfl ?_
    | refine O_loadP 3 (reads_box 2) rfl rfl rfl rfl rfl rfl ?_
    | refine O_loadP 4 (reads_box 2) rfl rfl rfl rfl rfl rfl ?_
  repeat (first | refine sc rfl ?_ | refine so rfl ?_ | refine sb rfl ?_)
  refine C_true rfl rfl ?_
  repeat (first | refine sc rfl ?_ | refine so rfl ?_ | refine sb rfl ?_)
  first
    | refine O_Xn (X_storeP 0 (writes_box (by show 2 < 5; decide)) rfl rfl rfl rfl rfl rfl rfl) ?_
    | refine O_Xn (X_storeP 1 (writes_box (by show 2 < 5; decide)) rfl rfl rfl rfl rfl rfl rfl) ?_
    | refine O_Xn (X_storeP 2 (writes_box (by show 2 < 5; decide)) rfl rfl rfl rfl rfl rfl rfl) ?_
    | refine O_Xn (X_storeP 3 (writes_box (by show 2 < 5; decide)) rfl rfl rfl rfl rfl rfl rfl) ?_
    | refine O_Xn (X_storeP 4 (writes_box (by show 2 < 5; decide)) rfl rfl rfl rfl rfl rfl rfl) ?_
  repeat (first | refine sc rfl ?_ | refine so rfl ?_ | refine sb rfl ?_)
  first
    | exact ⟨_, [_, _, _], _, rfl, pickA_perm (is := [1, 1, 0]) (As := [_, _, _]) rfl, rfl, rfl, rfl⟩
    | exact ⟨_, [_, _, _], _, rfl, pickA_perm (is := [0, 0, 0]) (As := [_, _, _]) rfl, rfl, rfl, rfl⟩
end Go.Proofs
