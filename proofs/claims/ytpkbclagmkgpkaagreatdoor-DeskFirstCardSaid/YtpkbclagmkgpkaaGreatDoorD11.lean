/- Contracts of span: the reader of bytes. -/
import Derived.Test.YtpkbclagmkgpkaaGreatDoorD8
import Derived.Test.YtpkbclagmkgpkaaGreatDoorD6
import Derived.Test.YtpkbclagmkgpkaaGreatDoorD7
import Derived.Test.YtpkbclagmkgpkaaGreatDoorD3
import Derived.Test.YtpkbclagmkgpkaaGreatDoorD10
set_option linter.unusedSimpArgs false
set_option linter.unusedVariables false
set_option maxRecDepth 100000
namespace Go.Proofs
open Go.Sy Go.Lib

abbrev rdr (g : Nat) (b : List UInt8) (at_ : Nat) (e : Int) : Abs := boxA g 298 [.s b, I64 (at_ : Nat), I64 e]
def rdAt (at_ k : Nat) (e e2 : Int) : Nat := if e ≠ 0 then at_ else if e2 ≠ 0 then at_ else at_ + k
def rdE (e e2 : Int) : Int := if e ≠ 0 then e else e2
def rdV {α : Type} (z x : α) (e e2 : Int) : α := if e ≠ 0 then z else if e2 ≠ 0 then z else x

theorem takeU_A (g : Nat) (b : List UInt8) (at_ : Nat) (e : Int) (fv : AV) (f : FuncId) (caps : List AV) (k : Nat) (e2 : Int) (x : Int) (hclo : IsClo fv f caps) (himm : fv.imm = true) (hat : at_ ≤ b.length) (hfv : fv = .p (cloRP f caps) ∨ ∃ v, fv = .v v)
    (hf : e = 0 → FnP Tryz.prog f ([.s (b.drop at_)] ++ caps) (· = .tup [U64 x, I64 (k : Nat), I64 e2])) (hk : e = 0 → e2 = 0 → at_ + k ≤ b.length) (hb : b.length ≤ 9223372036854775807) :
    FnA Tryz.prog 202 [PT g 0, fv] [rdr g b at_ e] (fun r cs' => r = U64 (rdV 0 x e e2) ∧ cs' = [rdr g b (rdAt at_ k e e2) (rdE e e2)]) := by
  rcases hfv with rfl | ⟨v, rfl⟩
  · refine FnA.intro Tryz.tabOK Tryz.wide_ Tryz.func202 rfl (by decide) rfl (fun X => ?_)
    repeat (first|refine sc rfl ?_|refine so rfl ?_|refine sb rfl ?_)
    refine O_Xd (X_ptrnil Tryz.underlying249 rfl rfl rfl) ?_
    repeat (first|refine sc rfl ?_|refine so rfl ?_|refine sb rfl ?_)
    first
      | refine O_loadP 0 (reads_box 2) rfl rfl rfl rfl rfl rfl ?_
      | refine O_loadP 1 (reads_box 2) rfl rfl rfl rfl rfl rfl ?_
      | refine O_loadP 2 (reads_box 2) rfl rfl rfl rfl rfl rfl ?_
      | refine O_loadP 3 (reads_box 2) rfl rfl rfl rfl rfl rfl ?_
      | refine O_loadP 4 (reads_box 2) rfl rfl rfl rfl rfl rfl ?_
    repeat (first|refine sc rfl ?_|refine so rfl ?_|refine sb rfl ?_)
    refine C_if rfl (fun h0 => ?_) (fun h0 => ?_) <;> simp only [pL] at h0
    · repeat (first|refine sc rfl ?_|refine so rfl ?_|refine sb rfl ?_)
      first
        | exact ⟨_, [_], _, rfl, pickA_perm (is := [0]) (As := [_]) rfl, rfl, by unfold rdV; rw [if_pos h0], by unfold rdAt rdE; rw [if_pos h0, if_pos h0]⟩
        | exact ⟨_, [_], _, rfl, pickA_perm (is := [1]) (As := [_]) rfl, rfl, by unfold rdV; rw [if_pos h0], by unfold rdAt rdE; rw [if_pos h0, if_pos h0]⟩
        | exact ⟨_, [_], _, rfl, pickA_perm (is := [2]) (As := [_]) rfl, rfl, by unfold rdV; rw [if_pos h0], by unfold rdAt rdE; rw [if_pos h0, if_pos h0]⟩
        | exact ⟨_, [_], _, rfl, pickA_perm (is := [3]) (As := [_]) rfl, rfl, by unfold rdV; rw [if_pos h0], by unfold rdAt rdE; rw [if_pos h0, if_pos h0]⟩
        | exact ⟨_, [_], _, rfl, pickA_perm (is := [4]) (As := [_]) rfl, rfl, by unfold rdV; rw [if_pos h0], by unfold rdAt rdE; rw [if_pos h0, if_pos h0]⟩
    subst h0
    repeat (first|refine sc rfl ?_|refine so rfl ?_|refine sb rfl ?_)
    refine C_drawD rfl (by kernel_rfl) ?_
    repeat (first|refine sd rfl ?_|refine sdb rfl ?_|refine sds rfl ?_)
    refine D_X (.s b) (X_loadP 0 (A := rdr g b at_ 0) (reads_box 0) rfl rfl rfl rfl rfl rfl) ?_
    repeat (first|refine sd rfl ?_|refine sdb rfl ?_|refine sds rfl ?_)
    refine D_X (I64 (at_ : Nat)) (X_loadP 0 (A := rdr g b at_ 0) (reads_box 1) rfl rfl rfl rfl rfl rfl) ?_
    repeat (first | refine sd rfl ?_ | refine ⟨by omega, ?_⟩)
    rw [Int.toNat_natCast]
    refine D_callV hclo himm (hf rfl) rfl rfl rfl rfl rfl ?_
    repeat (first|refine sd rfl ?_|refine sdb rfl ?_|refine sds rfl ?_)
    repeat (first|refine sc rfl ?_|refine so rfl ?_|refine sb rfl ?_)
    refine C_if rfl (fun h1 => ?_) (fun h1 => ?_) <;> simp only [pL] at h1
    · repeat (first|refine sc rfl ?_|refine so rfl ?_|refine sb rfl ?_)
      first
        | refine O_Xn (X_storeP 0 (writes_box (b := g) (t := 298) (cells := [.s b, I64 (at_ : Nat), I64 0]) (by simp)) rfl rfl rfl rfl rfl rfl rfl) ?_
        | refine O_Xn (X_storeP 1 (writes_box (b := g) (t := 298) (cells := [.s b, I64 (at_ : Nat), I64 0]) (by simp)) rfl rfl rfl rfl rfl rfl rfl) ?_
        | refine O_Xn (X_storeP 2 (writes_box (b := g) (t := 298) (cells := [.s b, I64 (at_ : Nat), I64 0]) (by simp)) rfl rfl rfl rfl rfl rfl rfl) ?_
        | refine O_Xn (X_storeP 3 (writes_box (b := g) (t := 298) (cells := [.s b, I64 (at_ : Nat), I64 0]) (by simp)) rfl rfl rfl rfl rfl rfl rfl) ?_
        | refine O_Xn (X_storeP 4 (writes_box (b := g) (t := 298) (cells := [.s b, I64 (at_ : Nat), I64 0]) (by simp)) rfl rfl rfl rfl rfl rfl rfl) ?_
      repeat (first|refine sc rfl ?_|refine so rfl ?_|refine sb rfl ?_)
      first
        | exact ⟨_, [_], _, rfl, pickA_perm (is := [0]) (As := [_]) rfl, rfl, by unfold rdV; rw [if_neg (by decide), if_pos h1], by unfold rdAt rdE; rw [if_neg (by decide), if_pos h1, if_neg (by decide)]; rfl⟩
        | exact ⟨_, [_], _, rfl, pickA_perm (is := [1]) (As := [_]) rfl, rfl, by unfold rdV; rw [if_neg (by decide), if_pos h1], by unfold rdAt rdE; rw [if_neg (by decide), if_pos h1, if_neg (by decide)]; rfl⟩
        | exact ⟨_, [_], _, rfl, pickA_perm (is := [2]) (As := [_]) rfl, rfl, by unfold rdV; rw [if_neg (by decide), if_pos h1], by unfold rdAt rdE; rw [if_neg (by decide), if_pos h1, if_neg (by decide)]; rfl⟩
        | exact ⟨_, [_], _, rfl, pickA_perm (is := [3]) (As := [_]) rfl, rfl, by unfold rdV; rw [if_neg (by decide), if_pos h1], by unfold rdAt rdE; rw [if_neg (by decide), if_pos h1, if_neg (by decide)]; rfl⟩
        | exact ⟨_, [_], _, rfl, pickA_perm (is := [4]) (As := [_]) rfl, rfl, by unfold rdV; rw [if_neg (by decide), if_pos h1], by unfold rdAt rdE; rw [if_neg (by decide), if_pos h1, if_neg (by decide)]; rfl⟩
    · subst h1
      have hk' := hk rfl rfl
      repeat (first|refine sc rfl ?_|refine so rfl ?_|refine sb rfl ?_)
      first
        | refine O_loadP 0 (reads_box 1) rfl rfl rfl rfl rfl rfl ?_
        | refine O_loadP 1 (reads_box 1) rfl rfl rfl rfl rfl rfl ?_
        | refine O_loadP 2 (reads_box 1) rfl rfl rfl rfl rfl rfl ?_
        | refine O_loadP 3 (reads_box 1) rfl rfl rfl rfl rfl rfl ?_
        | refine O_loadP 4 (reads_box 1) rfl rfl rfl rfl rfl rfl ?_
      repeat (first|refine sc rfl ?_|refine so rfl ?_|refine sb rfl ?_)
      rw [w64 (x := (at_ : Int) + (k : Int)) (by omega) (by omega)]
      first
        | refine O_Xn (X_storeP 0 (writes_box (b := g) (t := 298) (cells := [.s b, I64 (at_ : Nat), I64 0]) (by simp)) rfl rfl rfl rfl rfl rfl rfl) ?_
        | refine O_Xn (X_storeP 1 (writes_box (b := g) (t := 298) (cells := [.s b, I64 (at_ : Nat), I64 0]) (by simp)) rfl rfl rfl rfl rfl rfl rfl) ?_
        | refine O_Xn (X_storeP 2 (writes_box (b := g) (t := 298) (cells := [.s b, I64 (at_ : Nat), I64 0]) (by simp)) rfl rfl rfl rfl rfl rfl rfl) ?_
        | refine O_Xn (X_storeP 3 (writes_box (b := g) (t := 298) (cells := [.s b, I64 (at_ : Nat), I64 0]) (by simp)) rfl rfl rfl rfl rfl rfl rfl) ?_
        | refine O_Xn (X_storeP 4 (writes_box (b := g) (t := 298) (cells := [.s b, I64 (at_ : Nat), I64 0]) (by simp)) rfl rfl rfl rfl rfl rfl rfl) ?_
      repeat (first|refine sc rfl ?_|refine so rfl ?_|refine sb rfl ?_)
      first
        | exact ⟨_, [_], _, rfl, pickA_perm (is := [0]) (As := [_]) rfl, rfl, by unfold rdV; rw [if_neg (by decide), if_neg (by decide)], by unfold rdAt rdE; rw [if_neg (by decide), if_neg (by decide), if_neg (by decide)]; rfl⟩
        | exact ⟨_, [_], _, rfl, pickA_perm (is := [1]) (As := [_]) rfl, rfl, by unfold rdV; rw [if_neg (by decide), if_neg (by decide)], by unfold rdAt rdE; rw [if_neg (by decide), if_neg (by decide), if_neg (by decide)]; rfl⟩
        | exact ⟨_, [_], _, rfl, pickA_perm (is := [2]) (As := [_]) rfl, rfl, by unfold rdV; rw [if_neg (by decide), if_neg (by decide)], by unfold rdAt rdE; rw [if_neg (by decide), if_neg (by decide), if_neg (by decide)]; rfl⟩
        | exact ⟨_, [_], _, rfl, pickA_perm (is := [3]) (As := [_]) rfl, rfl, by unfold rdV; rw [if_neg (by decide), if_neg (by decide)], by unfold rdAt rdE; rw [if_neg (by decide), if_neg (by decide), if_neg (by decide)]; rfl⟩
        | exact ⟨_, [_], _, rfl, pickA_perm (is := [4]) (As := [_]) rfl, rfl, by unfold rdV; rw [if_neg (by decide), if_neg (by decide)], by unfold rdAt rdE; rw [if_neg (by decide), if_neg (by decide), if_neg (by decide)]; rfl⟩
  · refine FnA.intro Tryz.tabOK Tryz.wide_ Tryz.func202 rfl (by decide) rfl (fun X => ?_)
    repeat (first|refine sc rfl ?_|refine so rfl ?_|refine sb rfl ?_)
    refine O_Xd (X_ptrnil Tryz.underlying249 rfl rfl rfl) ?_
    repeat (first|refine sc rfl ?_|refine so rfl ?_|refine sb rfl ?_)
    first
      | refine O_loadP 0 (reads_box 2) rfl rfl rfl rfl rfl rfl ?_
      | refine O_loadP 1 (reads_box 2) rfl rfl rfl rfl rfl rfl ?_
      | refine O_loadP 2 (reads_box 2) rfl rfl rfl rfl rfl rfl ?_
      | refine O_loadP 3 (reads_box 2) rfl rfl rfl rfl rfl rfl ?_
      | refine O_loadP 4 (reads_box 2) rfl rfl rfl rfl rfl rfl ?_
    repeat (first|refine sc rfl ?_|refine so rfl ?_|refine sb rfl ?_)
    refine C_if rfl (fun h0 => ?_) (fun h0 => ?_) <;> simp only [pL] at h0
    · repeat (first|refine sc rfl ?_|refine so rfl ?_|refine sb rfl ?_)
      first
        | exact ⟨_, [_], _, rfl, pickA_perm (is := [0]) (As := [_]) rfl, rfl, by unfold rdV; rw [if_pos h0], by unfold rdAt rdE; rw [if_pos h0, if_pos h0]⟩
        | exact ⟨_, [_], _, rfl, pickA_perm (is := [1]) (As := [_]) rfl, rfl, by unfold rdV; rw [if_pos h0], by unfold rdAt rdE; rw [if_pos h0, if_pos h0]⟩
        | exact ⟨_, [_], _, rfl, pickA_perm (is := [2]) (As := [_]) rfl, rfl, by unfold rdV; rw [if_pos h0], by unfold rdAt rdE; rw [if_pos h0, if_pos h0]⟩
        | exact ⟨_, [_], _, rfl, pickA_perm (is := [3]) (As := [_]) rfl, rfl, by unfold rdV; rw [if_pos h0], by unfold rdAt rdE; rw [if_pos h0, if_pos h0]⟩
        | exact ⟨_, [_], _, rfl, pickA_perm (is := [4]) (As := [_]) rfl, rfl, by unfold rdV; rw [if_pos h0], by unfold rdAt rdE; rw [if_pos h0, if_pos h0]⟩
    subst h0
    repeat (first|refine sc rfl ?_|refine so rfl ?_|refine sb rfl ?_)
    refine C_drawD rfl (by kernel_rfl) ?_
    repeat (first|refine sd rfl ?_|refine sdb rfl ?_|refine sds rfl ?_)
    refine D_X (.s b) (X_loadP 0 (A := rdr g b at_ 0) (reads_box 0) rfl rfl rfl rfl rfl rfl) ?_
    repeat (first|refine sd rfl ?_|refine sdb rfl ?_|refine sds rfl ?_)
    refine D_X (I64 (at_ : Nat)) (X_loadP 0 (A := rdr g b at_ 0) (reads_box 1) rfl rfl rfl rfl rfl rfl) ?_
    repeat (first | refine sd rfl ?_ | refine ⟨by omega, ?_⟩)
    rw [Int.toNat_natCast]
    refine D_callV hclo himm (hf rfl) rfl rfl rfl rfl rfl ?_
    repeat (first|refine sd rfl ?_|refine sdb rfl ?_|refine sds rfl ?_)
    repeat (first|refine sc rfl ?_|refine so rfl ?_|refine sb rfl ?_)
    refine C_if rfl (fun h1 => ?_) (fun h1 => ?_) <;> simp only [pL] at h1
    · repeat (first|refine sc rfl ?_|refine so rfl ?_|refine sb rfl ?_)
      first
        | refine O_Xn (X_storeP 0 (writes_box (b := g) (t := 298) (cells := [.s b, I64 (at_ : Nat), I64 0]) (by simp)) rfl rfl rfl rfl rfl rfl rfl) ?_
        | refine O_Xn (X_storeP 1 (writes_box (b := g) (t := 298) (cells := [.s b, I64 (at_ : Nat), I64 0]) (by simp)) rfl rfl rfl rfl rfl rfl rfl) ?_
        | refine O_Xn (X_storeP 2 (writes_box (b := g) (t := 298) (cells := [.s b, I64 (at_ : Nat), I64 0]) (by simp)) rfl rfl rfl rfl rfl rfl rfl) ?_
        | refine O_Xn (X_storeP 3 (writes_box (b := g) (t := 298) (cells := [.s b, I64 (at_ : Nat), I64 0]) (by simp)) rfl rfl rfl rfl rfl rfl rfl) ?_
        | refine O_Xn (X_storeP 4 (writes_box (b := g) (t := 298) (cells := [.s b, I64 (at_ : Nat), I64 0]) (by simp)) rfl rfl rfl rfl rfl rfl rfl) ?_
      repeat (first|refine sc rfl ?_|refine so rfl ?_|refine sb rfl ?_)
      first
        | exact ⟨_, [_], _, rfl, pickA_perm (is := [0]) (As := [_]) rfl, rfl, by unfold rdV; rw [if_neg (by decide), if_pos h1], by unfold rdAt rdE; rw [if_neg (by decide), if_pos h1, if_neg (by decide)]; rfl⟩
        | exact ⟨_, [_], _, rfl, pickA_perm (is := [1]) (As := [_]) rfl, rfl, by unfold rdV; rw [if_neg (by decide), if_pos h1], by unfold rdAt rdE; rw [if_neg (by decide), if_pos h1, if_neg (by decide)]; rfl⟩
        | exact ⟨_, [_], _, rfl, pickA_perm (is := [2]) (As := [_]) rfl, rfl, by unfold rdV; rw [if_neg (by decide), if_pos h1], by unfold rdAt rdE; rw [if_neg (by decide), if_pos h1, if_neg (by decide)]; rfl⟩
        | exact ⟨_, [_], _, rfl, pickA_perm (is := [3]) (As := [_]) rfl, rfl, by unfold rdV; rw [if_neg (by decide), if_pos h1], by unfold rdAt rdE; rw [if_neg (by decide), if_pos h1, if_neg (by decide)]; rfl⟩
        | exact ⟨_, [_], _, rfl, pickA_perm (is := [4]) (As := [_]) rfl, rfl, by unfold rdV; rw [if_neg (by decide), if_pos h1], by unfold rdAt rdE; rw [if_neg (by decide), if_pos h1, if_neg (by decide)]; rfl⟩
    · subst h1
      have hk' := hk rfl rfl
      repeat (first|refine sc rfl ?_|refine so rfl ?_|refine sb rfl ?_)
      first
        | refine O_loadP 0 (reads_box 1) rfl rfl rfl rfl rfl rfl ?_
        | refine O_loadP 1 (reads_box 1) rfl rfl rfl rfl rfl rfl ?_
        | refine O_loadP 2 (reads_box 1) rfl rfl rfl rfl rfl rfl ?_
        | refine O_loadP 3 (reads_box 1) rfl rfl rfl rfl rfl rfl ?_
        | refine O_loadP 4 (reads_box 1) rfl rfl rfl rfl rfl rfl ?_
      repeat (first|refine sc rfl ?_|refine so rfl ?_|refine sb rfl ?_)
      rw [w64 (x := (at_ : Int) + (k : Int)) (by omega) (by omega)]
      first
        | refine O_Xn (X_storeP 0 (writes_box (b := g) (t := 298) (cells := [.s b, I64 (at_ : Nat), I64 0]) (by simp)) rfl rfl rfl rfl rfl rfl rfl) ?_
        | refine O_Xn (X_storeP 1 (writes_box (b := g) (t := 298) (cells := [.s b, I64 (at_ : Nat), I64 0]) (by simp)) rfl rfl rfl rfl rfl rfl rfl) ?_
        | refine O_Xn (X_storeP 2 (writes_box (b := g) (t := 298) (cells := [.s b, I64 (at_ : Nat), I64 0]) (by simp)) rfl rfl rfl rfl rfl rfl rfl) ?_
        | refine O_Xn (X_storeP 3 (writes_box (b := g) (t := 298) (cells := [.s b, I64 (at_ : Nat), I64 0]) (by simp)) rfl rfl rfl rfl rfl rfl rfl) ?_
        | refine O_Xn (X_storeP 4 (writes_box (b := g) (t := 298) (cells := [.s b, I64 (at_ : Nat), I64 0]) (by simp)) rfl rfl rfl rfl rfl rfl rfl) ?_
      repeat (first|refine sc rfl ?_|refine so rfl ?_|refine sb rfl ?_)
      first
        | exact ⟨_, [_], _, rfl, pickA_perm (is := [0]) (As := [_]) rfl, rfl, by unfold rdV; rw [if_neg (by decide), if_neg (by decide)], by unfold rdAt rdE; rw [if_neg (by decide), if_neg (by decide), if_neg (by decide)]; rfl⟩
        | exact ⟨_, [_], _, rfl, pickA_perm (is := [1]) (As := [_]) rfl, rfl, by unfold rdV; rw [if_neg (by decide), if_neg (by decide)], by unfold rdAt rdE; rw [if_neg (by decide), if_neg (by decide), if_neg (by decide)]; rfl⟩
        | exact ⟨_, [_], _, rfl, pickA_perm (is := [2]) (As := [_]) rfl, rfl, by unfold rdV; rw [if_neg (by decide), if_neg (by decide)], by unfold rdAt rdE; rw [if_neg (by decide), if_neg (by decide), if_neg (by decide)]; rfl⟩
        | exact ⟨_, [_], _, rfl, pickA_perm (is := [3]) (As := [_]) rfl, rfl, by unfold rdV; rw [if_neg (by decide), if_neg (by decide)], by unfold rdAt rdE; rw [if_neg (by decide), if_neg (by decide), if_neg (by decide)]; rfl⟩
        | exact ⟨_, [_], _, rfl, pickA_perm (is := [4]) (As := [_]) rfl, rfl, by unfold rdV; rw [if_neg (by decide), if_neg (by decide)], by unfold rdAt rdE; rw [if_neg (by decide), if_neg (by decide), if_neg (by decide)]; rfl⟩

theorem takeI_A (g : Nat) (b : List UInt8) (at_ : Nat) (e : Int) (fv : AV) (f : FuncId) (caps : List AV) (k : Nat) (e2 : Int) (x : Int) (hclo : IsClo fv f caps) (himm : fv.imm = true) (hat : at_ ≤ b.length) (hfv : fv = .p (cloRP f caps) ∨ ∃ v, fv = .v v)
    (hf : e = 0 → FnP Tryz.prog f ([.s (b.drop at_)] ++ caps) (· = .tup [I64 x, I64 (k : Nat), I64 e2])) (hk : e = 0 → e2 = 0 → at_ + k ≤ b.length) (hb : b.length ≤ 9223372036854775807) :
    FnA Tryz.prog 199 [PT g 0, fv] [rdr g b at_ e] (fun r cs' => r = I64 (rdV 0 x e e2) ∧ cs' = [rdr g b (rdAt at_ k e e2) (rdE e e2)]) := by
  rcases hfv with rfl | ⟨v, rfl⟩
  · refine FnA.intro Tryz.tabOK Tryz.wide_ Tryz.func199 rfl (by decide) rfl (fun X => ?_)
    repeat (first|refine sc rfl ?_|refine so rfl ?_|refine sb rfl ?_)
    refine O_Xd (X_ptrnil Tryz.underlying249 rfl rfl rfl) ?_
    repeat (first|refine sc rfl ?_|refine so rfl ?_|refine sb rfl ?_)
    first
      | refine O_loadP 0 (reads_box 2) rfl rfl rfl rfl rfl rfl ?_
      | refine O_loadP 1 (reads_box 2) rfl rfl rfl rfl rfl rfl ?_
      | refine O_loadP 2 (reads_box 2) rfl rfl rfl rfl rfl rfl ?_
      | refine O_loadP 3 (reads_box 2) rfl rfl rfl rfl rfl rfl ?_
      | refine O_loadP 4 (reads_box 2) rfl rfl rfl rfl rfl rfl ?_
    repeat (first|refine sc rfl ?_|refine so rfl ?_|refine sb rfl ?_)
    refine C_if rfl (fun h0 => ?_) (fun h0 => ?_) <;> simp only [pL] at h0
    · repeat (first|refine sc rfl ?_|refine so rfl ?_|refine sb rfl ?_)
      first
        | exact ⟨_, [_], _, rfl, pickA_perm (is := [0]) (As := [_]) rfl, rfl, by unfold rdV; rw [if_pos h0], by unfold rdAt rdE; rw [if_pos h0, if_pos h0]⟩
        | exact ⟨_, [_], _, rfl, pickA_perm (is := [1]) (As := [_]) rfl, rfl, by unfold rdV; rw [if_pos h0], by unfold rdAt rdE; rw [if_pos h0, if_pos h0]⟩
        | exact ⟨_, [_], _, rfl, pickA_perm (is := [2]) (As := [_]) rfl, rfl, by unfold rdV; rw [if_pos h0], by unfold rdAt rdE; rw [if_pos h0, if_pos h0]⟩
        | exact ⟨_, [_], _, rfl, pickA_perm (is := [3]) (As := [_]) rfl, rfl, by unfold rdV; rw [if_pos h0], by unfold rdAt rdE; rw [if_pos h0, if_pos h0]⟩
        | exact ⟨_, [_], _, rfl, pickA_perm (is := [4]) (As := [_]) rfl, rfl, by unfold rdV; rw [if_pos h0], by unfold rdAt rdE; rw [if_pos h0, if_pos h0]⟩
    subst h0
    repeat (first|refine sc rfl ?_|refine so rfl ?_|refine sb rfl ?_)
    refine C_drawD rfl (by kernel_rfl) ?_
    repeat (first|refine sd rfl ?_|refine sdb rfl ?_|refine sds rfl ?_)
    refine D_X (.s b) (X_loadP 0 (A := rdr g b at_ 0) (reads_box 0) rfl rfl rfl rfl rfl rfl) ?_
    repeat (first|refine sd rfl ?_|refine sdb rfl ?_|refine sds rfl ?_)
    refine D_X (I64 (at_ : Nat)) (X_loadP 0 (A := rdr g b at_ 0) (reads_box 1) rfl rfl rfl rfl rfl rfl) ?_
    repeat (first | refine sd rfl ?_ | refine ⟨by omega, ?_⟩)
    rw [Int.toNat_natCast]
    refine D_callV hclo himm (hf rfl) rfl rfl rfl rfl rfl ?_
    repeat (first|refine sd rfl ?_|refine sdb rfl ?_|refine sds rfl ?_)
    repeat (first|refine sc rfl ?_|refine so rfl ?_|refine sb rfl ?_)
    refine C_if rfl (fun h1 => ?_) (fun h1 => ?_) <;> simp only [pL] at h1
    · repeat (first|refine sc rfl ?_|refine so rfl ?_|refine sb rfl ?_)
      first
        | refine O_Xn (X_storeP 0 (writes_box (b := g) (t := 298) (cells := [.s b, I64 (at_ : Nat), I64 0]) (by simp)) rfl rfl rfl rfl rfl rfl rfl) ?_
        | refine O_Xn (X_storeP 1 (writes_box (b := g) (t := 298) (cells := [.s b, I64 (at_ : Nat), I64 0]) (by simp)) rfl rfl rfl rfl rfl rfl rfl) ?_
        | refine O_Xn (X_storeP 2 (writes_box (b := g) (t := 298) (cells := [.s b, I64 (at_ : Nat), I64 0]) (by simp)) rfl rfl rfl rfl rfl rfl rfl) ?_
        | refine O_Xn (X_storeP 3 (writes_box (b := g) (t := 298) (cells := [.s b, I64 (at_ : Nat), I64 0]) (by simp)) rfl rfl rfl rfl rfl rfl rfl) ?_
        | refine O_Xn (X_storeP 4 (writes_box (b := g) (t := 298) (cells := [.s b, I64 (at_ : Nat), I64 0]) (by simp)) rfl rfl rfl rfl rfl rfl rfl) ?_
      repeat (first|refine sc rfl ?_|refine so rfl ?_|refine sb rfl ?_)
      first
        | exact ⟨_, [_], _, rfl, pickA_perm (is := [0]) (As := [_]) rfl, rfl, by unfold rdV; rw [if_neg (by decide), if_pos h1], by unfold rdAt rdE; rw [if_neg (by decide), if_pos h1, if_neg (by decide)]; rfl⟩
        | exact ⟨_, [_], _, rfl, pickA_perm (is := [1]) (As := [_]) rfl, rfl, by unfold rdV; rw [if_neg (by decide), if_pos h1], by unfold rdAt rdE; rw [if_neg (by decide), if_pos h1, if_neg (by decide)]; rfl⟩
        | exact ⟨_, [_], _, rfl, pickA_perm (is := [2]) (As := [_]) rfl, rfl, by unfold rdV; rw [if_neg (by decide), if_pos h1], by unfold rdAt rdE; rw [if_neg (by decide), if_pos h1, if_neg (by decide)]; rfl⟩
        | exact ⟨_, [_], _, rfl, pickA_perm (is := [3]) (As := [_]) rfl, rfl, by unfold rdV; rw [if_neg (by decide), if_pos h1], by unfold rdAt rdE; rw [if_neg (by decide), if_pos h1, if_neg (by decide)]; rfl⟩
        | exact ⟨_, [_], _, rfl, pickA_perm (is := [4]) (As := [_]) rfl, rfl, by unfold rdV; rw [if_neg (by decide), if_pos h1], by unfold rdAt rdE; rw [if_neg (by decide), if_pos h1, if_neg (by decide)]; rfl⟩
    · subst h1
      have hk' := hk rfl rfl
      repeat (first|refine sc rfl ?_|refine so rfl ?_|refine sb rfl ?_)
      first
        | refine O_loadP 0 (reads_box 1) rfl rfl rfl rfl rfl rfl ?_
        | refine O_loadP 1 (reads_box 1) rfl rfl rfl rfl rfl rfl ?_
        | refine O_loadP 2 (reads_box 1) rfl rfl rfl rfl rfl rfl ?_
        | refine O_loadP 3 (reads_box 1) rfl rfl rfl rfl rfl rfl ?_
        | refine O_loadP 4 (reads_box 1) rfl rfl rfl rfl rfl rfl ?_
      repeat (first|refine sc rfl ?_|refine so rfl ?_|refine sb rfl ?_)
      rw [w64 (x := (at_ : Int) + (k : Int)) (by omega) (by omega)]
      first
        | refine O_Xn (X_storeP 0 (writes_box (b := g) (t := 298) (cells := [.s b, I64 (at_ : Nat), I64 0]) (by simp)) rfl rfl rfl rfl rfl rfl rfl) ?_
        | refine O_Xn (X_storeP 1 (writes_box (b := g) (t := 298) (cells := [.s b, I64 (at_ : Nat), I64 0]) (by simp)) rfl rfl rfl rfl rfl rfl rfl) ?_
        | refine O_Xn (X_storeP 2 (writes_box (b := g) (t := 298) (cells := [.s b, I64 (at_ : Nat), I64 0]) (by simp)) rfl rfl rfl rfl rfl rfl rfl) ?_
        | refine O_Xn (X_storeP 3 (writes_box (b := g) (t := 298) (cells := [.s b, I64 (at_ : Nat), I64 0]) (by simp)) rfl rfl rfl rfl rfl rfl rfl) ?_
        | refine O_Xn (X_storeP 4 (writes_box (b := g) (t := 298) (cells := [.s b, I64 (at_ : Nat), I64 0]) (by simp)) rfl rfl rfl rfl rfl rfl rfl) ?_
      repeat (first|refine sc rfl ?_|refine so rfl ?_|refine sb rfl ?_)
      first
        | exact ⟨_, [_], _, rfl, pickA_perm (is := [0]) (As := [_]) rfl, rfl, by unfold rdV; rw [if_neg (by decide), if_neg (by decide)], by unfold rdAt rdE; rw [if_neg (by decide), if_neg (by decide), if_neg (by decide)]; rfl⟩
        | exact ⟨_, [_], _, rfl, pickA_perm (is := [1]) (As := [_]) rfl, rfl, by unfold rdV; rw [if_neg (by decide), if_neg (by decide)], by unfold rdAt rdE; rw [if_neg (by decide), if_neg (by decide), if_neg (by decide)]; rfl⟩
        | exact ⟨_, [_], _, rfl, pickA_perm (is := [2]) (As := [_]) rfl, rfl, by unfold rdV; rw [if_neg (by decide), if_neg (by decide)], by unfold rdAt rdE; rw [if_neg (by decide), if_neg (by decide), if_neg (by decide)]; rfl⟩
        | exact ⟨_, [_], _, rfl, pickA_perm (is := [3]) (As := [_]) rfl, rfl, by unfold rdV; rw [if_neg (by decide), if_neg (by decide)], by unfold rdAt rdE; rw [if_neg (by decide), if_neg (by decide), if_neg (by decide)]; rfl⟩
        | exact ⟨_, [_], _, rfl, pickA_perm (is := [4]) (As := [_]) rfl, rfl, by unfold rdV; rw [if_neg (by decide), if_neg (by decide)], by unfold rdAt rdE; rw [if_neg (by decide), if_neg (by decide), if_neg (by decide)]; rfl⟩
  · refine FnA.intro Tryz.tabOK Tryz.wide_ Tryz.func199 rfl (by decide) rfl (fun X => ?_)
    repeat (first|refine sc rfl ?_|refine so rfl ?_|refine sb rfl ?_)
    refine O_Xd (X_ptrnil Tryz.underlying249 rfl rfl rfl) ?_
    repeat (first|refine sc rfl ?_|refine so rfl ?_|refine sb rfl ?_)
    first
      | refine O_loadP 0 (reads_box 2) rfl rfl rfl rfl rfl rfl ?_
      | refine O_loadP 1 (reads_box 2) rfl rfl rfl rfl rfl rfl ?_
      | refine O_loadP 2 (reads_box 2) rfl rfl rfl rfl rfl rfl ?_
      | refine O_loadP 3 (reads_box 2) rfl rfl rfl rfl rfl rfl ?_
      | refine O_loadP 4 (reads_box 2) rfl rfl rfl rfl rfl rfl ?_
    repeat (first|refine sc rfl ?_|refine so rfl ?_|refine sb rfl ?_)
    refine C_if rfl (fun h0 => ?_) (fun h0 => ?_) <;> simp only [pL] at h0
    · repeat (first|refine sc rfl ?_|refine so rfl ?_|refine sb rfl ?_)
      first
        | exact ⟨_, [_], _, rfl, pickA_perm (is := [0]) (As := [_]) rfl, rfl, by unfold rdV; rw [if_pos h0], by unfold rdAt rdE; rw [if_pos h0, if_pos h0]⟩
        | exact ⟨_, [_], _, rfl, pickA_perm (is := [1]) (As := [_]) rfl, rfl, by unfold rdV; rw [if_pos h0], by unfold rdAt rdE; rw [if_pos h0, if_pos h0]⟩
        | exact ⟨_, [_], _, rfl, pickA_perm (is := [2]) (As := [_]) rfl, rfl, by unfold rdV; rw [if_pos h0], by unfold rdAt rdE; rw [if_pos h0, if_pos h0]⟩
        | exact ⟨_, [_], _, rfl, pickA_perm (is := [3]) (As := [_]) rfl, rfl, by unfold rdV; rw [if_pos h0], by unfold rdAt rdE; rw [if_pos h0, if_pos h0]⟩
        | exact ⟨_, [_], _, rfl, pickA_perm (is := [4]) (As := [_]) rfl, rfl, by unfold rdV; rw [if_pos h0], by unfold rdAt rdE; rw [if_pos h0, if_pos h0]⟩
    subst h0
    repeat (first|refine sc rfl ?_|refine so rfl ?_|refine sb rfl ?_)
    refine C_drawD rfl (by kernel_rfl) ?_
    repeat (first|refine sd rfl ?_|refine sdb rfl ?_|refine sds rfl ?_)
    refine D_X (.s b) (X_loadP 0 (A := rdr g b at_ 0) (reads_box 0) rfl rfl rfl rfl rfl rfl) ?_
    repeat (first|refine sd rfl ?_|refine sdb rfl ?_|refine sds rfl ?_)
    refine D_X (I64 (at_ : Nat)) (X_loadP 0 (A := rdr g b at_ 0) (reads_box 1) rfl rfl rfl rfl rfl rfl) ?_
    repeat (first | refine sd rfl ?_ | refine ⟨by omega, ?_⟩)
    rw [Int.toNat_natCast]
    refine D_callV hclo himm (hf rfl) rfl rfl rfl rfl rfl ?_
    repeat (first|refine sd rfl ?_|refine sdb rfl ?_|refine sds rfl ?_)
    repeat (first|refine sc rfl ?_|refine so rfl ?_|refine sb rfl ?_)
    refine C_if rfl (fun h1 => ?_) (fun h1 => ?_) <;> simp only [pL] at h1
    · repeat (first|refine sc rfl ?_|refine so rfl ?_|refine sb rfl ?_)
      first
        | refine O_Xn (X_storeP 0 (writes_box (b := g) (t := 298) (cells := [.s b, I64 (at_ : Nat), I64 0]) (by simp)) rfl rfl rfl rfl rfl rfl rfl) ?_
        | refine O_Xn (X_storeP 1 (writes_box (b := g) (t := 298) (cells := [.s b, I64 (at_ : Nat), I64 0]) (by simp)) rfl rfl rfl rfl rfl rfl rfl) ?_
        | refine O_Xn (X_storeP 2 (writes_box (b := g) (t := 298) (cells := [.s b, I64 (at_ : Nat), I64 0]) (by simp)) rfl rfl rfl rfl rfl rfl rfl) ?_
        | refine O_Xn (X_storeP 3 (writes_box (b := g) (t := 298) (cells := [.s b, I64 (at_ : Nat), I64 0]) (by simp)) rfl rfl rfl rfl rfl rfl rfl) ?_
        | refine O_Xn (X_storeP 4 (writes_box (b := g) (t := 298) (cells := [.s b, I64 (at_ : Nat), I64 0]) (by simp)) rfl rfl rfl rfl rfl rfl rfl) ?_
      repeat (first|refine sc rfl ?_|refine so rfl ?_|refine sb rfl ?_)
      first
        | exact ⟨_, [_], _, rfl, pickA_perm (is := [0]) (As := [_]) rfl, rfl, by unfold rdV; rw [if_neg (by decide), if_pos h1], by unfold rdAt rdE; rw [if_neg (by decide), if_pos h1, if_neg (by decide)]; rfl⟩
        | exact ⟨_, [_], _, rfl, pickA_perm (is := [1]) (As := [_]) rfl, rfl, by unfold rdV; rw [if_neg (by decide), if_pos h1], by unfold rdAt rdE; rw [if_neg (by decide), if_pos h1, if_neg (by decide)]; rfl⟩
        | exact ⟨_, [_], _, rfl, pickA_perm (is := [2]) (As := [_]) rfl, rfl, by unfold rdV; rw [if_neg (by decide), if_pos h1], by unfold rdAt rdE; rw [if_neg (by decide), if_pos h1, if_neg (by decide)]; rfl⟩
        | exact ⟨_, [_], _, rfl, pickA_perm (is := [3]) (As := [_]) rfl, rfl, by unfold rdV; rw [if_neg (by decide), if_pos h1], by unfold rdAt rdE; rw [if_neg (by decide), if_pos h1, if_neg (by decide)]; rfl⟩
        | exact ⟨_, [_], _, rfl, pickA_perm (is := [4]) (As := [_]) rfl, rfl, by unfold rdV; rw [if_neg (by decide), if_pos h1], by unfold rdAt rdE; rw [if_neg (by decide), if_pos h1, if_neg (by decide)]; rfl⟩
    · subst h1
      have hk' := hk rfl rfl
      repeat (first|refine sc rfl ?_|refine so rfl ?_|refine sb rfl ?_)
      first
        | refine O_loadP 0 (reads_box 1) rfl rfl rfl rfl rfl rfl ?_
        | refine O_loadP 1 (reads_box 1) rfl rfl rfl rfl rfl rfl ?_
        | refine O_loadP 2 (reads_box 1) rfl rfl rfl rfl rfl rfl ?_
        | refine O_loadP 3 (reads_box 1) rfl rfl rfl rfl rfl rfl ?_
        | refine O_loadP 4 (reads_box 1) rfl rfl rfl rfl rfl rfl ?_
      repeat (first|refine sc rfl ?_|refine so rfl ?_|refine sb rfl ?_)
      rw [w64 (x := (at_ : Int) + (k : Int)) (by omega) (by omega)]
      first
        | refine O_Xn (X_storeP 0 (writes_box (b := g) (t := 298) (cells := [.s b, I64 (at_ : Nat), I64 0]) (by simp)) rfl rfl rfl rfl rfl rfl rfl) ?_
        | refine O_Xn (X_storeP 1 (writes_box (b := g) (t := 298) (cells := [.s b, I64 (at_ : Nat), I64 0]) (by simp)) rfl rfl rfl rfl rfl rfl rfl) ?_
        | refine O_Xn (X_storeP 2 (writes_box (b := g) (t := 298) (cells := [.s b, I64 (at_ : Nat), I64 0]) (by simp)) rfl rfl rfl rfl rfl rfl rfl) ?_
        | refine O_Xn (X_storeP 3 (writes_box (b := g) (t := 298) (cells := [.s b, I64 (at_ : Nat), I64 0]) (by simp)) rfl rfl rfl rfl rfl rfl rfl) ?_
        | refine O_Xn (X_storeP 4 (writes_box (b := g) (t := 298) (cells := [.s b, I64 (at_ : Nat), I64 0]) (by simp)) rfl rfl rfl rfl rfl rfl rfl) ?_
      repeat (first|refine sc rfl ?_|refine so rfl ?_|refine sb rfl ?_)
      first
        | exact ⟨_, [_], _, rfl, pickA_perm (is := [0]) (As := [_]) rfl, rfl, by unfold rdV; rw [if_neg (by decide), if_neg (by decide)], by unfold rdAt rdE; rw [if_neg (by decide), if_neg (by decide), if_neg (by decide)]; rfl⟩
        | exact ⟨_, [_], _, rfl, pickA_perm (is := [1]) (As := [_]) rfl, rfl, by unfold rdV; rw [if_neg (by decide), if_neg (by decide)], by unfold rdAt rdE; rw [if_neg (by decide), if_neg (by decide), if_neg (by decide)]; rfl⟩
        | exact ⟨_, [_], _, rfl, pickA_perm (is := [2]) (As := [_]) rfl, rfl, by unfold rdV; rw [if_neg (by decide), if_neg (by decide)], by unfold rdAt rdE; rw [if_neg (by decide), if_neg (by decide), if_neg (by decide)]; rfl⟩
        | exact ⟨_, [_], _, rfl, pickA_perm (is := [3]) (As := [_]) rfl, rfl, by unfold rdV; rw [if_neg (by decide), if_neg (by decide)], by unfold rdAt rdE; rw [if_neg (by decide), if_neg (by decide), if_neg (by decide)]; rfl⟩
        | exact ⟨_, [_], _, rfl, pickA_perm (is := [4]) (As := [_]) rfl, rfl, by unfold rdV; rw [if_neg (by decide), if_neg (by decide)], by unfold rdAt rdE; rw [if_neg (by decide), if_neg (by decide), if_neg (by decide)]; rfl⟩

theorem takeS_A (g : Nat) (b : List UInt8) (at_ : Nat) (e : Int) (fv : AV) (f : FuncId) (caps : List AV) (k : Nat) (e2 : Int) (x : List UInt8) (hclo : IsClo fv f caps) (himm : fv.imm = true) (hat : at_ ≤ b.length) (hfv : fv = .p (cloRP f caps) ∨ ∃ v, fv = .v v)
    (hf : e = 0 → FnP Tryz.prog f ([.s (b.drop at_)] ++ caps) (· = .tup [.s x, I64 (k : Nat), I64 e2])) (hk : e = 0 → e2 = 0 → at_ + k ≤ b.length) (hb : b.length ≤ 9223372036854775807) :
    FnA Tryz.prog 203 [PT g 0, fv] [rdr g b at_ e] (fun r cs' => r = .s (rdV [] x e e2) ∧ cs' = [rdr g b (rdAt at_ k e e2) (rdE e e2)]) := by
  rcases hfv with rfl | ⟨v, rfl⟩
  · refine FnA.intro Tryz.tabOK Tryz.wide_ Tryz.func203 rfl (by decide) rfl (fun X => ?_)
    repeat (first|refine sc rfl ?_|refine so rfl ?_|refine sb rfl ?_)
    refine O_Xd (X_ptrnil Tryz.underlying249 rfl rfl rfl) ?_
    repeat (first|refine sc rfl ?_|refine so rfl ?_|refine sb rfl ?_)
    first
      | refine O_loadP 0 (reads_box 2) rfl rfl rfl rfl rfl rfl ?_
      | refine O_loadP 1 (reads_box 2) rfl rfl rfl rfl rfl rfl ?_
      | refine O_loadP 2 (reads_box 2) rfl rfl rfl rfl rfl rfl ?_
      | refine O_loadP 3 (reads_box 2) rfl rfl rfl rfl rfl rfl ?_
      | refine O_loadP 4 (reads_box 2) rfl rfl rfl rfl rfl rfl ?_
    repeat (first|refine sc rfl ?_|refine so rfl ?_|refine sb rfl ?_)
    refine C_if rfl (fun h0 => ?_) (fun h0 => ?_) <;> simp only [pL] at h0
    · repeat (first|refine sc rfl ?_|refine so rfl ?_|refine sb rfl ?_)
      first
        | exact ⟨_, [_], _, rfl, pickA_perm (is := [0]) (As := [_]) rfl, rfl, by unfold rdV; rw [if_pos h0], by unfold rdAt rdE; rw [if_pos h0, if_pos h0]⟩
        | exact ⟨_, [_], _, rfl, pickA_perm (is := [1]) (As := [_]) rfl, rfl, by unfold rdV; rw [if_pos h0], by unfold rdAt rdE; rw [if_pos h0, if_pos h0]⟩
        | exact ⟨_, [_], _, rfl, pickA_perm (is := [2]) (As := [_]) rfl, rfl, by unfold rdV; rw [if_pos h0], by unfold rdAt rdE; rw [if_pos h0, if_pos h0]⟩
        | exact ⟨_, [_], _, rfl, pickA_perm (is := [3]) (As := [_]) rfl, rfl, by unfold rdV; rw [if_pos h0], by unfold rdAt rdE; rw [if_pos h0, if_pos h0]⟩
        | exact ⟨_, [_], _, rfl, pickA_perm (is := [4]) (As := [_]) rfl, rfl, by unfold rdV; rw [if_pos h0], by unfold rdAt rdE; rw [if_pos h0, if_pos h0]⟩
    subst h0
    repeat (first|refine sc rfl ?_|refine so rfl ?_|refine sb rfl ?_)
    refine C_drawD rfl (by kernel_rfl) ?_
    repeat (first|refine sd rfl ?_|refine sdb rfl ?_|refine sds rfl ?_)
    refine D_X (.s b) (X_loadP 0 (A := rdr g b at_ 0) (reads_box 0) rfl rfl rfl rfl rfl rfl) ?_
    repeat (first|refine sd rfl ?_|refine sdb rfl ?_|refine sds rfl ?_)
    refine D_X (I64 (at_ : Nat)) (X_loadP 0 (A := rdr g b at_ 0) (reads_box 1) rfl rfl rfl rfl rfl rfl) ?_
    repeat (first | refine sd rfl ?_ | refine ⟨by omega, ?_⟩)
    rw [Int.toNat_natCast]
    refine D_callV hclo himm (hf rfl) rfl rfl rfl rfl rfl ?_
    repeat (first|refine sd rfl ?_|refine sdb rfl ?_|refine sds rfl ?_)
    repeat (first|refine sc rfl ?_|refine so rfl ?_|refine sb rfl ?_)
    refine C_if rfl (fun h1 => ?_) (fun h1 => ?_) <;> simp only [pL] at h1
    · repeat (first|refine sc rfl ?_|refine so rfl ?_|refine sb rfl ?_)
      first
        | refine O_Xn (X_storeP 0 (writes_box (b := g) (t := 298) (cells := [.s b, I64 (at_ : Nat), I64 0]) (by simp)) rfl rfl rfl rfl rfl rfl rfl) ?_
        | refine O_Xn (X_storeP 1 (writes_box (b := g) (t := 298) (cells := [.s b, I64 (at_ : Nat), I64 0]) (by simp)) rfl rfl rfl rfl rfl rfl rfl) ?_
        | refine O_Xn (X_storeP 2 (writes_box (b := g) (t := 298) (cells := [.s b, I64 (at_ : Nat), I64 0]) (by simp)) rfl rfl rfl rfl rfl rfl rfl) ?_
        | refine O_Xn (X_storeP 3 (writes_box (b := g) (t := 298) (cells := [.s b, I64 (at_ : Nat), I64 0]) (by simp)) rfl rfl rfl rfl rfl rfl rfl) ?_
        | refine O_Xn (X_storeP 4 (writes_box (b := g) (t := 298) (cells := [.s b, I64 (at_ : Nat), I64 0]) (by simp)) rfl rfl rfl rfl rfl rfl rfl) ?_
      repeat (first|refine sc rfl ?_|refine so rfl ?_|refine sb rfl ?_)
      first
        | exact ⟨_, [_], _, rfl, pickA_perm (is := [0]) (As := [_]) rfl, rfl, by unfold rdV; rw [if_neg (by decide), if_pos h1], by unfold rdAt rdE; rw [if_neg (by decide), if_pos h1, if_neg (by decide)]; rfl⟩
        | exact ⟨_, [_], _, rfl, pickA_perm (is := [1]) (As := [_]) rfl, rfl, by unfold rdV; rw [if_neg (by decide), if_pos h1], by unfold rdAt rdE; rw [if_neg (by decide), if_pos h1, if_neg (by decide)]; rfl⟩
        | exact ⟨_, [_], _, rfl, pickA_perm (is := [2]) (As := [_]) rfl, rfl, by unfold rdV; rw [if_neg (by decide), if_pos h1], by unfold rdAt rdE; rw [if_neg (by decide), if_pos h1, if_neg (by decide)]; rfl⟩
        | exact ⟨_, [_], _, rfl, pickA_perm (is := [3]) (As := [_]) rfl, rfl, by unfold rdV; rw [if_neg (by decide), if_pos h1], by unfold rdAt rdE; rw [if_neg (by decide), if_pos h1, if_neg (by decide)]; rfl⟩
        | exact ⟨_, [_], _, rfl, pickA_perm (is := [4]) (As := [_]) rfl, rfl, by unfold rdV; rw [if_neg (by decide), if_pos h1], by unfold rdAt rdE; rw [if_neg (by decide), if_pos h1, if_neg (by decide)]; rfl⟩
    · subst h1
      have hk' := hk rfl rfl
      repeat (first|refine sc rfl ?_|refine so rfl ?_|refine sb rfl ?_)
      first
        | refine O_loadP 0 (reads_box 1) rfl rfl rfl rfl rfl rfl ?_
        | refine O_loadP 1 (reads_box 1) rfl rfl rfl rfl rfl rfl ?_
        | refine O_loadP 2 (reads_box 1) rfl rfl rfl rfl rfl rfl ?_
        | refine O_loadP 3 (reads_box 1) rfl rfl rfl rfl rfl rfl ?_
        | refine O_loadP 4 (reads_box 1) rfl rfl rfl rfl rfl rfl ?_
      repeat (first|refine sc rfl ?_|refine so rfl ?_|refine sb rfl ?_)
      rw [w64 (x := (at_ : Int) + (k : Int)) (by omega) (by omega)]
      first
        | refine O_Xn (X_storeP 0 (writes_box (b := g) (t := 298) (cells := [.s b, I64 (at_ : Nat), I64 0]) (by simp)) rfl rfl rfl rfl rfl rfl rfl) ?_
        | refine O_Xn (X_storeP 1 (writes_box (b := g) (t := 298) (cells := [.s b, I64 (at_ : Nat), I64 0]) (by simp)) rfl rfl rfl rfl rfl rfl rfl) ?_
        | refine O_Xn (X_storeP 2 (writes_box (b := g) (t := 298) (cells := [.s b, I64 (at_ : Nat), I64 0]) (by simp)) rfl rfl rfl rfl rfl rfl rfl) ?_
        | refine O_Xn (X_storeP 3 (writes_box (b := g) (t := 298) (cells := [.s b, I64 (at_ : Nat), I64 0]) (by simp)) rfl rfl rfl rfl rfl rfl rfl) ?_
        | refine O_Xn (X_storeP 4 (writes_box (b := g) (t := 298) (cells := [.s b, I64 (at_ : Nat), I64 0]) (by simp)) rfl rfl rfl rfl rfl rfl rfl) ?_
      repeat (first|refine sc rfl ?_|refine so rfl ?_|refine sb rfl ?_)
      first
        | exact ⟨_, [_], _, rfl, pickA_perm (is := [0]) (As := [_]) rfl, rfl, by unfold rdV; rw [if_neg (by decide), if_neg (by decide)], by unfold rdAt rdE; rw [if_neg (by decide), if_neg (by decide), if_neg (by decide)]; rfl⟩
        | exact ⟨_, [_], _, rfl, pickA_perm (is := [1]) (As := [_]) rfl, rfl, by unfold rdV; rw [if_neg (by decide), if_neg (by decide)], by unfold rdAt rdE; rw [if_neg (by decide), if_neg (by decide), if_neg (by decide)]; rfl⟩
        | exact ⟨_, [_], _, rfl, pickA_perm (is := [2]) (As := [_]) rfl, rfl, by unfold rdV; rw [if_neg (by decide), if_neg (by decide)], by unfold rdAt rdE; rw [if_neg (by decide), if_neg (by decide), if_neg (by decide)]; rfl⟩
        | exact ⟨_, [_], _, rfl, pickA_perm (is := [3]) (As := [_]) rfl, rfl, by unfold rdV; rw [if_neg (by decide), if_neg (by decide)], by unfold rdAt rdE; rw [if_neg (by decide), if_neg (by decide), if_neg (by decide)]; rfl⟩
        | exact ⟨_, [_], _, rfl, pickA_perm (is := [4]) (As := [_]) rfl, rfl, by unfold rdV; rw [if_neg (by decide), if_neg (by decide)], by unfold rdAt rdE; rw [if_neg (by decide), if_neg (by decide), if_neg (by decide)]; rfl⟩
  · refine FnA.intro Tryz.tabOK Tryz.wide_ Tryz.func203 rfl (by decide) rfl (fun X => ?_)
    repeat (first|refine sc rfl ?_|refine so rfl ?_|refine sb rfl ?_)
    refine O_Xd (X_ptrnil Tryz.underlying249 rfl rfl rfl) ?_
    repeat (first|refine sc rfl ?_|refine so rfl ?_|refine sb rfl ?_)
    first
      | refine O_loadP 0 (reads_box 2) rfl rfl rfl rfl rfl rfl ?_
      | refine O_loadP 1 (reads_box 2) rfl rfl rfl rfl rfl rfl ?_
      | refine O_loadP 2 (reads_box 2) rfl rfl rfl rfl rfl rfl ?_
      | refine O_loadP 3 (reads_box 2) rfl rfl rfl rfl rfl rfl ?_
      | refine O_loadP 4 (reads_box 2) rfl rfl rfl rfl rfl rfl ?_
    repeat (first|refine sc rfl ?_|refine so rfl ?_|refine sb rfl ?_)
    refine C_if rfl (fun h0 => ?_) (fun h0 => ?_) <;> simp only [pL] at h0
    · repeat (first|refine sc rfl ?_|refine so rfl ?_|refine sb rfl ?_)
      first
        | exact ⟨_, [_], _, rfl, pickA_perm (is := [0]) (As := [_]) rfl, rfl, by unfold rdV; rw [if_pos h0], by unfold rdAt rdE; rw [if_pos h0, if_pos h0]⟩
        | exact ⟨_, [_], _, rfl, pickA_perm (is := [1]) (As := [_]) rfl, rfl, by unfold rdV; rw [if_pos h0], by unfold rdAt rdE; rw [if_pos h0, if_pos h0]⟩
        | exact ⟨_, [_], _, rfl, pickA_perm (is := [2]) (As := [_]) rfl, rfl, by unfold rdV; rw [if_pos h0], by unfold rdAt rdE; rw [if_pos h0, if_pos h0]⟩
        | exact ⟨_, [_], _, rfl, pickA_perm (is := [3]) (As := [_]) rfl, rfl, by unfold rdV; rw [if_pos h0], by unfold rdAt rdE; rw [if_pos h0, if_pos h0]⟩
        | exact ⟨_, [_], _, rfl, pickA_perm (is := [4]) (As := [_]) rfl, rfl, by unfold rdV; rw [if_pos h0], by unfold rdAt rdE; rw [if_pos h0, if_pos h0]⟩
    subst h0
    repeat (first|refine sc rfl ?_|refine so rfl ?_|refine sb rfl ?_)
    refine C_drawD rfl (by kernel_rfl) ?_
    repeat (first|refine sd rfl ?_|refine sdb rfl ?_|refine sds rfl ?_)
    refine D_X (.s b) (X_loadP 0 (A := rdr g b at_ 0) (reads_box 0) rfl rfl rfl rfl rfl rfl) ?_
    repeat (first|refine sd rfl ?_|refine sdb rfl ?_|refine sds rfl ?_)
    refine D_X (I64 (at_ : Nat)) (X_loadP 0 (A := rdr g b at_ 0) (reads_box 1) rfl rfl rfl rfl rfl rfl) ?_
    repeat (first | refine sd rfl ?_ | refine ⟨by omega, ?_⟩)
    rw [Int.toNat_natCast]
    refine D_callV hclo himm (hf rfl) rfl rfl rfl rfl rfl ?_
    repeat (first|refine sd rfl ?_|refine sdb rfl ?_|refine sds rfl ?_)
    repeat (first|refine sc rfl ?_|refine so rfl ?_|refine sb rfl ?_)
    refine C_if rfl (fun h1 => ?_) (fun h1 => ?_) <;> simp only [pL] at h1
    · repeat (first|refine sc rfl ?_|refine so rfl ?_|refine sb rfl ?_)
      first
        | refine O_Xn (X_storeP 0 (writes_box (b := g) (t := 298) (cells := [.s b, I64 (at_ : Nat), I64 0]) (by simp)) rfl rfl rfl rfl rfl rfl rfl) ?_
        | refine O_Xn (X_storeP 1 (writes_box (b := g) (t := 298) (cells := [.s b, I64 (at_ : Nat), I64 0]) (by simp)) rfl rfl rfl rfl rfl rfl rfl) ?_
        | refine O_Xn (X_storeP 2 (writes_box (b := g) (t := 298) (cells := [.s b, I64 (at_ : Nat), I64 0]) (by simp)) rfl rfl rfl rfl rfl rfl rfl) ?_
        | refine O_Xn (X_storeP 3 (writes_box (b := g) (t := 298) (cells := [.s b, I64 (at_ : Nat), I64 0]) (by simp)) rfl rfl rfl rfl rfl rfl rfl) ?_
        | refine O_Xn (X_storeP 4 (writes_box (b := g) (t := 298) (cells := [.s b, I64 (at_ : Nat), I64 0]) (by simp)) rfl rfl rfl rfl rfl rfl rfl) ?_
      repeat (first|refine sc rfl ?_|refine so rfl ?_|refine sb rfl ?_)
      first
        | exact ⟨_, [_], _, rfl, pickA_perm (is := [0]) (As := [_]) rfl, rfl, by unfold rdV; rw [if_neg (by decide), if_pos h1], by unfold rdAt rdE; rw [if_neg (by decide), if_pos h1, if_neg (by decide)]; rfl⟩
        | exact ⟨_, [_], _, rfl, pickA_perm (is := [1]) (As := [_]) rfl, rfl, by unfold rdV; rw [if_neg (by decide), if_pos h1], by unfold rdAt rdE; rw [if_neg (by decide), if_pos h1, if_neg (by decide)]; rfl⟩
        | exact ⟨_, [_], _, rfl, pickA_perm (is := [2]) (As := [_]) rfl, rfl, by unfold rdV; rw [if_neg (by decide), if_pos h1], by unfold rdAt rdE; rw [if_neg (by decide), if_pos h1, if_neg (by decide)]; rfl⟩
        | exact ⟨_, [_], _, rfl, pickA_perm (is := [3]) (As := [_]) rfl, rfl, by unfold rdV; rw [if_neg (by decide), if_pos h1], by unfold rdAt rdE; rw [if_neg (by decide), if_pos h1, if_neg (by decide)]; rfl⟩
        | exact ⟨_, [_], _, rfl, pickA_perm (is := [4]) (As := [_]) rfl, rfl, by unfold rdV; rw [if_neg (by decide), if_pos h1], by unfold rdAt rdE; rw [if_neg (by decide), if_pos h1, if_neg (by decide)]; rfl⟩
    · subst h1
      have hk' := hk rfl rfl
      repeat (first|refine sc rfl ?_|refine so rfl ?_|refine sb rfl ?_)
      first
        | refine O_loadP 0 (reads_box 1) rfl rfl rfl rfl rfl rfl ?_
        | refine O_loadP 1 (reads_box 1) rfl rfl rfl rfl rfl rfl ?_
        | refine O_loadP 2 (reads_box 1) rfl rfl rfl rfl rfl rfl ?_
        | refine O_loadP 3 (reads_box 1) rfl rfl rfl rfl rfl rfl ?_
        | refine O_loadP 4 (reads_box 1) rfl rfl rfl rfl rfl rfl ?_
      repeat (first|refine sc rfl ?_|refine so rfl ?_|refine sb rfl ?_)
      rw [w64 (x := (at_ : Int) + (k : Int)) (by omega) (by omega)]
      first
        | refine O_Xn (X_storeP 0 (writes_box (b := g) (t := 298) (cells := [.s b, I64 (at_ : Nat), I64 0]) (by simp)) rfl rfl rfl rfl rfl rfl rfl) ?_
        | refine O_Xn (X_storeP 1 (writes_box (b := g) (t := 298) (cells := [.s b, I64 (at_ : Nat), I64 0]) (by simp)) rfl rfl rfl rfl rfl rfl rfl) ?_
        | refine O_Xn (X_storeP 2 (writes_box (b := g) (t := 298) (cells := [.s b, I64 (at_ : Nat), I64 0]) (by simp)) rfl rfl rfl rfl rfl rfl rfl) ?_
        | refine O_Xn (X_storeP 3 (writes_box (b := g) (t := 298) (cells := [.s b, I64 (at_ : Nat), I64 0]) (by simp)) rfl rfl rfl rfl rfl rfl rfl) ?_
        | refine O_Xn (X_storeP 4 (writes_box (b := g) (t := 298) (cells := [.s b, I64 (at_ : Nat), I64 0]) (by simp)) rfl rfl rfl rfl rfl rfl rfl) ?_
      repeat (first|refine sc rfl ?_|refine so rfl ?_|refine sb rfl ?_)
      first
        | exact ⟨_, [_], _, rfl, pickA_perm (is := [0]) (As := [_]) rfl, rfl, by unfold rdV; rw [if_neg (by decide), if_neg (by decide)], by unfold rdAt rdE; rw [if_neg (by decide), if_neg (by decide), if_neg (by decide)]; rfl⟩
        | exact ⟨_, [_], _, rfl, pickA_perm (is := [1]) (As := [_]) rfl, rfl, by unfold rdV; rw [if_neg (by decide), if_neg (by decide)], by unfold rdAt rdE; rw [if_neg (by decide), if_neg (by decide), if_neg (by decide)]; rfl⟩
        | exact ⟨_, [_], _, rfl, pickA_perm (is := [2]) (As := [_]) rfl, rfl, by unfold rdV; rw [if_neg (by decide), if_neg (by decide)], by unfold rdAt rdE; rw [if_neg (by decide), if_neg (by decide), if_neg (by decide)]; rfl⟩
        | exact ⟨_, [_], _, rfl, pickA_perm (is := [3]) (As := [_]) rfl, rfl, by unfold rdV; rw [if_neg (by decide), if_neg (by decide)], by unfold rdAt rdE; rw [if_neg (by decide), if_neg (by decide), if_neg (by decide)]; rfl⟩
        | exact ⟨_, [_], _, rfl, pickA_perm (is := [4]) (As := [_]) rfl, rfl, by unfold rdV; rw [if_neg (by decide), if_neg (by decide)], by unfold rdAt rdE; rw [if_neg (by decide), if_neg (by decide), if_neg (by decide)]; rfl⟩
end Go.Proofs

namespace Go.Proofs
open Go.Sy Go.Lib

def intT (m : Nat) (l : List UInt8) : Int × Nat × Int := (IntKind.i64.wrap ((tk l).1 : Nat), (tk l).2.1, if (tk l).2.2 = 0 ∧ m < (tk l).1 then 3 else (tk l).2.2)

theorem IntF_p (m : Nat) (hm : m ≤ 9223372036854775807) (l : List UInt8) (hl : l.length ≤ 9223372036854775807) : FnP Tryz.prog 200 [.s l, .cp [I64 (m : Nat)]]
    (· = .tup [I64 (intT m l).1, I64 (((intT m l).2.1 : Nat) : Int), I64 (intT m l).2.2]) := by
  refine FnP.intro Tryz.tabOK Tryz.wide_ Tryz.func200 rfl (by decide) rfl (fun X => ?_)
  unfold intT
  repeat (first|refine sc rfl ?_|refine so rfl ?_|refine sb rfl ?_)
  refine O_call (vTake_p l hl) (by rfl) (by rfl) (by rfl) (by rfl) (fun r hr => ?_)
  subst hr
  obtain ⟨n, k, e, ht⟩ : ∃ n k e, tk l = (n, k, e) := ⟨_, _, _, rfl⟩
  rw [ht]
  simp only []
  repeat (first|refine sc rfl ?_|refine so rfl ?_|refine sb rfl ?_)
  refine O_join ⟨[(6, U64 (n : Nat)), (7, I64 (k : Nat)), (8, I64 e), (23, B (decide (e = 0 ∧ m < n)))], []⟩ ?_ (fun s h => C_le _ h ?_)
  · have fin2 : ∀ x : Bool, x = decide (e = 0 ∧ m < n) → some (B x) = some (B (decide (e = 0 ∧ m < n))) := fun x hb => by rw [hb]
    refine O_case 17 rfl (fun h5 => ?_) (fun h5 => ?_) <;> simp at h5 <;> repeat (first|refine sc rfl ?_|refine so rfl ?_|refine sb rfl ?_)
    · rw [show max (m : Int) 0 = (m : Int) by omega, u64wrap (x := (m : Int)) (by omega) (by omega)]
      refine Le.sub [] ⟨rfl, rfl, rfl, fin2 _ ?_, trivial⟩ rfl
      rw [Bool.eq_iff_iff, decide_eq_true_eq, decide_eq_true_eq]
      omega
    · exact Le.sub [] ⟨rfl, rfl, rfl, fin2 _ (by rw [Bool.eq_iff_iff]; simp; omega), trivial⟩ rfl
  refine C_ifJ ⟨[(6, U64 (n : Nat)), (7, I64 (k : Nat)), (8, I64 (if e = 0 ∧ m < n then 3 else e))], []⟩ rfl (fun h1 => ?_) (fun h1 => ?_) (fun s h => C_le _ h ?_)
  · rw [if_pos (of_decide_eq_true h1)]
    repeat (first|refine sc rfl ?_|refine so rfl ?_|refine sb rfl ?_)
    exact Le.sub [] ⟨rfl, rfl, rfl, trivial⟩ rfl
  · rw [if_neg (of_decide_eq_false h1)]
    repeat (first|refine sc rfl ?_|refine so rfl ?_|refine sb rfl ?_)
    exact Le.sub [] ⟨rfl, rfl, rfl, trivial⟩ rfl
  repeat (first|refine sc rfl ?_|refine so rfl ?_|refine sb rfl ?_)
  exact ⟨_, rfl, rfl, rfl⟩

theorem Read_A0 (b : List UInt8) : FnA Tryz.prog 141 [.s b] [] (fun r cs' => ∃ g, r = PT g 0 ∧ cs' = [rdr g b 0 0]) := by
  refine FnA.intro Tryz.tabOK Tryz.wide_ Tryz.func141 rfl (by decide) rfl (fun X => ?_)
  iterate 11 (first|refine sc rfl ?_|refine so rfl ?_|refine sb rfl ?_)
  refine C_absb 2 rfl rfl rfl (fun g => ?_)
  repeat (first|refine sc rfl ?_|refine so rfl ?_|refine sb rfl ?_)
  first
    | exact ⟨_, [_], _, rfl, pickA_perm (is := [0]) (As := [_]) rfl, rfl, g, rfl, rfl⟩
    | exact ⟨_, [_], _, rfl, pickA_perm (is := [1]) (As := [_]) rfl, rfl, g, rfl, rfl⟩

theorem tk_end {l : List UInt8} (h : (tk l).2.2 = 0) : (tk l).2.1 ≤ l.length := by
  obtain ⟨n, k, e, ht⟩ : ∃ n k e, tk l = (n, k, e) := ⟨_, _, _, rfl⟩
  rw [ht] at h ⊢
  simp only [] at h
  subst h
  exact (tk_take ht).2.2.1

theorem Num_A (g : Nat) (b : List UInt8) (at_ : Nat) (e : Int) (hat : at_ ≤ b.length) (hb : b.length ≤ 9223372036854775807) :
    FnA Tryz.prog 143 [PT g 0] [rdr g b at_ e] (fun r cs' => r = U64 (rdV 0 ((tk (b.drop at_)).1 : Nat) e (tk (b.drop at_)).2.2) ∧ cs' = [rdr g b (rdAt at_ (tk (b.drop at_)).2.1 e (tk (b.drop at_)).2.2) (rdE e (tk (b.drop at_)).2.2)]) := by
  refine FnA.intro Tryz.tabOK Tryz.wide_ Tryz.func143 rfl (by decide) rfl (fun X => ?_)
  repeat (first|refine sc rfl ?_|refine so rfl ?_|refine sb rfl ?_)
  first
    | refine O_callA [0] (takeU_A g b at_ e (.v (.func (.func 201) #[] #[])) 201 [] (tk (b.drop at_)).2.1 (tk (b.drop at_)).2.2 ((tk (b.drop at_)).1 : Nat) (isClo_func 201) rfl hat (.inr ⟨_, rfl⟩) (fun _ => vTake_p (b.drop at_) (by simp; omega)) (fun _ h => by have := tk_end h; simp at this; omega) hb) (by rfl) (by rfl) (by rfl) (by rfl) (by rfl) ?_
    | refine O_callA [1] (takeU_A g b at_ e (.v (.func (.func 201) #[] #[])) 201 [] (tk (b.drop at_)).2.1 (tk (b.drop at_)).2.2 ((tk (b.drop at_)).1 : Nat) (isClo_func 201) rfl hat (.inr ⟨_, rfl⟩) (fun _ => vTake_p (b.drop at_) (by simp; omega)) (fun _ h => by have := tk_end h; simp at this; omega) hb) (by rfl) (by rfl) (by rfl) (by rfl) (by rfl) ?_
    | refine O_callA [2] (takeU_A g b at_ e (.v (.func (.func 201) #[] #[])) 201 [] (tk (b.drop at_)).2.1 (tk (b.drop at_)).2.2 ((tk (b.drop at_)).1 : Nat) (isClo_func 201) rfl hat (.inr ⟨_, rfl⟩) (fun _ => vTake_p (b.drop at_) (by simp; omega)) (fun _ h => by have := tk_end h; simp at this; omega) hb) (by rfl) (by rfl) (by rfl) (by rfl) (by rfl) ?_
    | refine O_callA [3] (takeU_A g b at_ e (.v (.func (.func 201) #[] #[])) 201 [] (tk (b.drop at_)).2.1 (tk (b.drop at_)).2.2 ((tk (b.drop at_)).1 : Nat) (isClo_func 201) rfl hat (.inr ⟨_, rfl⟩) (fun _ => vTake_p (b.drop at_) (by simp; omega)) (fun _ h => by have := tk_end h; simp at this; omega) hb) (by rfl) (by rfl) (by rfl) (by rfl) (by rfl) ?_
    | refine O_callA [4] (takeU_A g b at_ e (.v (.func (.func 201) #[] #[])) 201 [] (tk (b.drop at_)).2.1 (tk (b.drop at_)).2.2 ((tk (b.drop at_)).1 : Nat) (isClo_func 201) rfl hat (.inr ⟨_, rfl⟩) (fun _ => vTake_p (b.drop at_) (by simp; omega)) (fun _ h => by have := tk_end h; simp at this; omega) hb) (by rfl) (by rfl) (by rfl) (by rfl) (by rfl) ?_
  rintro r cs' ⟨rfl, rfl⟩
  repeat (first|refine sc rfl ?_|refine so rfl ?_|refine sb rfl ?_)
  first
    | exact ⟨_, [_], _, rfl, pickA_perm (is := [0]) (As := [_]) rfl, rfl, rfl, rfl⟩
    | exact ⟨_, [_], _, rfl, pickA_perm (is := [1]) (As := [_]) rfl, rfl, rfl, rfl⟩
    | exact ⟨_, [_], _, rfl, pickA_perm (is := [2]) (As := [_]) rfl, rfl, rfl, rfl⟩
    | exact ⟨_, [_], _, rfl, pickA_perm (is := [3]) (As := [_]) rfl, rfl, rfl, rfl⟩
    | exact ⟨_, [_], _, rfl, pickA_perm (is := [4]) (As := [_]) rfl, rfl, rfl, rfl⟩

theorem intT_end {m : Nat} {l : List UInt8} (h : (intT m l).2.2 = 0) : (intT m l).2.1 ≤ l.length := by
  unfold intT at h ⊢
  simp only [] at h ⊢
  split at h
  · cases h
  · exact tk_end h

theorem Int_A (g : Nat) (b : List UInt8) (at_ : Nat) (e : Int) (m : Nat) (hm : m ≤ 9223372036854775807) (hat : at_ ≤ b.length) (hb : b.length ≤ 9223372036854775807) :
    FnA Tryz.prog 142 [PT g 0, I64 (m : Nat)] [rdr g b at_ e] (fun r cs' => r = I64 (rdV 0 (intT m (b.drop at_)).1 e (intT m (b.drop at_)).2.2) ∧ cs' = [rdr g b (rdAt at_ (intT m (b.drop at_)).2.1 e (intT m (b.drop at_)).2.2) (rdE e (intT m (b.drop at_)).2.2)]) := by
  refine FnA.intro Tryz.tabOK Tryz.wide_ Tryz.func142 rfl (by decide) rfl (fun X => ?_)
  repeat (first|refine sc rfl ?_|refine so rfl ?_|refine sb rfl ?_)
  refine O_le _ (Le.freezebox 3 rfl rfl rfl) ?_
  repeat (first|refine sc rfl ?_|refine so rfl ?_|refine sb rfl ?_)
  refine O_makeFunc rfl rfl rfl rfl ?_
  repeat (first|refine sc rfl ?_|refine so rfl ?_|refine sb rfl ?_)
  first
    | refine O_callA [0] (takeI_A g b at_ e (.p (cloRP 200 [.cp [I64 (m : Nat)]])) 200 [.cp [I64 (m : Nat)]] (intT m (b.drop at_)).2.1 (intT m (b.drop at_)).2.2 (intT m (b.drop at_)).1 (isClo_p _ _) rfl hat (.inl rfl) (fun _ => IntF_p m hm (b.drop at_) (by simp; omega)) (fun _ h => by have := intT_end h; simp at this; omega) hb) (by rfl) (by rfl) (by rfl) (by rfl) (by rfl) ?_
    | refine O_callA [1] (takeI_A g b at_ e (.p (cloRP 200 [.cp [I64 (m : Nat)]])) 200 [.cp [I64 (m : Nat)]] (intT m (b.drop at_)).2.1 (intT m (b.drop at_)).2.2 (intT m (b.drop at_)).1 (isClo_p _ _) rfl hat (.inl rfl) (fun _ => IntF_p m hm (b.drop at_) (by simp; omega)) (fun _ h => by have := intT_end h; simp at this; omega) hb) (by rfl) (by rfl) (by rfl) (by rfl) (by rfl) ?_
    | refine O_callA [2] (takeI_A g b at_ e (.p (cloRP 200 [.cp [I64 (m : Nat)]])) 200 [.cp [I64 (m : Nat)]] (intT m (b.drop at_)).2.1 (intT m (b.drop at_)).2.2 (intT m (b.drop at_)).1 (isClo_p _ _) rfl hat (.inl rfl) (fun _ => IntF_p m hm (b.drop at_) (by simp; omega)) (fun _ h => by have := intT_end h; simp at this; omega) hb) (by rfl) (by rfl) (by rfl) (by rfl) (by rfl) ?_
    | refine O_callA [3] (takeI_A g b at_ e (.p (cloRP 200 [.cp [I64 (m : Nat)]])) 200 [.cp [I64 (m : Nat)]] (intT m (b.drop at_)).2.1 (intT m (b.drop at_)).2.2 (intT m (b.drop at_)).1 (isClo_p _ _) rfl hat (.inl rfl) (fun _ => IntF_p m hm (b.drop at_) (by simp; omega)) (fun _ h => by have := intT_end h; simp at this; omega) hb) (by rfl) (by rfl) (by rfl) (by rfl) (by rfl) ?_
    | refine O_callA [4] (takeI_A g b at_ e (.p (cloRP 200 [.cp [I64 (m : Nat)]])) 200 [.cp [I64 (m : Nat)]] (intT m (b.drop at_)).2.1 (intT m (b.drop at_)).2.2 (intT m (b.drop at_)).1 (isClo_p _ _) rfl hat (.inl rfl) (fun _ => IntF_p m hm (b.drop at_) (by simp; omega)) (fun _ h => by have := intT_end h; simp at this; omega) hb) (by rfl) (by rfl) (by rfl) (by rfl) (by rfl) ?_
  rintro r cs' ⟨rfl, rfl⟩
  repeat (first|refine sc rfl ?_|refine so rfl ?_|refine sb rfl ?_)
  first
    | exact ⟨_, [_], _, rfl, pickA_perm (is := [0]) (As := [_]) rfl, rfl, rfl, rfl⟩
    | exact ⟨_, [_], _, rfl, pickA_perm (is := [1]) (As := [_]) rfl, rfl, rfl, rfl⟩
    | exact ⟨_, [_], _, rfl, pickA_perm (is := [2]) (As := [_]) rfl, rfl, rfl, rfl⟩
    | exact ⟨_, [_], _, rfl, pickA_perm (is := [3]) (As := [_]) rfl, rfl, rfl, rfl⟩
    | exact ⟨_, [_], _, rfl, pickA_perm (is := [4]) (As := [_]) rfl, rfl, rfl, rfl⟩

theorem RestF_c (b : List UInt8) : FnP Tryz.prog 204 [.s b] (· = .tup [.s b, I64 (b.length : Nat), I64 0]) := by
  refine FnP.intro Tryz.tabOK Tryz.wide_ Tryz.func204 rfl (by decide) rfl (fun X => ?_)
  repeat (first|refine sc rfl ?_|refine so rfl ?_|refine sb rfl ?_)
  exact ⟨_, rfl, rfl, rfl⟩

theorem Rest_A (g : Nat) (b : List UInt8) (at_ : Nat) (e : Int) (hat : at_ ≤ b.length) (hb : b.length ≤ 9223372036854775807) :
    FnA Tryz.prog 144 [PT g 0] [rdr g b at_ e] (fun r cs' => r = .s (rdV [] (b.drop at_) e 0) ∧ cs' = [rdr g b (rdAt at_ (b.length - at_) e 0) (rdE e 0)]) := by
  refine FnA.intro Tryz.tabOK Tryz.wide_ Tryz.func144 rfl (by decide) rfl (fun X => ?_)
  repeat (first|refine sc rfl ?_|refine so rfl ?_|refine sb rfl ?_)
  first
    | refine O_callA [0] (takeS_A g b at_ e (.v (.func (.func 204) #[] #[])) 204 [] (b.length - at_) 0 (b.drop at_) (isClo_func 204) rfl hat (.inr ⟨_, rfl⟩) (fun _ => by have h := RestF_c (b.drop at_); rw [List.length_drop] at h; exact h) (fun _ _ => by omega) hb) (by rfl) (by rfl) (by rfl) (by rfl) (by rfl) ?_
    | refine O_callA [1] (takeS_A g b at_ e (.v (.func (.func 204) #[] #[])) 204 [] (b.length - at_) 0 (b.drop at_) (isClo_func 204) rfl hat (.inr ⟨_, rfl⟩) (fun _ => by have h := RestF_c (b.drop at_); rw [List.length_drop] at h; exact h) (fun _ _ => by omega) hb) (by rfl) (by rfl) (by rfl) (by rfl) (by rfl) ?_
    | refine O_callA [2] (takeS_A g b at_ e (.v (.func (.func 204) #[] #[])) 204 [] (b.length - at_) 0 (b.drop at_) (isClo_func 204) rfl hat (.inr ⟨_, rfl⟩) (fun _ => by have h := RestF_c (b.drop at_); rw [List.length_drop] at h; exact h) (fun _ _ => by omega) hb) (by rfl) (by rfl) (by rfl) (by rfl) (by rfl) ?_
    | refine O_callA [3] (takeS_A g b at_ e (.v (.func (.func 204) #[] #[])) 204 [] (b.length - at_) 0 (b.drop at_) (isClo_func 204) rfl hat (.inr ⟨_, rfl⟩) (fun _ => by have h := RestF_c (b.drop at_); rw [List.length_drop] at h; exact h) (fun _ _ => by omega) hb) (by rfl) (by rfl) (by rfl) (by rfl) (by rfl) ?_
    | refine O_callA [4] (takeS_A g b at_ e (.v (.func (.func 204) #[] #[])) 204 [] (b.length - at_) 0 (b.drop at_) (isClo_func 204) rfl hat (.inr ⟨_, rfl⟩) (fun _ => by have h := RestF_c (b.drop at_); rw [List.length_drop] at h; exact h) (fun _ _ => by omega) hb) (by rfl) (by rfl) (by rfl) (by rfl) (by rfl) ?_
  rintro r cs' ⟨rfl, rfl⟩
  repeat (first|refine sc rfl ?_|refine so rfl ?_|refine sb rfl ?_)
  first
    | exact ⟨_, [_], _, rfl, pickA_perm (is := [0]) (As := [_]) rfl, rfl, rfl, rfl⟩
    | exact ⟨_, [_], _, rfl, pickA_perm (is := [1]) (As := [_]) rfl, rfl, rfl, rfl⟩
    | exact ⟨_, [_], _, rfl, pickA_perm (is := [2]) (As := [_]) rfl, rfl, rfl, rfl⟩
    | exact ⟨_, [_], _, rfl, pickA_perm (is := [3]) (As := [_]) rfl, rfl, rfl, rfl⟩
    | exact ⟨_, [_], _, rfl, pickA_perm (is := [4]) (As := [_]) rfl, rfl, rfl, rfl⟩

def rdDone (b : List UInt8) (at_ : Nat) (e : Int) : Int := if e ≠ 0 then e else if at_ < b.length then 1 else 0
theorem Done_A (g : Nat) (b : List UInt8) (at_ : Nat) (e : Int) : FnA Tryz.prog 145 [PT g 0] [rdr g b at_ e] (fun r cs' => r = I64 (rdDone b at_ e) ∧ cs' = [rdr g b at_ e]) := by
  refine FnA.intro Tryz.tabOK Tryz.wide_ Tryz.func145 rfl (by decide) rfl (fun X => ?_)
  unfold rdDone
  repeat (first|refine sc rfl ?_|refine so rfl ?_|refine sb rfl ?_)
  refine O_Xd (X_ptrnil Tryz.underlying249 rfl rfl rfl) ?_
  repeat (first|refine sc rfl ?_|refine so rfl ?_|refine sb rfl ?_)
  refine C_false rfl rfl ?_
  repeat (first|refine sc rfl ?_|refine so rfl ?_|refine sb rfl ?_)
  first
    | refine O_loadP 0 (reads_box 2) rfl rfl rfl rfl rfl rfl ?_
    | refine O_loadP 1 (reads_box 2) rfl rfl rfl rfl rfl rfl ?_
    | refine O_loadP 2 (reads_box 2) rfl rfl rfl rfl rfl rfl ?_
    | refine O_loadP 3 (reads_box 2) rfl rfl rfl rfl rfl rfl ?_
    | refine O_loadP 4 (reads_box 2) rfl rfl rfl rfl rfl rfl ?_
  repeat (first|refine sc rfl ?_|refine so rfl ?_|refine sb rfl ?_)
  refine C_if rfl (fun h0 => ?_) (fun h0 => ?_) <;> simp only [pL] at h0
  · repeat (first|refine sc rfl ?_|refine so rfl ?_|refine sb rfl ?_)
    first
      | refine O_loadP 0 (reads_box 2) rfl rfl rfl rfl rfl rfl ?_
      | refine O_loadP 1 (reads_box 2) rfl rfl rfl rfl rfl rfl ?_
      | refine O_loadP 2 (reads_box 2) rfl rfl rfl rfl rfl rfl ?_
      | refine O_loadP 3 (reads_box 2) rfl rfl rfl rfl rfl rfl ?_
      | refine O_loadP 4 (reads_box 2) rfl rfl rfl rfl rfl rfl ?_
    repeat (first|refine sc rfl ?_|refine so rfl ?_|refine sb rfl ?_)
    first
      | exact ⟨_, [_], _, rfl, pickA_perm (is := [0]) (As := [_]) rfl, rfl, by rw [if_pos h0], rfl⟩
      | exact ⟨_, [_], _, rfl, pickA_perm (is := [1]) (As := [_]) rfl, rfl, by rw [if_pos h0], rfl⟩
      | exact ⟨_, [_], _, rfl, pickA_perm (is := [2]) (As := [_]) rfl, rfl, by rw [if_pos h0], rfl⟩
      | exact ⟨_, [_], _, rfl, pickA_perm (is := [3]) (As := [_]) rfl, rfl, by rw [if_pos h0], rfl⟩
      | exact ⟨_, [_], _, rfl, pickA_perm (is := [4]) (As := [_]) rfl, rfl, by rw [if_pos h0], rfl⟩
  subst h0
  rw [if_neg (by decide)]
  repeat (first|refine sc rfl ?_|refine so rfl ?_|refine sb rfl ?_)
  refine C_drawD rfl (by kernel_rfl) ?_
  repeat (first|refine sd rfl ?_|refine sdb rfl ?_|refine sds rfl ?_)
  refine D_X (I64 (at_ : Nat)) (X_loadP 0 (A := rdr g b at_ 0) (reads_box 1) rfl rfl rfl rfl rfl rfl) ?_
  repeat (first|refine sd rfl ?_|refine sdb rfl ?_|refine sds rfl ?_)
  refine D_X (.s b) (X_loadP 0 (A := rdr g b at_ 0) (reads_box 0) rfl rfl rfl rfl rfl rfl) ?_
  repeat (first|refine sd rfl ?_|refine sdb rfl ?_|refine sds rfl ?_)
  repeat (first|refine sc rfl ?_|refine so rfl ?_|refine sb rfl ?_)
  refine C_if rfl (fun h1 => ?_) (fun h1 => ?_) <;> simp only [pL] at h1
  · rw [if_pos (by omega)]
    repeat (first|refine sc rfl ?_|refine so rfl ?_|refine sb rfl ?_)
    first
      | exact ⟨_, [_], _, rfl, pickA_perm (is := [0]) (As := [_]) rfl, rfl, rfl, rfl⟩
      | exact ⟨_, [_], _, rfl, pickA_perm (is := [1]) (As := [_]) rfl, rfl, rfl, rfl⟩
      | exact ⟨_, [_], _, rfl, pickA_perm (is := [2]) (As := [_]) rfl, rfl, rfl, rfl⟩
      | exact ⟨_, [_], _, rfl, pickA_perm (is := [3]) (As := [_]) rfl, rfl, rfl, rfl⟩
      | exact ⟨_, [_], _, rfl, pickA_perm (is := [4]) (As := [_]) rfl, rfl, rfl, rfl⟩
  · rw [if_neg (by omega)]
    repeat (first|refine sc rfl ?_|refine so rfl ?_|refine sb rfl ?_)
    first
      | exact ⟨_, [_], _, rfl, pickA_perm (is := [0]) (As := [_]) rfl, rfl, rfl, rfl⟩
      | exact ⟨_, [_], _, rfl, pickA_perm (is := [1]) (As := [_]) rfl, rfl, rfl, rfl⟩
      | exact ⟨_, [_], _, rfl, pickA_perm (is := [2]) (As := [_]) rfl, rfl, rfl, rfl⟩
      | exact ⟨_, [_], _, rfl, pickA_perm (is := [3]) (As := [_]) rfl, rfl, rfl, rfl⟩
      | exact ⟨_, [_], _, rfl, pickA_perm (is := [4]) (As := [_]) rfl, rfl, rfl, rfl⟩
end Go.Proofs

namespace Go.Sy
open Go.RowKit

def bndRP (f : FuncId) (fs : List AV) : RP :=
  { R := fun G y => ∃ vs : Array Value, y = .func (.func f) vs #[] ∧ RepIT G fs vs.toList
    mono := by
      rintro G H h v ⟨vs, e, r⟩
      exact ⟨vs, e, RepIT.mono h fs r⟩
    one := by
      rintro G v ⟨vs, e, r⟩
      subst e; rfl }

section
variable {P : Program} {T : Tab} {X : Ctx P T} {n : Nat} {e : Env} {st : St} {a : Act} {w : World} {ops : Array Oper} {K : St → Prop}

theorem O_makeBound {f : FuncId} {fs : Array Operand} {favs : List AV} {d : Nat} {ty : TypeId} {pos : String} {aft : Array Edge} {gd : Option (Nat × Bool)} {rest : List Oper} {s : List (Nat × AV)} {c : List Ch}
    (hg : guardA ops ⟨s, c⟩ ⟨some d, .makeFunc (.func f) fs #[], ty, pos, aft, gd⟩ = some true) (ha : opds s fs.toList = some favs) (himm : AV.imm.immL favs = true) (hd : Nat.blt d n = true)
    (kk : SymO X n ops rest ⟨(d, .p (bndRP f favs)) :: s, c⟩ K) : SymO X n ops (⟨some d, .makeFunc (.func f) fs #[], ty, pos, aft, gd⟩ :: rest) ⟨s, c⟩ K := by
  intro e a w Q r hq
  unfold wpList
  rw [if_pos (guardA_sound r hg)]
  refine .inl ?_
  have h1 := RepT.toI favs himm (opds_sound r ha)
  have hrun : (execOp a.eval ⟨some d, .makeFunc (.func f) fs #[], ty, pos, aft, gd⟩).run P w = .ok (.value (.func (.func f) (fs.map a.eval) #[])) w := by
    simp [execOp, Instr.makeFunc]
  unfold Oper.wp
  rw [hrun]
  exact kk _ _ _ Q (r.put hd (by simp only [Rep]; exact ⟨_, rfl, by rw [map_eval]; exact h1⟩)) hq

theorem run_callBound {f : FuncId} (hc : Callable P f) {dst : Option Tmp} {x : Operand} {args : Array Operand} {tys : Array TypeId} {ty : TypeId} {pos : String} {aft : Array Edge} {gd : Option (Nat × Bool)} (ρ : Operand → Value)
    {vs : Array Value} (hρ : ρ x = .func (.func f) vs #[]) (w : World) :
    (execOp ρ ⟨dst, .call ⟨.value x, args, tys⟩, ty, pos, aft, gd⟩).run P w = .ok (.enter f (vs ++ args.map ρ)) w := by
  obtain ⟨fn, h1, h2, h3⟩ := hc
  simp only [execOp, resolve, hρ, Deferred.ofValue, Sem.run_bind, Sem.run_pure, Result.andThen_ok, invoke]
  have h4 : ¬ fn.body = none := by intro h; simp [h] at h2
  have h5 : ¬ fn.name = "runtime.NumGoroutine" := by simpa using h3
  simp [callFunc, h1, h4, h5]

theorem O_callBound (is : List Nat) {f : FuncId} {xo : Operand} {fs : List AV} {dst : Nat} {args : Array Operand} {tys : Array TypeId} {ty : TypeId} {pos : String} {aft : Array Edge} {gd : Option (Nat × Bool)} {rest : List Oper} {avs : List AV} {cs : List Abs} {cr : List Ch} {post : AV → List Abs → Prop}
    {s : List (Nat × AV)} {c : List Ch} (hf : FnA P f (fs ++ avs) cs post) (hxo : opd s xo = some (.p (bndRP f fs)))
    (hg : guardA ops ⟨s, c⟩ ⟨some dst, .call ⟨.value xo, args, tys⟩, ty, pos, aft, gd⟩ = some true) (ha : opds s args.toList = some avs) (himm : AV.imm.immL avs = true)
    (hp : pickA is c = some (cs, cr)) (hd : Nat.blt dst n = true)
    (k : ∀ r cs', post r cs' → SymO X n ops rest ⟨(dst, r) :: s, cs'.map Ch.abs ++ cr⟩ K) :
    SymO X n ops (⟨some dst, .call ⟨.value xo, args, tys⟩, ty, pos, aft, gd⟩ :: rest) ⟨s, c⟩ K := by
  intro e a w Q r hq
  unfold wpList
  rw [if_pos (guardA_sound r hg)]
  refine .inl ?_
  unfold Oper.wp
  have hx := Rep.toI (.p (bndRP f fs)) rfl (opd_sound r hxo)
  simp only [RepI] at hx
  obtain ⟨vs, hfv, hvs⟩ := hx
  rw [run_callBound hf.1 a.eval hfv w, Oper.upon_enter]
  have h1 := RepIT.app hvs (RepT.toI avs himm (opds_sound r ha))
  have harr : vs ++ args.map a.eval = (vs.toList ++ args.toList.map a.eval).toArray := by
    apply Array.ext'; simp
  rw [harr]
  refine (call_after (ops := ops) (Q := Q) hf r h1 (pickA_perm hp) hd k hq).mono ?_
  rintro en w' ⟨cv, rfl, h⟩
  exact h
end
end Go.Sy

namespace Go.Sy
open Go.RowKit
section
variable {P : Program} {T : Tab} {X : Ctx P T} {n : Nat} {e : Env} {st : St} {a : Act} {w : World} {ops : Array Oper} {K : St → Prop}

end
end Go.Sy

namespace Go.Proofs
open Go.Sy Go.Lib

theorem head2_c : FnP Tryz.prog 196 [.s [5, 0, 0, 0]] (· = .tup [I64 5, I64 0, I64 0, I64 0]) := by
  refine FnP.intro Tryz.tabOK Tryz.wide_ Tryz.func196 rfl (by decide) rfl (fun X => ?_)
  repeat (first|refine sc rfl ?_|refine so rfl ?_|refine sb rfl ?_)
  refine C_false rfl (by decide) ?_
  repeat (first|refine sc rfl ?_|refine so rfl ?_|refine sb rfl ?_)
  refine C_drawD rfl (by kernel_rfl) ?_
  repeat (first | refine sd rfl ?_ | refine sdb rfl ?_ | refine sds rfl ?_ | refine ⟨by decide, ?_⟩)
  repeat (first|refine sc rfl ?_|refine so rfl ?_|refine sb rfl ?_)
  refine O_call (known_p _) (by rfl) (by rfl) (by rfl) (by rfl) (fun r hr => ?_)
  subst hr
  repeat (first|refine sc rfl ?_|refine so rfl ?_|refine sb rfl ?_)
  refine C_false rfl (by decide) ?_
  repeat (first|refine sc rfl ?_|refine so rfl ?_|refine sb rfl ?_)
  refine C_false rfl (by decide) ?_
  repeat (first|refine sc rfl ?_|refine so rfl ?_|refine sb rfl ?_)
  refine C_drawD rfl (by kernel_rfl) ?_
  repeat (first | refine sd rfl ?_ | refine sdb rfl ?_ | refine sds rfl ?_ | refine ⟨by decide, ?_⟩)
  repeat (first|refine sc rfl ?_|refine so rfl ?_|refine sb rfl ?_)
  exact ⟨_, rfl, rfl, rfl⟩
theorem head0_c : FnP Tryz.prog 196 [.s []] (· = .tup [I64 0, I64 0, I64 0, I64 2]) := by
  refine FnP.intro Tryz.tabOK Tryz.wide_ Tryz.func196 rfl (by decide) rfl (fun X => ?_)
  repeat (first|refine sc rfl ?_|refine so rfl ?_|refine sb rfl ?_)
  refine C_true rfl (by decide) ?_
  repeat (first|refine sc rfl ?_|refine so rfl ?_|refine sb rfl ?_)
  exact ⟨_, rfl, rfl, rfl⟩
theorem fTake2_c : FnP Tryz.prog 139 [.s [5, 0, 0, 0]] (· = .tup [.agg [I64 5, I64 0, .s []], I64 4, I64 0]) := by
  refine FnP.intro Tryz.tabOK Tryz.wide_ Tryz.func139 rfl (by decide) rfl (fun X => ?_)
  repeat (first|refine sc rfl ?_|refine so rfl ?_|refine sb rfl ?_)
  refine O_call head2_c (by rfl) (by rfl) (by rfl) (by rfl) (fun r hr => ?_)
  subst hr
  repeat (first|refine sc rfl ?_|refine so rfl ?_|refine sb rfl ?_)
  refine C_false rfl rfl ?_
  repeat (first|refine sc rfl ?_|refine so rfl ?_|refine sb rfl ?_)
  refine C_false rfl (by decide) ?_
  repeat (first|refine sc rfl ?_|refine so rfl ?_|refine sb rfl ?_)
  refine ⟨by decide, ?_⟩
  repeat (first|refine sc rfl ?_|refine so rfl ?_|refine sb rfl ?_)
  exact ⟨_, rfl, rfl, rfl⟩
theorem fTake0_c : FnP Tryz.prog 139 [.s []] (· = .tup [.agg [I64 0, I64 0, .s []], I64 0, I64 2]) := by
  refine FnP.intro Tryz.tabOK Tryz.wide_ Tryz.func139 rfl (by decide) rfl (fun X => ?_)
  repeat (first|refine sc rfl ?_|refine so rfl ?_|refine sb rfl ?_)
  refine O_call head0_c (by rfl) (by rfl) (by rfl) (by rfl) (fun r hr => ?_)
  subst hr
  repeat (first|refine sc rfl ?_|refine so rfl ?_|refine sb rfl ?_)
  refine C_true rfl rfl ?_
  repeat (first|refine sc rfl ?_|refine so rfl ?_|refine sb rfl ?_)
  exact ⟨_, rfl, rfl, rfl⟩
theorem fPush_A (b : Nat) (st own : Int) (out : Value) : FnA Tryz.prog 192 [PT b 0, .s [5, 0, 0, 0]] [lnA b [] 0 st own out] (fun r cs' => r = SL 3 Frm.c [⟨5, 0, []⟩] ∧ cs' = [lnA b [] 0 st own out]) := by
  refine FnA.intro Tryz.tabOK Tryz.wide_ Tryz.func192 rfl (by decide) rfl (fun X => ?_)
  repeat (first|refine sc rfl ?_|refine so rfl ?_|refine sb rfl ?_)
  refine C_jumps (α := Unit) 0 rfl (fun _ => ⟨[(0, PT b 0), (5, .own 49)], [VEC 49 157 3 Frm.c [⟨5, 0, []⟩], .abs (lnA b [] 0 st own out)]⟩) (fun _ => True) (fun _ => 0) ?_ ?_
  · repeat (first|refine sc rfl ?_|refine so rfl ?_|refine sb rfl ?_)
    refine O_Xd (X_ptrnil Tryz.underlying370 rfl rfl rfl) ?_
    repeat (first|refine sc rfl ?_|refine so rfl ?_|refine sb rfl ?_)
    first
      | refine O_loadP 0 (reads_box 1) rfl rfl rfl rfl rfl rfl ?_
      | refine O_loadP 1 (reads_box 1) rfl rfl rfl rfl rfl rfl ?_
      | refine O_loadP 2 (reads_box 1) rfl rfl rfl rfl rfl rfl ?_
      | refine O_loadP 3 (reads_box 1) rfl rfl rfl rfl rfl rfl ?_
      | refine O_loadP 4 (reads_box 1) rfl rfl rfl rfl rfl rfl ?_
    repeat (first|refine sc rfl ?_|refine so rfl ?_|refine sb rfl ?_)
    refine C_false rfl rfl ?_
    repeat (first|refine sc rfl ?_|refine so rfl ?_|refine sb rfl ?_)
    first
      | refine O_loadP 0 (reads_box 0) rfl rfl rfl rfl rfl rfl ?_
      | refine O_loadP 1 (reads_box 0) rfl rfl rfl rfl rfl rfl ?_
      | refine O_loadP 2 (reads_box 0) rfl rfl rfl rfl rfl rfl ?_
      | refine O_loadP 3 (reads_box 0) rfl rfl rfl rfl rfl rfl ?_
      | refine O_loadP 4 (reads_box 0) rfl rfl rfl rfl rfl rfl ?_
    repeat (first|refine sc rfl ?_|refine so rfl ?_|refine sb rfl ?_)
    refine ⟨by decide, ?_⟩
    repeat (first|refine sc rfl ?_|refine so rfl ?_|refine sb rfl ?_)
    first
      | refine O_Xn (X_storeP 0 (writes_box (by show 0 < 5; decide)) rfl rfl rfl rfl rfl rfl rfl) ?_
      | refine O_Xn (X_storeP 1 (writes_box (by show 0 < 5; decide)) rfl rfl rfl rfl rfl rfl rfl) ?_
      | refine O_Xn (X_storeP 2 (writes_box (by show 0 < 5; decide)) rfl rfl rfl rfl rfl rfl rfl) ?_
      | refine O_Xn (X_storeP 3 (writes_box (by show 0 < 5; decide)) rfl rfl rfl rfl rfl rfl rfl) ?_
      | refine O_Xn (X_storeP 4 (writes_box (by show 0 < 5; decide)) rfl rfl rfl rfl rfl rfl rfl) ?_
    repeat (first|refine sc rfl ?_|refine so rfl ?_|refine sb rfl ?_)
    first
      | refine O_loadP 0 (reads_box 0) rfl rfl rfl rfl rfl rfl ?_
      | refine O_loadP 1 (reads_box 0) rfl rfl rfl rfl rfl rfl ?_
      | refine O_loadP 2 (reads_box 0) rfl rfl rfl rfl rfl rfl ?_
      | refine O_loadP 3 (reads_box 0) rfl rfl rfl rfl rfl rfl ?_
      | refine O_loadP 4 (reads_box 0) rfl rfl rfl rfl rfl rfl ?_
    repeat (first|refine sc rfl ?_|refine so rfl ?_|refine sb rfl ?_)
    refine O_call fTake2_c (by rfl) (by rfl) (by rfl) (by rfl) (fun r hr => ?_)
    subst hr
    repeat (first|refine sc rfl ?_|refine so rfl ?_|refine sb rfl ?_)
    refine C_true rfl rfl ?_
    refine C_le _ (Le.nilvec Frm.c 5 49 157 3 rfl rfl rfl) ?_
    repeat (first|refine sc rfl ?_|refine so rfl ?_|refine sb rfl ?_)
    refine O_push Frm.c [] ⟨5, 0, []⟩ [(0, PT b 0), (7, I64 4)] rfl rfl rfl rfl rfl rfl rfl rfl rfl rfl ⟨rfl, rfl, trivial⟩ rfl rfl (by decide) (by decide) ?_
    repeat (first|refine sc rfl ?_|refine so rfl ?_|refine sb rfl ?_)
    first
      | refine O_loadP 0 (reads_box 0) rfl rfl rfl rfl rfl rfl ?_
      | refine O_loadP 1 (reads_box 0) rfl rfl rfl rfl rfl rfl ?_
      | refine O_loadP 2 (reads_box 0) rfl rfl rfl rfl rfl rfl ?_
      | refine O_loadP 3 (reads_box 0) rfl rfl rfl rfl rfl rfl ?_
      | refine O_loadP 4 (reads_box 0) rfl rfl rfl rfl rfl rfl ?_
    repeat (first|refine sc rfl ?_|refine so rfl ?_|refine sb rfl ?_)
    refine ⟨by decide, ?_⟩
    repeat (first|refine sc rfl ?_|refine so rfl ?_|refine sb rfl ?_)
    first
      | refine O_Xn (X_storeP 0 (writes_box (by show 0 < 5; decide)) rfl rfl rfl rfl rfl rfl rfl) ?_
      | refine O_Xn (X_storeP 1 (writes_box (by show 0 < 5; decide)) rfl rfl rfl rfl rfl rfl rfl) ?_
      | refine O_Xn (X_storeP 2 (writes_box (by show 0 < 5; decide)) rfl rfl rfl rfl rfl rfl rfl) ?_
      | refine O_Xn (X_storeP 3 (writes_box (by show 0 < 5; decide)) rfl rfl rfl rfl rfl rfl rfl) ?_
      | refine O_Xn (X_storeP 4 (writes_box (by show 0 < 5; decide)) rfl rfl rfl rfl rfl rfl rfl) ?_
    repeat (first|refine sc rfl ?_|refine so rfl ?_|refine sb rfl ?_)
    refine C_goto ⟨rfl, (), trivial, ?_⟩
    first
      | exact Le.pick [0, 0] ⟨rfl, rfl, trivial⟩ rfl
      | exact Le.pick [1, 0] ⟨rfl, rfl, trivial⟩ rfl
      | exact Le.pick [1, 2] ⟨rfl, rfl, trivial⟩ rfl
  · intro _ _
    repeat (first|refine sc rfl ?_|refine so rfl ?_|refine sb rfl ?_)
    first
      | refine O_loadP 0 (reads_box 0) rfl rfl rfl rfl rfl rfl ?_
      | refine O_loadP 1 (reads_box 0) rfl rfl rfl rfl rfl rfl ?_
      | refine O_loadP 2 (reads_box 0) rfl rfl rfl rfl rfl rfl ?_
      | refine O_loadP 3 (reads_box 0) rfl rfl rfl rfl rfl rfl ?_
      | refine O_loadP 4 (reads_box 0) rfl rfl rfl rfl rfl rfl ?_
    repeat (first|refine sc rfl ?_|refine so rfl ?_|refine sb rfl ?_)
    refine O_call fTake0_c (by rfl) (by rfl) (by rfl) (by rfl) (fun r hr => ?_)
    subst hr
    repeat (first|refine sc rfl ?_|refine so rfl ?_|refine sb rfl ?_)
    refine C_false rfl rfl ?_
    repeat (first|refine sc rfl ?_|refine so rfl ?_|refine sb rfl ?_)
    refine C_true rfl rfl ?_
    refine C_le _ (Le.freezeL (l := [(⟨5, 0, []⟩ : Frm)]) (cells := Frm.c) 5 rfl rfl) ?_
    repeat (first|refine sc rfl ?_|refine so rfl ?_|refine sb rfl ?_)
    first
      | exact ⟨_, [_], _, rfl, pickA_perm (is := [0]) (As := [_]) rfl, rfl, rfl, rfl⟩
      | exact ⟨_, [_], _, rfl, pickA_perm (is := [1]) (As := [_]) rfl, rfl, rfl, rfl⟩
      | exact ⟨_, [_], _, rfl, pickA_perm (is := [2]) (As := [_]) rfl, rfl, rfl, rfl⟩
      | exact ⟨_, [_], _, rfl, pickA_perm (is := [3]) (As := [_]) rfl, rfl, rfl, rfl⟩
      | exact ⟨_, [_], _, rfl, pickA_perm (is := [4]) (As := [_]) rfl, rfl, rfl, rfl⟩
theorem helloTake0_c : FnP Tryz.prog 263 [.s []] (· = .tup [.agg [I64 0, I64 0, U64 0], I64 1]) := by
  refine FnP.intro Tryz.tabOK Tryz.wide_ Tryz.func263 rfl (by decide) rfl (fun X => ?_)
  repeat (first|refine sc rfl ?_|refine so rfl ?_|refine sb rfl ?_)
  refine O_callA [] (Read_A0 []) (by rfl) (by rfl) (by rfl) (by rfl) (by rfl) ?_
  rintro r' cs' ⟨g, rfl, rfl⟩
  repeat (first|refine sc rfl ?_|refine so rfl ?_|refine sb rfl ?_)
  refine O_makeBound rfl rfl rfl rfl ?_
  repeat (first|refine sc rfl ?_|refine so rfl ?_|refine sb rfl ?_)
  first
    | refine O_callBound [0] (Int_A g [] 0 0 2147483647 (by decide) (Nat.zero_le _) (by decide)) rfl rfl rfl rfl rfl rfl ?_
    | refine O_callBound [1] (Int_A g [] 0 0 2147483647 (by decide) (Nat.zero_le _) (by decide)) rfl rfl rfl rfl rfl rfl ?_
  rintro r' cs' ⟨rfl, rfl⟩
  rw [show (intT 2147483647 (List.drop 0 ([] : List UInt8))).1 = 0 from rfl, show (intT 2147483647 (List.drop 0 ([] : List UInt8))).2.1 = 0 from rfl, show (intT 2147483647 (List.drop 0 ([] : List UInt8))).2.2 = 2 from rfl, show rdV (0 : Int) 0 0 2 = 0 from rfl, show rdAt 0 0 0 2 = 0 from rfl, show rdE 0 2 = 2 from rfl]
  repeat (first|refine sc rfl ?_|refine so rfl ?_|refine sb rfl ?_)
  first
    | refine O_callBound [0] (Int_A g [] 0 2 2147483647 (by decide) (Nat.zero_le _) (by decide)) rfl rfl rfl rfl rfl rfl ?_
    | refine O_callBound [1] (Int_A g [] 0 2 2147483647 (by decide) (Nat.zero_le _) (by decide)) rfl rfl rfl rfl rfl rfl ?_
  rintro r' cs' ⟨rfl, rfl⟩
  rw [show (intT 2147483647 (List.drop 0 ([] : List UInt8))).1 = 0 from rfl, show (intT 2147483647 (List.drop 0 ([] : List UInt8))).2.1 = 0 from rfl, show (intT 2147483647 (List.drop 0 ([] : List UInt8))).2.2 = 2 from rfl, show rdV (0 : Int) 0 2 2 = 0 from rfl, show rdAt 0 0 2 2 = 0 from rfl, show rdE 2 2 = 2 from rfl]
  repeat (first|refine sc rfl ?_|refine so rfl ?_|refine sb rfl ?_)
  first
    | refine O_callA [0] (Num_A g [] 0 2 (Nat.zero_le _) (by decide)) (by rfl) (by rfl) (by rfl) (by rfl) (by rfl) ?_
    | refine O_callA [1] (Num_A g [] 0 2 (Nat.zero_le _) (by decide)) (by rfl) (by rfl) (by rfl) (by rfl) (by rfl) ?_
    | refine O_callA [2] (Num_A g [] 0 2 (Nat.zero_le _) (by decide)) (by rfl) (by rfl) (by rfl) (by rfl) (by rfl) ?_
    | refine O_callA [3] (Num_A g [] 0 2 (Nat.zero_le _) (by decide)) (by rfl) (by rfl) (by rfl) (by rfl) (by rfl) ?_
    | refine O_callA [4] (Num_A g [] 0 2 (Nat.zero_le _) (by decide)) (by rfl) (by rfl) (by rfl) (by rfl) (by rfl) ?_
  rintro r' cs' ⟨rfl, rfl⟩
  rw [show (tk (List.drop 0 ([] : List UInt8))).2.1 = 0 from rfl, show (tk (List.drop 0 ([] : List UInt8))).2.2 = 2 from rfl, show rdAt 0 0 2 2 = 0 from rfl, show rdE 2 2 = 2 from rfl]
  repeat (first|refine sc rfl ?_|refine so rfl ?_|refine sb rfl ?_)
  first
    | refine O_callA [0] (Done_A g [] 0 2) (by rfl) (by rfl) (by rfl) (by rfl) (by rfl) ?_
    | refine O_callA [1] (Done_A g [] 0 2) (by rfl) (by rfl) (by rfl) (by rfl) (by rfl) ?_
    | refine O_callA [2] (Done_A g [] 0 2) (by rfl) (by rfl) (by rfl) (by rfl) (by rfl) ?_
    | refine O_callA [3] (Done_A g [] 0 2) (by rfl) (by rfl) (by rfl) (by rfl) (by rfl) ?_
    | refine O_callA [4] (Done_A g [] 0 2) (by rfl) (by rfl) (by rfl) (by rfl) (by rfl) ?_
  rintro r' cs' ⟨rfl, rfl⟩
  rw [show rdDone [] 0 2 = 2 from rfl]
  repeat (first|refine sc rfl ?_|refine so rfl ?_|refine sb rfl ?_)
  refine C_true rfl rfl ?_
  repeat (first|refine sc rfl ?_|refine so rfl ?_|refine sb rfl ?_)
  exact ⟨_, rfl, rfl, rfl⟩
theorem verify0_c (t : Nat) : FnP Tryz.prog 228 [PT t 0, .s []] (· = .tup [I64 0, I64 16]) := by
  refine FnP.intro Tryz.tabOK Tryz.wide_ Tryz.func228 rfl (by decide) rfl (fun X => ?_)
  repeat (first|refine sc rfl ?_|refine so rfl ?_|refine sb rfl ?_)
  refine O_call helloTake0_c (by rfl) (by rfl) (by rfl) (by rfl) (fun r hr => ?_)
  subst hr
  repeat (first|refine sc rfl ?_|refine so rfl ?_|refine sb rfl ?_)
  refine C_true rfl rfl ?_
  repeat (first|refine sc rfl ?_|refine so rfl ?_|refine sb rfl ?_)
  exact ⟨_, rfl, rfl, rfl⟩
end Go.Proofs

namespace Go.Proofs
open Go.Sy Go.Lib

abbrev srvL3 (s mg tm : Nat) (now : Int) (g cc b : Nat) (st own : Int) (out : Value) : List Abs := [srvL s mg tm now (HD g 1 cc), lnsA (HD g 1 cc) b, lnA b [] 0 st own out]
theorem cPush_A (s mg tm : Nat) (now : Int) (g cc b : Nat) : FnA Tryz.prog 132 [PT s 67, I64 0, .s [5, 0, 0, 0]] (srvL3 s mg tm now g cc b 0 (-1) (.slice none 0 0)) (fun r cs' => r = .tup [SL 3 Frm.c [⟨5, 0, []⟩], I64 0] ∧ cs' = srvL3 s mg tm now g cc b 0 (-1) (.slice none 0 0)) := by
  refine FnA.intro Tryz.tabOK Tryz.wide_ Tryz.func132 rfl (by decide) rfl (fun X => ?_)
  repeat (first|refine sc rfl ?_|refine so rfl ?_|refine sb rfl ?_)
  first
    | refine O_callA [0, 0] (find_A s mg tm now g cc b) (by rfl) (by rfl) (by rfl) (by rfl) (by rfl) ?_
    | refine O_callA [0, 1] (find_A s mg tm now g cc b) (by rfl) (by rfl) (by rfl) (by rfl) (by rfl) ?_
    | refine O_callA [0, 2] (find_A s mg tm now g cc b) (by rfl) (by rfl) (by rfl) (by rfl) (by rfl) ?_
    | refine O_callA [0, 3] (find_A s mg tm now g cc b) (by rfl) (by rfl) (by rfl) (by rfl) (by rfl) ?_
    | refine O_callA [0, 4] (find_A s mg tm now g cc b) (by rfl) (by rfl) (by rfl) (by rfl) (by rfl) ?_
    | refine O_callA [0, 5] (find_A s mg tm now g cc b) (by rfl) (by rfl) (by rfl) (by rfl) (by rfl) ?_
    | refine O_callA [1, 0] (find_A s mg tm now g cc b) (by rfl) (by rfl) (by rfl) (by rfl) (by rfl) ?_
    | refine O_callA [1, 1] (find_A s mg tm now g cc b) (by rfl) (by rfl) (by rfl) (by rfl) (by rfl) ?_
    | refine O_callA [1, 2] (find_A s mg tm now g cc b) (by rfl) (by rfl) (by rfl) (by rfl) (by rfl) ?_
    | refine O_callA [1, 3] (find_A s mg tm now g cc b) (by rfl) (by rfl) (by rfl) (by rfl) (by rfl) ?_
    | refine O_callA [1, 4] (find_A s mg tm now g cc b) (by rfl) (by rfl) (by rfl) (by rfl) (by rfl) ?_
    | refine O_callA [1, 5] (find_A s mg tm now g cc b) (by rfl) (by rfl) (by rfl) (by rfl) (by rfl) ?_
    | refine O_callA [2, 0] (find_A s mg tm now g cc b) (by rfl) (by rfl) (by rfl) (by rfl) (by rfl) ?_
    | refine O_callA [2, 1] (find_A s mg tm now g cc b) (by rfl) (by rfl) (by rfl) (by rfl) (by rfl) ?_
    | refine O_callA [2, 2] (find_A s mg tm now g cc b) (by rfl) (by rfl) (by rfl) (by rfl) (by rfl) ?_
    | refine O_callA [2, 3] (find_A s mg tm now g cc b) (by rfl) (by rfl) (by rfl) (by rfl) (by rfl) ?_
    | refine O_callA [2, 4] (find_A s mg tm now g cc b) (by rfl) (by rfl) (by rfl) (by rfl) (by rfl) ?_
    | refine O_callA [2, 5] (find_A s mg tm now g cc b) (by rfl) (by rfl) (by rfl) (by rfl) (by rfl) ?_
    | refine O_callA [3, 0] (find_A s mg tm now g cc b) (by rfl) (by rfl) (by rfl) (by rfl) (by rfl) ?_
    | refine O_callA [3, 1] (find_A s mg tm now g cc b) (by rfl) (by rfl) (by rfl) (by rfl) (by rfl) ?_
    | refine O_callA [3, 2] (find_A s mg tm now g cc b) (by rfl) (by rfl) (by rfl) (by rfl) (by rfl) ?_
    | refine O_callA [3, 3] (find_A s mg tm now g cc b) (by rfl) (by rfl) (by rfl) (by rfl) (by rfl) ?_
    | refine O_callA [3, 4] (find_A s mg tm now g cc b) (by rfl) (by rfl) (by rfl) (by rfl) (by rfl) ?_
    | refine O_callA [3, 5] (find_A s mg tm now g cc b) (by rfl) (by rfl) (by rfl) (by rfl) (by rfl) ?_
    | refine O_callA [4, 0] (find_A s mg tm now g cc b) (by rfl) (by rfl) (by rfl) (by rfl) (by rfl) ?_
    | refine O_callA [4, 1] (find_A s mg tm now g cc b) (by rfl) (by rfl) (by rfl) (by rfl) (by rfl) ?_
    | refine O_callA [4, 2] (find_A s mg tm now g cc b) (by rfl) (by rfl) (by rfl) (by rfl) (by rfl) ?_
    | refine O_callA [4, 3] (find_A s mg tm now g cc b) (by rfl) (by rfl) (by rfl) (by rfl) (by rfl) ?_
    | refine O_callA [4, 4] (find_A s mg tm now g cc b) (by rfl) (by rfl) (by rfl) (by rfl) (by rfl) ?_
    | refine O_callA [4, 5] (find_A s mg tm now g cc b) (by rfl) (by rfl) (by rfl) (by rfl) (by rfl) ?_
    | refine O_callA [5, 0] (find_A s mg tm now g cc b) (by rfl) (by rfl) (by rfl) (by rfl) (by rfl) ?_
    | refine O_callA [5, 1] (find_A s mg tm now g cc b) (by rfl) (by rfl) (by rfl) (by rfl) (by rfl) ?_
    | refine O_callA [5, 2] (find_A s mg tm now g cc b) (by rfl) (by rfl) (by rfl) (by rfl) (by rfl) ?_
    | refine O_callA [5, 3] (find_A s mg tm now g cc b) (by rfl) (by rfl) (by rfl) (by rfl) (by rfl) ?_
    | refine O_callA [5, 4] (find_A s mg tm now g cc b) (by rfl) (by rfl) (by rfl) (by rfl) (by rfl) ?_
    | refine O_callA [5, 5] (find_A s mg tm now g cc b) (by rfl) (by rfl) (by rfl) (by rfl) (by rfl) ?_
    | refine O_callA [6, 0] (find_A s mg tm now g cc b) (by rfl) (by rfl) (by rfl) (by rfl) (by rfl) ?_
    | refine O_callA [6, 1] (find_A s mg tm now g cc b) (by rfl) (by rfl) (by rfl) (by rfl) (by rfl) ?_
    | refine O_callA [6, 2] (find_A s mg tm now g cc b) (by rfl) (by rfl) (by rfl) (by rfl) (by rfl) ?_
    | refine O_callA [6, 3] (find_A s mg tm now g cc b) (by rfl) (by rfl) (by rfl) (by rfl) (by rfl) ?_
    | refine O_callA [6, 4] (find_A s mg tm now g cc b) (by rfl) (by rfl) (by rfl) (by rfl) (by rfl) ?_
    | refine O_callA [6, 5] (find_A s mg tm now g cc b) (by rfl) (by rfl) (by rfl) (by rfl) (by rfl) ?_
  rintro r' cs' ⟨rfl, rfl⟩
  repeat (first|refine sc rfl ?_|refine so rfl ?_|refine sb rfl ?_)
  refine C_false rfl rfl ?_
  repeat (first|refine sc rfl ?_|refine so rfl ?_|refine sb rfl ?_)
  first
    | refine O_callA [0] (takes_A b [] 0 0 (-1) (.slice none 0 0)) (by rfl) (by rfl) (by rfl) (by rfl) (by rfl) ?_
    | refine O_callA [1] (takes_A b [] 0 0 (-1) (.slice none 0 0)) (by rfl) (by rfl) (by rfl) (by rfl) (by rfl) ?_
    | refine O_callA [2] (takes_A b [] 0 0 (-1) (.slice none 0 0)) (by rfl) (by rfl) (by rfl) (by rfl) (by rfl) ?_
    | refine O_callA [3] (takes_A b [] 0 0 (-1) (.slice none 0 0)) (by rfl) (by rfl) (by rfl) (by rfl) (by rfl) ?_
    | refine O_callA [4] (takes_A b [] 0 0 (-1) (.slice none 0 0)) (by rfl) (by rfl) (by rfl) (by rfl) (by rfl) ?_
  rintro r' cs' ⟨rfl, rfl⟩
  repeat (first|refine sc rfl ?_|refine so rfl ?_|refine sb rfl ?_)
  refine C_false rfl rfl ?_
  repeat (first|refine sc rfl ?_|refine so rfl ?_|refine sb rfl ?_)
  first
    | refine O_callA [0] (fPush_A b 0 (-1) (.slice none 0 0)) (by rfl) (by rfl) (by rfl) (by rfl) (by rfl) ?_
    | refine O_callA [1] (fPush_A b 0 (-1) (.slice none 0 0)) (by rfl) (by rfl) (by rfl) (by rfl) (by rfl) ?_
    | refine O_callA [2] (fPush_A b 0 (-1) (.slice none 0 0)) (by rfl) (by rfl) (by rfl) (by rfl) (by rfl) ?_
    | refine O_callA [3] (fPush_A b 0 (-1) (.slice none 0 0)) (by rfl) (by rfl) (by rfl) (by rfl) (by rfl) ?_
    | refine O_callA [4] (fPush_A b 0 (-1) (.slice none 0 0)) (by rfl) (by rfl) (by rfl) (by rfl) (by rfl) ?_
  rintro r' cs' ⟨rfl, rfl⟩
  repeat (first|refine sc rfl ?_|refine so rfl ?_|refine sb rfl ?_)
  first
    | exact ⟨_, [_, _, _], _, rfl, pickA_perm (is := [1, 1, 0]) (As := [_, _, _]) rfl, rfl, rfl, rfl⟩
    | exact ⟨_, [_, _, _], _, rfl, pickA_perm (is := [0, 0, 0]) (As := [_, _, _]) rfl, rfl, rfl, rfl⟩
theorem cTakes_A (s mg tm : Nat) (now : Int) (g cc b : Nat) (st own : Int) (out : Value) : FnA Tryz.prog 133 [PT s 67, I64 0] (srvL3 s mg tm now g cc b st own out) (fun r cs' => r = B (decide (st < 2)) ∧ cs' = srvL3 s mg tm now g cc b st own out) := by
  refine FnA.intro Tryz.tabOK Tryz.wide_ Tryz.func133 rfl (by decide) rfl (fun X => ?_)
  repeat (first|refine sc rfl ?_|refine so rfl ?_|refine sb rfl ?_)
  first
    | refine O_callA [0, 0] (find_A s mg tm now g cc b) (by rfl) (by rfl) (by rfl) (by rfl) (by rfl) ?_
    | refine O_callA [0, 1] (find_A s mg tm now g cc b) (by rfl) (by rfl) (by rfl) (by rfl) (by rfl) ?_
    | refine O_callA [0, 2] (find_A s mg tm now g cc b) (by rfl) (by rfl) (by rfl) (by rfl) (by rfl) ?_
    | refine O_callA [0, 3] (find_A s mg tm now g cc b) (by rfl) (by rfl) (by rfl) (by rfl) (by rfl) ?_
    | refine O_callA [0, 4] (find_A s mg tm now g cc b) (by rfl) (by rfl) (by rfl) (by rfl) (by rfl) ?_
    | refine O_callA [0, 5] (find_A s mg tm now g cc b) (by rfl) (by rfl) (by rfl) (by rfl) (by rfl) ?_
    | refine O_callA [1, 0] (find_A s mg tm now g cc b) (by rfl) (by rfl) (by rfl) (by rfl) (by rfl) ?_
    | refine O_callA [1, 1] (find_A s mg tm now g cc b) (by rfl) (by rfl) (by rfl) (by rfl) (by rfl) ?_
    | refine O_callA [1, 2] (find_A s mg tm now g cc b) (by rfl) (by rfl) (by rfl) (by rfl) (by rfl) ?_
    | refine O_callA [1, 3] (find_A s mg tm now g cc b) (by rfl) (by rfl) (by rfl) (by rfl) (by rfl) ?_
    | refine O_callA [1, 4] (find_A s mg tm now g cc b) (by rfl) (by rfl) (by rfl) (by rfl) (by rfl) ?_
    | refine O_callA [1, 5] (find_A s mg tm now g cc b) (by rfl) (by rfl) (by rfl) (by rfl) (by rfl) ?_
    | refine O_callA [2, 0] (find_A s mg tm now g cc b) (by rfl) (by rfl) (by rfl) (by rfl) (by rfl) ?_
    | refine O_callA [2, 1] (find_A s mg tm now g cc b) (by rfl) (by rfl) (by rfl) (by rfl) (by rfl) ?_
    | refine O_callA [2, 2] (find_A s mg tm now g cc b) (by rfl) (by rfl) (by rfl) (by rfl) (by rfl) ?_
    | refine O_callA [2, 3] (find_A s mg tm now g cc b) (by rfl) (by rfl) (by rfl) (by rfl) (by rfl) ?_
    | refine O_callA [2, 4] (find_A s mg tm now g cc b) (by rfl) (by rfl) (by rfl) (by rfl) (by rfl) ?_
    | refine O_callA [2, 5] (find_A s mg tm now g cc b) (by rfl) (by rfl) (by rfl) (by rfl) (by rfl) ?_
    | refine O_callA [3, 0] (find_A s mg tm now g cc b) (by rfl) (by rfl) (by rfl) (by rfl) (by rfl) ?_
    | refine O_callA [3, 1] (find_A s mg tm now g cc b) (by rfl) (by rfl) (by rfl) (by rfl) (by rfl) ?_
    | refine O_callA [3, 2] (find_A s mg tm now g cc b) (by rfl) (by rfl) (by rfl) (by rfl) (by rfl) ?_
    | refine O_callA [3, 3] (find_A s mg tm now g cc b) (by rfl) (by rfl) (by rfl) (by rfl) (by rfl) ?_
    | refine O_callA [3, 4] (find_A s mg tm now g cc b) (by rfl) (by rfl) (by rfl) (by rfl) (by rfl) ?_
    | refine O_callA [3, 5] (find_A s mg tm now g cc b) (by rfl) (by rfl) (by rfl) (by rfl) (by rfl) ?_
    | refine O_callA [4, 0] (find_A s mg tm now g cc b) (by rfl) (by rfl) (by rfl) (by rfl) (by rfl) ?_
    | refine O_callA [4, 1] (find_A s mg tm now g cc b) (by rfl) (by rfl) (by rfl) (by rfl) (by rfl) ?_
    | refine O_callA [4, 2] (find_A s mg tm now g cc b) (by rfl) (by rfl) (by rfl) (by rfl) (by rfl) ?_
    | refine O_callA [4, 3] (find_A s mg tm now g cc b) (by rfl) (by rfl) (by rfl) (by rfl) (by rfl) ?_
    | refine O_callA [4, 4] (find_A s mg tm now g cc b) (by rfl) (by rfl) (by rfl) (by rfl) (by rfl) ?_
    | refine O_callA [4, 5] (find_A s mg tm now g cc b) (by rfl) (by rfl) (by rfl) (by rfl) (by rfl) ?_
    | refine O_callA [5, 0] (find_A s mg tm now g cc b) (by rfl) (by rfl) (by rfl) (by rfl) (by rfl) ?_
    | refine O_callA [5, 1] (find_A s mg tm now g cc b) (by rfl) (by rfl) (by rfl) (by rfl) (by rfl) ?_
    | refine O_callA [5, 2] (find_A s mg tm now g cc b) (by rfl) (by rfl) (by rfl) (by rfl) (by rfl) ?_
    | refine O_callA [5, 3] (find_A s mg tm now g cc b) (by rfl) (by rfl) (by rfl) (by rfl) (by rfl) ?_
    | refine O_callA [5, 4] (find_A s mg tm now g cc b) (by rfl) (by rfl) (by rfl) (by rfl) (by rfl) ?_
    | refine O_callA [5, 5] (find_A s mg tm now g cc b) (by rfl) (by rfl) (by rfl) (by rfl) (by rfl) ?_
    | refine O_callA [6, 0] (find_A s mg tm now g cc b) (by rfl) (by rfl) (by rfl) (by rfl) (by rfl) ?_
    | refine O_callA [6, 1] (find_A s mg tm now g cc b) (by rfl) (by rfl) (by rfl) (by rfl) (by rfl) ?_
    | refine O_callA [6, 2] (find_A s mg tm now g cc b) (by rfl) (by rfl) (by rfl) (by rfl) (by rfl) ?_
    | refine O_callA [6, 3] (find_A s mg tm now g cc b) (by rfl) (by rfl) (by rfl) (by rfl) (by rfl) ?_
    | refine O_callA [6, 4] (find_A s mg tm now g cc b) (by rfl) (by rfl) (by rfl) (by rfl) (by rfl) ?_
    | refine O_callA [6, 5] (find_A s mg tm now g cc b) (by rfl) (by rfl) (by rfl) (by rfl) (by rfl) ?_
  rintro r' cs' ⟨rfl, rfl⟩
  repeat (first|refine sc rfl ?_|refine so rfl ?_|refine sb rfl ?_)
  first
    | refine O_callA [0] (takes_A b [] 0 st own out) (by rfl) (by rfl) (by rfl) (by rfl) (by rfl) ?_
    | refine O_callA [1] (takes_A b [] 0 st own out) (by rfl) (by rfl) (by rfl) (by rfl) (by rfl) ?_
    | refine O_callA [2] (takes_A b [] 0 st own out) (by rfl) (by rfl) (by rfl) (by rfl) (by rfl) ?_
    | refine O_callA [3] (takes_A b [] 0 st own out) (by rfl) (by rfl) (by rfl) (by rfl) (by rfl) ?_
    | refine O_callA [4] (takes_A b [] 0 st own out) (by rfl) (by rfl) (by rfl) (by rfl) (by rfl) ?_
  rintro r' cs' ⟨rfl, rfl⟩
  repeat (first|refine sc rfl ?_|refine so rfl ?_|refine sb rfl ?_)
  first
    | exact ⟨_, [_, _, _], _, rfl, pickA_perm (is := [1, 1, 0]) (As := [_, _, _]) rfl, rfl, rfl, rfl⟩
    | exact ⟨_, [_, _, _], _, rfl, pickA_perm (is := [0, 0, 0]) (As := [_, _, _]) rfl, rfl, rfl, rfl⟩
theorem fBroken_A (b : Nat) (st own : Int) (out : Value) : FnA Tryz.prog 195 [PT b 0] [lnA b [] 0 st own out] (fun r cs' => r = I64 0 ∧ cs' = [lnA b [] 0 st own out]) := by
  refine FnA.intro Tryz.tabOK Tryz.wide_ Tryz.func195 rfl (by decide) rfl (fun X => ?_)
  repeat (first|refine sc rfl ?_|refine so rfl ?_|refine sb rfl ?_)
  refine O_Xd (X_ptrnil Tryz.underlying370 rfl rfl rfl) ?_
  repeat (first|refine sc rfl ?_|refine so rfl ?_|refine sb rfl ?_)
  refine C_false rfl rfl ?_
  repeat (first|refine sc rfl ?_|refine so rfl ?_|refine sb rfl ?_)
  first
    | refine O_loadP 0 (reads_box 1) rfl rfl rfl rfl rfl rfl ?_
    | refine O_loadP 1 (reads_box 1) rfl rfl rfl rfl rfl rfl ?_
    | refine O_loadP 2 (reads_box 1) rfl rfl rfl rfl rfl rfl ?_
    | refine O_loadP 3 (reads_box 1) rfl rfl rfl rfl rfl rfl ?_
    | refine O_loadP 4 (reads_box 1) rfl rfl rfl rfl rfl rfl ?_
  repeat (first|refine sc rfl ?_|refine so rfl ?_|refine sb rfl ?_)
  first
    | exact ⟨_, [_], _, rfl, pickA_perm (is := [0]) (As := [_]) rfl, rfl, rfl, rfl⟩
    | exact ⟨_, [_], _, rfl, pickA_perm (is := [1]) (As := [_]) rfl, rfl, rfl, rfl⟩
    | exact ⟨_, [_], _, rfl, pickA_perm (is := [2]) (As := [_]) rfl, rfl, rfl, rfl⟩
    | exact ⟨_, [_], _, rfl, pickA_perm (is := [3]) (As := [_]) rfl, rfl, rfl, rfl⟩
    | exact ⟨_, [_], _, rfl, pickA_perm (is := [4]) (As := [_]) rfl, rfl, rfl, rfl⟩
theorem cBroken_A (s mg tm : Nat) (now : Int) (g cc b : Nat) (st own : Int) (out : Value) : FnA Tryz.prog 135 [PT s 67, I64 0] (srvL3 s mg tm now g cc b st own out) (fun r cs' => r = I64 0 ∧ cs' = srvL3 s mg tm now g cc b st own out) := by
  refine FnA.intro Tryz.tabOK Tryz.wide_ Tryz.func135 rfl (by decide) rfl (fun X => ?_)
  repeat (first|refine sc rfl ?_|refine so rfl ?_|refine sb rfl ?_)
  first
    | refine O_callA [0, 0] (find_A s mg tm now g cc b) (by rfl) (by rfl) (by rfl) (by rfl) (by rfl) ?_
    | refine O_callA [0, 1] (find_A s mg tm now g cc b) (by rfl) (by rfl) (by rfl) (by rfl) (by rfl) ?_
    | refine O_callA [0, 2] (find_A s mg tm now g cc b) (by rfl) (by rfl) (by rfl) (by rfl) (by rfl) ?_
    | refine O_callA [0, 3] (find_A s mg tm now g cc b) (by rfl) (by rfl) (by rfl) (by rfl) (by rfl) ?_
    | refine O_callA [0, 4] (find_A s mg tm now g cc b) (by rfl) (by rfl) (by rfl) (by rfl) (by rfl) ?_
    | refine O_callA [0, 5] (find_A s mg tm now g cc b) (by rfl) (by rfl) (by rfl) (by rfl) (by rfl) ?_
    | refine O_callA [1, 0] (find_A s mg tm now g cc b) (by rfl) (by rfl) (by rfl) (by rfl) (by rfl) ?_
    | refine O_callA [1, 1] (find_A s mg tm now g cc b) (by rfl) (by rfl) (by rfl) (by rfl) (by rfl) ?_
    | refine O_callA [1, 2] (find_A s mg tm now g cc b) (by rfl) (by rfl) (by rfl) (by rfl) (by rfl) ?_
    | refine O_callA [1, 3] (find_A s mg tm now g cc b) (by rfl) (by rfl) (by rfl) (by rfl) (by rfl) ?_
    | refine O_callA [1, 4] (find_A s mg tm now g cc b) (by rfl) (by rfl) (by rfl) (by rfl) (by rfl) ?_
    | refine O_callA [1, 5] (find_A s mg tm now g cc b) (by rfl) (by rfl) (by rfl) (by rfl) (by rfl) ?_
    | refine O_callA [2, 0] (find_A s mg tm now g cc b) (by rfl) (by rfl) (by rfl) (by rfl) (by rfl) ?_
    | refine O_callA [2, 1] (find_A s mg tm now g cc b) (by rfl) (by rfl) (by rfl) (by rfl) (by rfl) ?_
    | refine O_callA [2, 2] (find_A s mg tm now g cc b) (by rfl) (by rfl) (by rfl) (by rfl) (by rfl) ?_
    | refine O_callA [2, 3] (find_A s mg tm now g cc b) (by rfl) (by rfl) (by rfl) (by rfl) (by rfl) ?_
    | refine O_callA [2, 4] (find_A s mg tm now g cc b) (by rfl) (by rfl) (by rfl) (by rfl) (by rfl) ?_
    | refine O_callA [2, 5] (find_A s mg tm now g cc b) (by rfl) (by rfl) (by rfl) (by rfl) (by rfl) ?_
    | refine O_callA [3, 0] (find_A s mg tm now g cc b) (by rfl) (by rfl) (by rfl) (by rfl) (by rfl) ?_
    | refine O_callA [3, 1] (find_A s mg tm now g cc b) (by rfl) (by rfl) (by rfl) (by rfl) (by rfl) ?_
    | refine O_callA [3, 2] (find_A s mg tm now g cc b) (by rfl) (by rfl) (by rfl) (by rfl) (by rfl) ?_
    | refine O_callA [3, 3] (find_A s mg tm now g cc b) (by rfl) (by rfl) (by rfl) (by rfl) (by rfl) ?_
    | refine O_callA [3, 4] (find_A s mg tm now g cc b) (by rfl) (by rfl) (by rfl) (by rfl) (by rfl) ?_
    | refine O_callA [3, 5] (find_A s mg tm now g cc b) (by rfl) (by rfl) (by rfl) (by rfl) (by rfl) ?_
    | refine O_callA [4, 0] (find_A s mg tm now g cc b) (by rfl) (by rfl) (by rfl) (by rfl) (by rfl) ?_
    | refine O_callA [4, 1] (find_A s mg tm now g cc b) (by rfl) (by rfl) (by rfl) (by rfl) (by rfl) ?_
    | refine O_callA [4, 2] (find_A s mg tm now g cc b) (by rfl) (by rfl) (by rfl) (by rfl) (by rfl) ?_
    | refine O_callA [4, 3] (find_A s mg tm now g cc b) (by rfl) (by rfl) (by rfl) (by rfl) (by rfl) ?_
    | refine O_callA [4, 4] (find_A s mg tm now g cc b) (by rfl) (by rfl) (by rfl) (by rfl) (by rfl) ?_
    | refine O_callA [4, 5] (find_A s mg tm now g cc b) (by rfl) (by rfl) (by rfl) (by rfl) (by rfl) ?_
    | refine O_callA [5, 0] (find_A s mg tm now g cc b) (by rfl) (by rfl) (by rfl) (by rfl) (by rfl) ?_
    | refine O_callA [5, 1] (find_A s mg tm now g cc b) (by rfl) (by rfl) (by rfl) (by rfl) (by rfl) ?_
    | refine O_callA [5, 2] (find_A s mg tm now g cc b) (by rfl) (by rfl) (by rfl) (by rfl) (by rfl) ?_
    | refine O_callA [5, 3] (find_A s mg tm now g cc b) (by rfl) (by rfl) (by rfl) (by rfl) (by rfl) ?_
    | refine O_callA [5, 4] (find_A s mg tm now g cc b) (by rfl) (by rfl) (by rfl) (by rfl) (by rfl) ?_
    | refine O_callA [5, 5] (find_A s mg tm now g cc b) (by rfl) (by rfl) (by rfl) (by rfl) (by rfl) ?_
    | refine O_callA [6, 0] (find_A s mg tm now g cc b) (by rfl) (by rfl) (by rfl) (by rfl) (by rfl) ?_
    | refine O_callA [6, 1] (find_A s mg tm now g cc b) (by rfl) (by rfl) (by rfl) (by rfl) (by rfl) ?_
    | refine O_callA [6, 2] (find_A s mg tm now g cc b) (by rfl) (by rfl) (by rfl) (by rfl) (by rfl) ?_
    | refine O_callA [6, 3] (find_A s mg tm now g cc b) (by rfl) (by rfl) (by rfl) (by rfl) (by rfl) ?_
    | refine O_callA [6, 4] (find_A s mg tm now g cc b) (by rfl) (by rfl) (by rfl) (by rfl) (by rfl) ?_
    | refine O_callA [6, 5] (find_A s mg tm now g cc b) (by rfl) (by rfl) (by rfl) (by rfl) (by rfl) ?_
  rintro r' cs' ⟨rfl, rfl⟩
  repeat (first|refine sc rfl ?_|refine so rfl ?_|refine sb rfl ?_)
  refine C_false rfl rfl ?_
  repeat (first|refine sc rfl ?_|refine so rfl ?_|refine sb rfl ?_)
  first
    | refine O_callA [0] (fBroken_A b st own out) (by rfl) (by rfl) (by rfl) (by rfl) (by rfl) ?_
    | refine O_callA [1] (fBroken_A b st own out) (by rfl) (by rfl) (by rfl) (by rfl) (by rfl) ?_
    | refine O_callA [2] (fBroken_A b st own out) (by rfl) (by rfl) (by rfl) (by rfl) (by rfl) ?_
    | refine O_callA [3] (fBroken_A b st own out) (by rfl) (by rfl) (by rfl) (by rfl) (by rfl) ?_
    | refine O_callA [4] (fBroken_A b st own out) (by rfl) (by rfl) (by rfl) (by rfl) (by rfl) ?_
  rintro r' cs' ⟨rfl, rfl⟩
  repeat (first|refine sc rfl ?_|refine so rfl ?_|refine sb rfl ?_)
  first
    | exact ⟨_, [_, _, _], _, rfl, pickA_perm (is := [1, 1, 0]) (As := [_, _, _]) rfl, rfl, rfl, rfl⟩
    | exact ⟨_, [_, _, _], _, rfl, pickA_perm (is := [0, 0, 0]) (As := [_, _, _]) rfl, rfl, rfl, rfl⟩
theorem greet_A (s mg tm : Nat) (now : Int) (g cc b : Nat) : FnA Tryz.prog 193 [PT s 0, I64 0, .agg [I64 5, I64 0, .s []]] (srvL3 s mg tm now g cc b 0 (-1) (.slice none 0 0)) (fun r cs' => ∃ h d, 1 ≤ d ∧ r = .tup [I64 (-1), I64 16] ∧ cs' = srvL3 s mg tm now g cc b 2 (-1) (HD h 1 d) ++ [outA (HD h 1 d) (rfail 0 16)]) := by
  refine FnA.intro Tryz.tabOK Tryz.wide_ Tryz.func193 rfl (by decide) rfl (fun X => ?_)
  repeat (first|refine sc rfl ?_|refine so rfl ?_|refine sb rfl ?_)
  refine C_le _ (Le.freezebox 5 rfl rfl rfl) ?_
  refine C_drawD rfl (by kernel_rfl) ?_
  repeat (first|refine sd rfl ?_|refine sdb rfl ?_|refine sds rfl ?_)
  refine D_X (PT mg 0) (X_loadP 0 (reads_box 0) rfl rfl rfl rfl rfl rfl) ?_
  repeat (first|refine sd rfl ?_|refine sdb rfl ?_|refine sds rfl ?_)
  refine D_call (verify0_c mg) rfl rfl rfl rfl ?_
  repeat (first|refine sd rfl ?_|refine sdb rfl ?_|refine sds rfl ?_)
  repeat (first|refine sc rfl ?_|refine so rfl ?_|refine sb rfl ?_)
  refine C_false rfl rfl ?_
  repeat (first|refine sc rfl ?_|refine so rfl ?_|refine sb rfl ?_)
  refine C_drawU 20 5 rfl (by kernel_rfl) (by kernel_rfl) (by kernel_rfl) ?_
  repeat (first|refine sd rfl ?_|refine sdb rfl ?_|refine sds rfl ?_)
  refine D_call (rFail_p 0 16 (by decide)) rfl rfl rfl rfl ?_
  refine O_callA [0, 0, 0] (send_A s mg tm now g cc b [] (rfail 0 16) 0 (-1)) (by rfl) (by rfl) (by rfl) (by rfl) (by rfl) ?_
  rintro r' cs' ⟨h, d, hd, rfl, rfl⟩
  repeat (first|refine sc rfl ?_|refine so rfl ?_|refine sb rfl ?_)
  refine O_callA [0, 0, 0] (shut_A s mg tm now g cc b [] 0 (-1) (HD h 1 d)) (by rfl) (by rfl) (by rfl) (by rfl) (by rfl) ?_
  rintro r' cs' ⟨rfl, rfl⟩
  repeat (first|refine sc rfl ?_|refine so rfl ?_|refine sb rfl ?_)
  exact ⟨_, [_, _, _, _], _, rfl, pickA_perm (is := [0, 0, 0, 0]) (As := [_, _, _, _]) rfl, rfl, h, d, hd, rfl, rfl⟩
def PQ1 : Pl := ⟨[[], [], [], [], [], [], [], [], [], [], [], [], [11]], [11], [(11, 7)], []⟩
def CQ1 (s mg tm : Nat) (now : Int) (g cc b : Nat) (x : Bool) : List Ch := .abs (srvL s mg tm now (HD g 1 cc)) :: .abs (lnsA (HD g 1 cc) b) :: .abs (lnA b [] 0 0 (-1) (.slice none 0 0)) ::
  (match x with
   | true => [.box 7 125 [I64 0, I64 0, I64 0, .s [], I64 0, .s []], .box 6 125 [I64 0, I64 0, I64 0, .s [], I64 0, .s []]]
   | false => [.box 6 125 [I64 0, I64 0, I64 0, .s [], I64 0, .s []]])
theorem come_A (s mg tm : Nat) (now : Int) (g cc b : Nat) : FnA Tryz.prog 134 [PT s 0, I64 0, .agg [I64 5, I64 0, .s []]] (srvL3 s mg tm now g cc b 0 (-1) (.slice none 0 0)) (fun r cs' => ∃ h d, 1 ≤ d ∧ r = .agg (Nte.c ⟨0, -1, 5, [], 16, []⟩) ∧ cs' = srvL3 s mg tm now g cc b 2 (-1) (HD h 1 d) ++ [outA (HD h 1 d) (rfail 0 16)]) := by
  refine FnA.intro Tryz.tabOK Tryz.wide_ Tryz.func134 rfl (by decide) rfl (fun X => ?_)
  repeat (first|refine sc rfl ?_|refine so rfl ?_|refine sb rfl ?_)
  refine C_le _ (Le.freezebox 5 rfl rfl rfl) ?_
  refine C_le ⟨[(5, .cp [I64 5, I64 0, .s []]), (6, .bp 6 0), (0, PT s 0), (1, I64 0)], CQ1 s mg tm now g cc b false⟩ (Le.pick [1, 1, 1, 0] ⟨rfl, rfl, rfl, rfl, trivial⟩ rfl) ?_
  refine C_drawMT PQ1 20 12 (fun L => CQ1 s mg tm now g cc b (L 11)) rfl (by kernel_rfl) (by kernel_rfl) (by kernel_rfl) (by kernel_rfl) (fun L L' h => by show CQ1 s mg tm now g cc b (L 11) = CQ1 s mg tm now g cc b (L' 11); rw [h 11 (by decide)]) rfl ?_
  repeat (refine sm rfl ⟨trivial, ?_⟩)
  refine SM (I64 (-1)) rfl (fun L h1 h2 h3 => ?_) ?_
  · show StepX _ _ _ _ _ (CQ1 s mg tm now g cc b (L 11)) (CQ1 s mg tm now g cc b (L 11)) _ _ _
    cases L 11 <;> exact X_callA [0, 0, 0] (owner_A s mg tm now g cc b [] 0 0 (-1) (.slice none 0 0)) rfl rfl rfl rfl rfl
  repeat (refine sm rfl ⟨trivial, ?_⟩)
  refine SM (.bp 7 0) rfl (fun L h1 h2 h3 => ?_) ?_
  · show StepX _ _ _ _ _ (CQ1 s mg tm now g cc b (L 11)) (CQ1 s mg tm now g cc b true) _ _ _
    rw [show L 11 = false from h3]
    exact (X_alloc rfl rfl rfl rfl (show ((11, 7) : Nat × Nat) ∈ PQ1.cre by decide) rfl rfl rfl).perm (List.perm_middle (l₁ := [Ch.abs (srvL s mg tm now (HD g 1 cc)), Ch.abs (lnsA (HD g 1 cc) b), Ch.abs (lnA b [] 0 0 (-1) (.slice none 0 0))])).symm
  refine sm rfl ?_
  refine O_le ⟨[(7, .bp 7 0), (18, .agg [I64 0, I64 (-1), I64 5, .s [], I64 0, .s []]), (5, .cp [I64 5, I64 0, .s []]), (6, .bp 6 0), (0, PT s 0), (1, I64 0)], CQ1 s mg tm now g cc b true⟩ (Le.pick [0, 0, 0, 0, 0] ⟨rfl, rfl, rfl, rfl, rfl, rfl, trivial⟩ rfl) ?_
  unfold CQ1
  repeat (first|refine sc rfl ?_|refine so rfl ?_|refine sb rfl ?_)
  refine C_true rfl (by decide) ?_
  repeat (first|refine sc rfl ?_|refine so rfl ?_|refine sb rfl ?_)
  refine O_callA [1, 1, 1] (greet_A s mg tm now g cc b) (by rfl) (by rfl) (by rfl) (by rfl) (by rfl) ?_
  rintro r' cs' ⟨h, d, hd, rfl, rfl⟩
  repeat (first|refine sc rfl ?_|refine so rfl ?_|refine sb rfl ?_)
  first
    | exact ⟨_, [_, _, _, _], _, rfl, pickA_perm (is := [2, 2, 2, 2]) (As := [_, _, _, _]) rfl, rfl, h, d, hd, rfl, rfl⟩
    | exact ⟨_, [_, _, _, _], _, rfl, pickA_perm (is := [0, 0, 0, 0]) (As := [_, _, _, _]) rfl, rfl, h, d, hd, rfl, rfl⟩
    | exact ⟨_, [_, _, _, _], _, rfl, pickA_perm (is := [1, 1, 1, 1]) (As := [_, _, _, _]) rfl, rfl, h, d, hd, rfl, rfl⟩
theorem recv_A (s mg tm : Nat) (now : Int) (g cc b : Nat) : FnA Tryz.prog 85 [PT s 0, I64 0, .s [5, 0, 0, 0]] (srvL3 s mg tm now g cc b 0 (-1) (.slice none 0 0)) (fun r cs' => ∃ h d, 1 ≤ d ∧ r = .tup [SL 6 Nte.c [⟨0, -1, 5, [], 16, []⟩], I64 0] ∧ cs' = srvL3 s mg tm now g cc b 2 (-1) (HD h 1 d) ++ [outA (HD h 1 d) (rfail 0 16)]) := by
  refine FnA.intro Tryz.tabOK Tryz.wide_ Tryz.func85 rfl (by decide) rfl (fun X => ?_)
  repeat (first|refine sc rfl ?_|refine so rfl ?_|refine sb rfl ?_)
  refine O_Xd (X_ptrnil Tryz.underlying61 rfl rfl rfl) ?_
  repeat (first|refine sc rfl ?_|refine so rfl ?_|refine sb rfl ?_)
  refine C_false rfl rfl ?_
  repeat (first|refine sc rfl ?_|refine so rfl ?_|refine sb rfl ?_)
  refine O_callA [0, 0, 0] (cPush_A s mg tm now g cc b) (by rfl) (by rfl) (by rfl) (by rfl) (by rfl) ?_
  rintro r' cs' ⟨rfl, rfl⟩
  repeat (first|refine sc rfl ?_|refine so rfl ?_|refine sb rfl ?_)
  refine C_false rfl rfl ?_
  repeat (first|refine sc rfl ?_|refine so rfl ?_|refine sb rfl ?_)
  refine C_le _ (Le.nilvec Nte.c 10 45 125 6 rfl rfl rfl) ?_
  refine C_loop (fun x : Option (Nat × Nat) => match x with
    | none => ⟨[(0, PT s 0), (1, I64 0), (10, .own 45), (27, SL 3 Frm.c [⟨5, 0, []⟩]), (28, I64 1), (29, I64 0)], VEC 45 125 6 Nte.c [] :: List.map Ch.abs (srvL3 s mg tm now g cc b 0 (-1) (.slice none 0 0))⟩
    | some hd => ⟨[(0, PT s 0), (1, I64 0), (10, .own 45), (27, SL 3 Frm.c [⟨5, 0, []⟩]), (28, I64 1), (29, I64 1)], VEC 45 125 6 Nte.c [⟨0, -1, 5, [], 16, []⟩] :: List.map Ch.abs (srvL3 s mg tm now g cc b 2 (-1) (HD hd.1 1 hd.2) ++ [outA (HD hd.1 1 hd.2) (rfail 0 16)])⟩)
    (fun x => match x with | none => True | some hd => 1 ≤ hd.2) (fun x => match x with | none => 1 | some _ => 0) none trivial (Le.pick [0, 0, 0, 0] ⟨rfl, rfl, rfl, rfl, rfl, rfl, trivial⟩ rfl) ?_
  rintro (_ | ⟨h, d⟩) hI
  · show SymC _ _ _ ⟨[(0, PT s 0), (1, I64 0), (10, .own 45), (27, SL 3 Frm.c [⟨5, 0, []⟩]), (28, I64 1), (29, I64 0)], VEC 45 125 6 Nte.c [] :: List.map Ch.abs (srvL3 s mg tm now g cc b 0 (-1) (.slice none 0 0))⟩ _
    repeat (first|refine sc rfl ?_|refine so rfl ?_|refine sb rfl ?_)
    refine C_true rfl (by decide) ?_
    repeat (first|refine sc rfl ?_|refine so rfl ?_|refine sb rfl ?_)
    refine ⟨by decide, ?_⟩
    repeat (first|refine sc rfl ?_|refine so rfl ?_|refine sb rfl ?_)
    first
      | refine O_callA [0, 0, 0] (cTakes_A s mg tm now g cc b 0 (-1) (.slice none 0 0)) (by rfl) (by rfl) (by rfl) (by rfl) (by rfl) ?_
      | refine O_callA [1, 1, 1] (cTakes_A s mg tm now g cc b 0 (-1) (.slice none 0 0)) (by rfl) (by rfl) (by rfl) (by rfl) (by rfl) ?_
      | refine O_callA [2, 2, 2] (cTakes_A s mg tm now g cc b 0 (-1) (.slice none 0 0)) (by rfl) (by rfl) (by rfl) (by rfl) (by rfl) ?_
      | refine O_callA [3, 3, 3] (cTakes_A s mg tm now g cc b 0 (-1) (.slice none 0 0)) (by rfl) (by rfl) (by rfl) (by rfl) (by rfl) ?_
      | refine O_callA [4, 4, 4] (cTakes_A s mg tm now g cc b 0 (-1) (.slice none 0 0)) (by rfl) (by rfl) (by rfl) (by rfl) (by rfl) ?_
    rintro r' cs' ⟨rfl, rfl⟩
    repeat (first|refine sc rfl ?_|refine so rfl ?_|refine sb rfl ?_)
    refine C_false rfl (by decide) ?_
    repeat (first|refine sc rfl ?_|refine so rfl ?_|refine sb rfl ?_)
    first
      | refine O_callA [0, 0, 0] (come_A s mg tm now g cc b) (by rfl) (by rfl) (by rfl) (by rfl) (by rfl) ?_
      | refine O_callA [1, 1, 1] (come_A s mg tm now g cc b) (by rfl) (by rfl) (by rfl) (by rfl) (by rfl) ?_
      | refine O_callA [2, 2, 2] (come_A s mg tm now g cc b) (by rfl) (by rfl) (by rfl) (by rfl) (by rfl) ?_
      | refine O_callA [3, 3, 3] (come_A s mg tm now g cc b) (by rfl) (by rfl) (by rfl) (by rfl) (by rfl) ?_
      | refine O_callA [4, 4, 4] (come_A s mg tm now g cc b) (by rfl) (by rfl) (by rfl) (by rfl) (by rfl) ?_
    rintro r' cs' ⟨h, d, hd, rfl, rfl⟩
    repeat (first|refine sc rfl ?_|refine so rfl ?_|refine sb rfl ?_)
    refine O_push Nte.c [] ⟨0, -1, 5, [], 16, []⟩ [(0, PT s 0), (1, I64 0), (27, SL 3 Frm.c [⟨5, 0, []⟩]), (28, I64 1), (29, I64 0)] rfl rfl rfl rfl rfl rfl rfl rfl rfl rfl ⟨rfl, rfl, rfl, rfl, rfl, trivial⟩ rfl rfl (by decide) (by decide) ?_
    repeat (first|refine sc rfl ?_|refine so rfl ?_|refine sb rfl ?_)
    refine ⟨some (h, d), hd, by show (0 : Nat) < 1; decide, ?_⟩
    first
      | exact Le.pick [0, 1, 1, 1, 1] ⟨rfl, rfl, rfl, rfl, rfl, rfl, trivial⟩ rfl
      | exact Le.pick [0, 0, 0, 0, 0] ⟨rfl, rfl, rfl, rfl, rfl, rfl, trivial⟩ rfl
      | exact Le.pick [0, 2, 2, 2, 2] ⟨rfl, rfl, rfl, rfl, rfl, rfl, trivial⟩ rfl
  · show SymC _ _ _ ⟨[(0, PT s 0), (1, I64 0), (10, .own 45), (27, SL 3 Frm.c [⟨5, 0, []⟩]), (28, I64 1), (29, I64 1)], VEC 45 125 6 Nte.c [⟨0, -1, 5, [], 16, []⟩] :: List.map Ch.abs (srvL3 s mg tm now g cc b 2 (-1) (HD h 1 d) ++ [outA (HD h 1 d) (rfail 0 16)])⟩ _
    refine C_le _ (Le.freezeL (l := [(⟨0, -1, 5, [], 16, []⟩ : Nte)]) (cells := Nte.c) 10 rfl rfl) ?_
    repeat (first|refine sc rfl ?_|refine so rfl ?_|refine sb rfl ?_)
    refine C_false rfl (by decide) ?_
    repeat (first|refine sc rfl ?_|refine so rfl ?_|refine sb rfl ?_)
    first
      | refine O_callA [0, 0, 0] (cBroken_A s mg tm now g cc b 2 (-1) (HD h 1 d)) (by rfl) (by rfl) (by rfl) (by rfl) (by rfl) ?_
      | refine O_callA [1, 1, 1] (cBroken_A s mg tm now g cc b 2 (-1) (HD h 1 d)) (by rfl) (by rfl) (by rfl) (by rfl) (by rfl) ?_
      | refine O_callA [2, 2, 2] (cBroken_A s mg tm now g cc b 2 (-1) (HD h 1 d)) (by rfl) (by rfl) (by rfl) (by rfl) (by rfl) ?_
      | refine O_callA [3, 3, 3] (cBroken_A s mg tm now g cc b 2 (-1) (HD h 1 d)) (by rfl) (by rfl) (by rfl) (by rfl) (by rfl) ?_
      | refine O_callA [4, 4, 4] (cBroken_A s mg tm now g cc b 2 (-1) (HD h 1 d)) (by rfl) (by rfl) (by rfl) (by rfl) (by rfl) ?_
    rintro r' cs' ⟨rfl, rfl⟩
    repeat (first|refine sc rfl ?_|refine so rfl ?_|refine sb rfl ?_)
    refine C_false rfl rfl ?_
    repeat (first|refine sc rfl ?_|refine so rfl ?_|refine sb rfl ?_)
    exact ⟨_, [_, _, _, _], _, rfl, pickA_perm (is := [0, 0, 0, 0]) (As := [_, _, _, _]) rfl, rfl, h, d, hI, rfl, rfl⟩
theorem paid_A (s mg tm : Nat) (now : Int) (g cc b h2 : Nat) (st : Int) (out : Value) (k : Nat) (hk : k ≤ 1) : FnA Tryz.prog 99 [PT s 0, I64 0, I64 (k : Nat)] (srvL3 s mg tm now g cc b st (-1) out ++ [tenM tm h2]) (fun r cs' => r = .tup [] ∧ cs' = srvL3 s mg tm now g cc b st (-1) out ++ [tenM tm h2]) := by
  refine FnA.intro Tryz.tabOK Tryz.wide_ Tryz.func99 rfl (by decide) rfl (fun X => ?_)
  repeat (first|refine sc rfl ?_|refine so rfl ?_|refine sb rfl ?_)
  refine C_drawD rfl (by kernel_rfl) ?_
  repeat (first|refine sd rfl ?_|refine sdb rfl ?_|refine sds rfl ?_)
  refine D_X (.v (.map (some tm))) (X_loadP 0 (reads_box 80) rfl rfl rfl rfl rfl rfl) ?_
  repeat (first|refine sd rfl ?_|refine sdb rfl ?_|refine sds rfl ?_)
  refine D_callA [0, 0, 0] (owner_A s mg tm now g cc b [] 0 st (-1) out) rfl rfl rfl rfl rfl ?_
  repeat (first|refine sd rfl ?_|refine sdb rfl ?_|refine sds rfl ?_)
  refine D_X (lookAV false (lookE (-1) [((0 : Int), PT h2 0)]) (.v (.pointer none))) (X_look 3 (es := [((0 : Int), PT h2 0)]) (z := .v (.pointer none)) iKz Tryz.underlying96 rfl rfl rep_np rfl rfl rfl rfl rfl rfl) ?_
  rw [show lookAV false (lookE (-1) [((0 : Int), PT h2 0)]) (.v (.pointer none)) = .v (.pointer none) from rfl]
  repeat (first|refine sd rfl ?_|refine sdb rfl ?_|refine sds rfl ?_)
  repeat (first|refine sc rfl ?_|refine so rfl ?_|refine sb rfl ?_)
  refine C_loop (fun i : Nat => ⟨[(6, .v (.pointer none)), (17, I64 (k : Nat)), (18, I64 (i : Nat))], List.map Ch.abs (srvL3 s mg tm now g cc b st (-1) out ++ [tenM tm h2])⟩) (fun i => i ≤ k) (fun i => k - i) 0 (Nat.zero_le _) (Le.pick [0, 0, 0, 0] ⟨rfl, rfl, rfl, trivial⟩ rfl) ?_
  intro i hi
  repeat (first|refine sc rfl ?_|refine so rfl ?_|refine sb rfl ?_)
  refine C_if rfl (fun k1 => ?_) (fun k1 => ?_) <;> simp only [pL] at k1
  · repeat (first|refine sc rfl ?_|refine so rfl ?_|refine sb rfl ?_)
    refine O_Xd (X_ptrnnil Tryz.underlying87 rfl rfl rfl) ?_
    repeat (first|refine sc rfl ?_|refine so rfl ?_|refine sb rfl ?_)
    refine C_false rfl rfl ?_
    repeat (first|refine sc rfl ?_|refine so rfl ?_|refine sb rfl ?_)
    rw [w64 (x := (i : Int) + 1) (by omega) (by omega)]
    exact ⟨i + 1, by omega, by omega, Le.pick [0, 0, 0, 0] ⟨rfl, rfl, rfl, trivial⟩ rfl⟩
  · repeat (first|refine sc rfl ?_|refine so rfl ?_|refine sb rfl ?_)
    exact ⟨_, [_, _, _, _], _, rfl, pickA_perm (is := [0, 0, 0, 0]) (As := [_, _, _, _]) rfl, rfl, rfl, rfl⟩
end Go.Proofs
