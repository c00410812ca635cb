/- Contracts: the reader of bytes, by functions that it is handed. -/
import Derived.Test.YtgdlhcaidfokkaaDoorD41
import Derived.Test.YtgdlhcaidfokkaaDoorSy24
set_option linter.unusedSimpArgs false
set_option linter.unusedVariables false
set_option maxRecDepth 100000
namespace Go.Proofs
open Go.Sy Go.Lib

theorem takeI_stop (b : List UInt8) (at_ : Nat) (e : Int) (R : RP) (he : e ≠ 0) : FnBox Tryd.prog 72 98 [.s b, I64 (at_ : Nat), I64 e] [.p R] (fun r cells => r = I64 0 ∧ cells = [.s b, I64 (at_ : Nat), I64 e]) := by
  refine FnBox.intro Tryd.tabOK Tryd.wide_ Tryd.func72 rfl (by decide) rfl rfl (fun X => ?_)
  repeat (first | refine sc rfl ?_ | refine so rfl ?_ | refine sb rfl ?_)
  refine O_isnil Tryd.underlying61 rfl rfl rfl ?_
  repeat (first | refine sc rfl ?_ | refine so rfl ?_ | refine sb rfl ?_)
  refine C_true rfl (by simpa using he) ?_
  repeat (first | refine sc rfl ?_ | refine so rfl ?_ | refine sb rfl ?_)
  exact ⟨_, _, _, rfl, rfl, rfl, rfl, rfl, rfl⟩

theorem takeI_err (b : List UInt8) (at_ : Nat) (R : RP) (f : FuncId) (caps : List AV) (k e2 : Int) (x : Int) (hclo : IsClo (.p R) f caps) (himm : (.p R : AV).imm = true) (hat : at_ ≤ b.length)
    (hf : FnP Tryd.prog f ([.s (b.drop at_)] ++ caps) (· = .tup [I64 x, I64 k, I64 e2])) (he : e2 ≠ 0) :
    FnBox Tryd.prog 72 98 [.s b, I64 (at_ : Nat), I64 0] [.p R] (fun r cells => r = I64 0 ∧ cells = [.s b, I64 (at_ : Nat), I64 e2]) := by
  refine FnBox.intro Tryd.tabOK Tryd.wide_ Tryd.func72 rfl (by decide) rfl rfl (fun X => ?_)
  repeat (first | refine sc rfl ?_ | refine so rfl ?_ | refine sb rfl ?_)
  refine O_isnil Tryd.underlying61 rfl rfl rfl ?_
  repeat (first | refine sc rfl ?_ | refine so rfl ?_ | refine sb rfl ?_)
  refine C_false rfl rfl ?_
  repeat (first | refine sc rfl ?_ | refine so rfl ?_ | refine sb rfl ?_)
  refine C_drawD rfl (by kernel_rfl) ?_
  repeat (first | refine sd rfl ?_ | refine ⟨by omega, ?_⟩)
  rw [Int.toNat_natCast]
  refine D_callV hclo himm hf rfl rfl rfl rfl rfl ?_
  repeat (first | refine sd rfl ?_)
  repeat (first | refine sc rfl ?_ | refine so rfl ?_ | refine sb rfl ?_)
  refine C_true rfl (by simpa using he) ?_
  repeat (first | refine sc rfl ?_ | refine so rfl ?_ | refine sb rfl ?_)
  exact ⟨_, _, _, rfl, rfl, rfl, rfl, rfl, rfl⟩

theorem takeI_ok (b : List UInt8) (at_ : Nat) (R : RP) (f : FuncId) (caps : List AV) (k : Nat) (x : Int) (hclo : IsClo (.p R) f caps) (himm : (.p R : AV).imm = true) (hat : at_ ≤ b.length)
    (hf : FnP Tryd.prog f ([.s (b.drop at_)] ++ caps) (· = .tup [I64 x, I64 (k : Nat), I64 0])) (hk : at_ + k ≤ b.length) (hb : b.length ≤ 9223372036854775000) :
    FnBox Tryd.prog 72 98 [.s b, I64 (at_ : Nat), I64 0] [.p R] (fun r cells => r = I64 x ∧ cells = [.s b, I64 ((at_ + k : Nat) : Int), I64 0]) := by
  refine FnBox.intro Tryd.tabOK Tryd.wide_ Tryd.func72 rfl (by decide) rfl rfl (fun X => ?_)
  repeat (first | refine sc rfl ?_ | refine so rfl ?_ | refine sb rfl ?_)
  refine O_isnil Tryd.underlying61 rfl rfl rfl ?_
  repeat (first | refine sc rfl ?_ | refine so rfl ?_ | refine sb rfl ?_)
  refine C_false rfl rfl ?_
  repeat (first | refine sc rfl ?_ | refine so rfl ?_ | refine sb rfl ?_)
  refine C_drawD rfl (by kernel_rfl) ?_
  repeat (first | refine sd rfl ?_ | refine ⟨by omega, ?_⟩)
  rw [Int.toNat_natCast]
  refine D_callV hclo himm hf rfl rfl rfl rfl rfl ?_
  repeat (first | refine sd rfl ?_)
  repeat (first | refine sc rfl ?_ | refine so rfl ?_ | refine sb rfl ?_)
  refine C_false rfl rfl ?_
  repeat (first | refine sc rfl ?_ | refine so rfl ?_ | refine sb rfl ?_)
  rw [w64 (by omega) (by omega)]
  repeat (first | refine sc rfl ?_ | refine so rfl ?_ | refine sb rfl ?_)
  exact ⟨_, _, _, rfl, rfl, rfl, rfl, rfl, rfl⟩

theorem takeU_stop (b : List UInt8) (at_ : Nat) (e : Int) (R : Value) (he : e ≠ 0) : FnBox Tryd.prog 75 98 [.s b, I64 (at_ : Nat), I64 e] [.v R] (fun r cells => r = U64 0 ∧ cells = [.s b, I64 (at_ : Nat), I64 e]) := by
  refine FnBox.intro Tryd.tabOK Tryd.wide_ Tryd.func75 rfl (by decide) rfl rfl (fun X => ?_)
  repeat (first | refine sc rfl ?_ | refine so rfl ?_ | refine sb rfl ?_)
  refine O_isnil Tryd.underlying61 rfl rfl rfl ?_
  repeat (first | refine sc rfl ?_ | refine so rfl ?_ | refine sb rfl ?_)
  refine C_true rfl (by simpa using he) ?_
  repeat (first | refine sc rfl ?_ | refine so rfl ?_ | refine sb rfl ?_)
  exact ⟨_, _, _, rfl, rfl, rfl, rfl, rfl, rfl⟩

theorem takeU_err (b : List UInt8) (at_ : Nat) (R : Value) (f : FuncId) (caps : List AV) (k e2 : Int) (x : Int) (hclo : IsClo (.v R) f caps) (himm : (.v R : AV).imm = true) (hat : at_ ≤ b.length)
    (hf : FnP Tryd.prog f ([.s (b.drop at_)] ++ caps) (· = .tup [U64 x, I64 k, I64 e2])) (he : e2 ≠ 0) :
    FnBox Tryd.prog 75 98 [.s b, I64 (at_ : Nat), I64 0] [.v R] (fun r cells => r = U64 0 ∧ cells = [.s b, I64 (at_ : Nat), I64 e2]) := by
  refine FnBox.intro Tryd.tabOK Tryd.wide_ Tryd.func75 rfl (by decide) rfl rfl (fun X => ?_)
  repeat (first | refine sc rfl ?_ | refine so rfl ?_ | refine sb rfl ?_)
  refine O_isnil Tryd.underlying61 rfl rfl rfl ?_
  repeat (first | refine sc rfl ?_ | refine so rfl ?_ | refine sb rfl ?_)
  refine C_false rfl rfl ?_
  repeat (first | refine sc rfl ?_ | refine so rfl ?_ | refine sb rfl ?_)
  refine C_drawD rfl (by kernel_rfl) ?_
  repeat (first | refine sd rfl ?_ | refine ⟨by omega, ?_⟩)
  rw [Int.toNat_natCast]
  refine D_callV hclo himm hf rfl rfl rfl rfl rfl ?_
  repeat (first | refine sd rfl ?_)
  repeat (first | refine sc rfl ?_ | refine so rfl ?_ | refine sb rfl ?_)
  refine C_true rfl (by simpa using he) ?_
  repeat (first | refine sc rfl ?_ | refine so rfl ?_ | refine sb rfl ?_)
  exact ⟨_, _, _, rfl, rfl, rfl, rfl, rfl, rfl⟩

theorem takeU_ok (b : List UInt8) (at_ : Nat) (R : Value) (f : FuncId) (caps : List AV) (k : Nat) (x : Int) (hclo : IsClo (.v R) f caps) (himm : (.v R : AV).imm = true) (hat : at_ ≤ b.length)
    (hf : FnP Tryd.prog f ([.s (b.drop at_)] ++ caps) (· = .tup [U64 x, I64 (k : Nat), I64 0])) (hk : at_ + k ≤ b.length) (hb : b.length ≤ 9223372036854775000) :
    FnBox Tryd.prog 75 98 [.s b, I64 (at_ : Nat), I64 0] [.v R] (fun r cells => r = U64 x ∧ cells = [.s b, I64 ((at_ + k : Nat) : Int), I64 0]) := by
  refine FnBox.intro Tryd.tabOK Tryd.wide_ Tryd.func75 rfl (by decide) rfl rfl (fun X => ?_)
  repeat (first | refine sc rfl ?_ | refine so rfl ?_ | refine sb rfl ?_)
  refine O_isnil Tryd.underlying61 rfl rfl rfl ?_
  repeat (first | refine sc rfl ?_ | refine so rfl ?_ | refine sb rfl ?_)
  refine C_false rfl rfl ?_
  repeat (first | refine sc rfl ?_ | refine so rfl ?_ | refine sb rfl ?_)
  refine C_drawD rfl (by kernel_rfl) ?_
  repeat (first | refine sd rfl ?_ | refine ⟨by omega, ?_⟩)
  rw [Int.toNat_natCast]
  refine D_callV hclo himm hf rfl rfl rfl rfl rfl ?_
  repeat (first | refine sd rfl ?_)
  repeat (first | refine sc rfl ?_ | refine so rfl ?_ | refine sb rfl ?_)
  refine C_false rfl rfl ?_
  repeat (first | refine sc rfl ?_ | refine so rfl ?_ | refine sb rfl ?_)
  rw [w64 (by omega) (by omega)]
  repeat (first | refine sc rfl ?_ | refine so rfl ?_ | refine sb rfl ?_)
  exact ⟨_, _, _, rfl, rfl, rfl, rfl, rfl, rfl⟩

theorem takeS_stop (b : List UInt8) (at_ : Nat) (e : Int) (R : Value) (he : e ≠ 0) : FnBox Tryd.prog 76 98 [.s b, I64 (at_ : Nat), I64 e] [.v R] (fun r cells => r = .s [] ∧ cells = [.s b, I64 (at_ : Nat), I64 e]) := by
  refine FnBox.intro Tryd.tabOK Tryd.wide_ Tryd.func76 rfl (by decide) rfl rfl (fun X => ?_)
  repeat (first | refine sc rfl ?_ | refine so rfl ?_ | refine sb rfl ?_)
  refine O_isnil Tryd.underlying61 rfl rfl rfl ?_
  repeat (first | refine sc rfl ?_ | refine so rfl ?_ | refine sb rfl ?_)
  refine C_true rfl (by simpa using he) ?_
  repeat (first | refine sc rfl ?_ | refine so rfl ?_ | refine sb rfl ?_)
  exact ⟨_, _, _, rfl, rfl, rfl, rfl, rfl, rfl⟩

theorem takeS_err (b : List UInt8) (at_ : Nat) (R : Value) (f : FuncId) (caps : List AV) (k e2 : Int) (x : List UInt8) (hclo : IsClo (.v R) f caps) (himm : (.v R : AV).imm = true) (hat : at_ ≤ b.length)
    (hf : FnP Tryd.prog f ([.s (b.drop at_)] ++ caps) (· = .tup [.s x, I64 k, I64 e2])) (he : e2 ≠ 0) :
    FnBox Tryd.prog 76 98 [.s b, I64 (at_ : Nat), I64 0] [.v R] (fun r cells => r = .s [] ∧ cells = [.s b, I64 (at_ : Nat), I64 e2]) := by
  refine FnBox.intro Tryd.tabOK Tryd.wide_ Tryd.func76 rfl (by decide) rfl rfl (fun X => ?_)
  repeat (first | refine sc rfl ?_ | refine so rfl ?_ | refine sb rfl ?_)
  refine O_isnil Tryd.underlying61 rfl rfl rfl ?_
  repeat (first | refine sc rfl ?_ | refine so rfl ?_ | refine sb rfl ?_)
  refine C_false rfl rfl ?_
  repeat (first | refine sc rfl ?_ | refine so rfl ?_ | refine sb rfl ?_)
  refine C_drawD rfl (by kernel_rfl) ?_
  repeat (first | refine sd rfl ?_ | refine ⟨by omega, ?_⟩)
  rw [Int.toNat_natCast]
  refine D_callV hclo himm hf rfl rfl rfl rfl rfl ?_
  repeat (first | refine sd rfl ?_)
  repeat (first | refine sc rfl ?_ | refine so rfl ?_ | refine sb rfl ?_)
  refine C_true rfl (by simpa using he) ?_
  repeat (first | refine sc rfl ?_ | refine so rfl ?_ | refine sb rfl ?_)
  exact ⟨_, _, _, rfl, rfl, rfl, rfl, rfl, rfl⟩

theorem takeS_ok (b : List UInt8) (at_ : Nat) (R : Value) (f : FuncId) (caps : List AV) (k : Nat) (x : List UInt8) (hclo : IsClo (.v R) f caps) (himm : (.v R : AV).imm = true) (hat : at_ ≤ b.length)
    (hf : FnP Tryd.prog f ([.s (b.drop at_)] ++ caps) (· = .tup [.s x, I64 (k : Nat), I64 0])) (hk : at_ + k ≤ b.length) (hb : b.length ≤ 9223372036854775000) :
    FnBox Tryd.prog 76 98 [.s b, I64 (at_ : Nat), I64 0] [.v R] (fun r cells => r = .s x ∧ cells = [.s b, I64 ((at_ + k : Nat) : Int), I64 0]) := by
  refine FnBox.intro Tryd.tabOK Tryd.wide_ Tryd.func76 rfl (by decide) rfl rfl (fun X => ?_)
  repeat (first | refine sc rfl ?_ | refine so rfl ?_ | refine sb rfl ?_)
  refine O_isnil Tryd.underlying61 rfl rfl rfl ?_
  repeat (first | refine sc rfl ?_ | refine so rfl ?_ | refine sb rfl ?_)
  refine C_false rfl rfl ?_
  repeat (first | refine sc rfl ?_ | refine so rfl ?_ | refine sb rfl ?_)
  refine C_drawD rfl (by kernel_rfl) ?_
  repeat (first | refine sd rfl ?_ | refine ⟨by omega, ?_⟩)
  rw [Int.toNat_natCast]
  refine D_callV hclo himm hf rfl rfl rfl rfl rfl ?_
  repeat (first | refine sd rfl ?_)
  repeat (first | refine sc rfl ?_ | refine so rfl ?_ | refine sb rfl ?_)
  refine C_false rfl rfl ?_
  repeat (first | refine sc rfl ?_ | refine so rfl ?_ | refine sb rfl ?_)
  rw [w64 (by omega) (by omega)]
  repeat (first | refine sc rfl ?_ | refine so rfl ?_ | refine sb rfl ?_)
  exact ⟨_, _, _, rfl, rfl, rfl, rfl, rfl, rfl⟩

end Go.Proofs
