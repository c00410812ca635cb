/- Contracts, part nineteen: the law ReplyPuts. -/
import Derived.Test.YtgdlhcaidfokkaaT19
set_option linter.unusedSimpArgs false
set_option linter.unusedVariables false
namespace Go.Proofs
open Go.Sy

set_option maxRecDepth 100000 in
theorem law35_p (m : Nat) (st : Int) (d : List UInt8) (n : Int) (hm : m < 18446744073709551616) (hd : d.length ≤ 140737488355308) : FnP Try.prog 9 [.agg [U64 (m : Int), I64 st, .s d], I64 n] (· = B true) := by
  refine FnP.intro Try.tabOK Try.wide_ Try.func9 rfl (by decide) rfl (fun X => ?_)
  repeat (first | refine sc rfl ?_ | refine so rfl ?_ | refine sb rfl ?_)
  refine O_call (ours35_p m st d) (by rfl) (by rfl) (by rfl) (by rfl) (fun r hr => ?_)
  subst hr
  refine O_call (rPut_p m st d hm hd) (by rfl) (by rfl) (by rfl) (by rfl) (fun r hr => ?_)
  subst hr
  repeat (first | refine sc rfl ?_ | refine so rfl ?_ | refine sb rfl ?_)
  refine O_call (refrPut_p m st d hm hd) (by rfl) (by rfl) (by rfl) (by rfl) (fun r hr => ?_)
  subst hr
  repeat (first | refine sc rfl ?_ | refine so rfl ?_ | refine sb rfl ?_)
  refine C_drawD rfl (by kernel_rfl) ?_
  repeat (first | refine sd rfl ?_)
  simp only [beq_self_eq_true]
  repeat (first | refine sd rfl ?_)
  simp only [beq_self_eq_true]
  repeat (first | refine sd rfl ?_)
  refine D_call (rFail_p m st hm) rfl rfl rfl rfl ?_
  repeat (first | refine sd rfl ?_)
  refine D_call (refrFail_p m st hm) rfl rfl rfl rfl ?_
  repeat (first | refine sd rfl ?_)
  simp only [beq_self_eq_true]
  repeat (first | refine sd rfl ?_)
  refine D_call (Long_p n) rfl rfl rfl rfl ?_
  repeat (first | refine sd rfl ?_)
  simp only [beq_self_eq_true]
  repeat (first | refine sd rfl ?_)
  refine D_call awake35_p rfl rfl rfl rfl ?_
  repeat (first | refine sd rfl ?_ | refine sc rfl ?_)
  exact ⟨_, rfl, rfl, rfl⟩
end Go.Proofs
