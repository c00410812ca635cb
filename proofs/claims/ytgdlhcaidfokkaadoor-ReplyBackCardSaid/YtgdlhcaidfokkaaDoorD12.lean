/- Contracts, part eleven: the law PadPads. -/
import Derived.Test.YtgdlhcaidfokkaaDoorD11
set_option linter.unusedSimpArgs false
set_option linter.unusedVariables false
namespace Go.Proofs
open Go.Sy

theorem awake07_p : FnP Tryd.prog 19 [] (· = B true) := by
  refine FnP.intro Tryd.tabOK Tryd.wide_ Tryd.func19 rfl (by decide) rfl (fun X => ?_)
  repeat (first | refine sc rfl ?_ | refine so rfl ?_ | refine sb rfl ?_)
  refine O_call (Pad_p [1, 2] (by decide)) (by rfl) (by rfl) (by rfl) (by rfl) (fun r hr => ?_)
  subst hr
  rw [show padL [1, 2] = [0, 2, 1, 2, 0, 0, 0, 0, 0, 0, 0, 0, 0, 0, 0, 0, 0, 0, 0, 0, 0, 0, 0, 0, 0, 0, 0, 0, 0, 0, 0, 0] by decide, show clsE ([1, 2] : List UInt8).length = 0 by decide]
  repeat (first | refine sc rfl ?_ | refine so rfl ?_ | refine sb rfl ?_ | refine ⟨by decide, ?_⟩)
  exact ⟨_, rfl, rfl, rfl⟩

end Go.Proofs
