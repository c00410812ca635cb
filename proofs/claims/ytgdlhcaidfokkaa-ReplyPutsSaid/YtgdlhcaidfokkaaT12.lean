/- Contracts, part eleven: the law PadPads. -/
import Derived.Test.YtgdlhcaidfokkaaT11
set_option linter.unusedSimpArgs false
set_option linter.unusedVariables false
namespace Go.Proofs
open Go.Sy

theorem awake07_p : FnP Try.prog 38 [] (· = B true) := by
  refine FnP.intro Try.tabOK Try.wide_ Try.func38 rfl (by decide) rfl (fun X => ?_)
  repeat (first | refine sc rfl ?_ | refine so rfl ?_ | refine sb rfl ?_)
  refine O_call (Pad_p [1, 2] (by decide)) (by rfl) (by rfl) (by rfl) (by rfl) (fun r hr => ?_)
  subst hr
  rw [show padL [1, 2] = [0, 2, 1, 2, 0, 0, 0, 0, 0, 0, 0, 0, 0, 0, 0, 0, 0, 0, 0, 0, 0, 0, 0, 0, 0, 0, 0, 0, 0, 0, 0, 0] by decide, show clsE ([1, 2] : List UInt8).length = 0 by decide]
  repeat (first | refine sc rfl ?_ | refine so rfl ?_ | refine sb rfl ?_ | refine ⟨by decide, ?_⟩)
  exact ⟨_, rfl, rfl, rfl⟩

theorem law07_p (s : List UInt8) (n : Int) : FnP Try.prog 8 [.s s, I64 n] (· = B true) := by
  refine FnP.intro Try.tabOK Try.wide_ Try.func8 rfl (by decide) rfl (fun X => ?_)
  repeat (first | refine sc rfl ?_ | refine so rfl ?_ | refine sb rfl ?_)
  refine C_if rfl (fun h => ?_) (fun h => ?_) <;> simp only [decide_eq_true_eq, decide_eq_false_iff_not] at h
  · repeat (first | refine sc rfl ?_ | refine so rfl ?_ | refine sb rfl ?_)
    refine O_call awake07_p (by rfl) (by rfl) (by rfl) (by rfl) (fun r hr => ?_)
    subst hr
    repeat (first | refine sc rfl ?_ | refine so rfl ?_ | refine sb rfl ?_)
    exact ⟨_, rfl, rfl, rfl⟩
  have hs : s.length ≤ 9223372036854775807 := by omega
  repeat (first | refine sc rfl ?_ | refine so rfl ?_ | refine sb rfl ?_)
  refine O_call (Pad_p s hs) (by rfl) (by rfl) (by rfl) (by rfl) (fun r hr => ?_)
  subst hr
  repeat (first | refine sc rfl ?_ | refine so rfl ?_ | refine sb rfl ?_)
  refine O_call (refPad_p s hs) (by rfl) (by rfl) (by rfl) (by rfl) (fun r hr => ?_)
  subst hr
  repeat (first | refine sc rfl ?_ | refine so rfl ?_ | refine sb rfl ?_)
  refine O_call (Class_p n) (by rfl) (by rfl) (by rfl) (by rfl) (fun r hr => ?_)
  subst hr
  repeat (first | refine sc rfl ?_ | refine so rfl ?_ | refine sb rfl ?_)
  refine C_ifJ ⟨[(1, I64 n), (5, .s (padL s)), (6, I64 (clsE s.length)), (7, .s (padL s)), (8, I64 (clsE s.length)), (9, I64 (cls n)), (10, I64 (clsE n)), (11, I64 (if n < 0 then 1 else 0))], []⟩ rfl (fun h4 => ?_) (fun h4 => ?_) (fun st h => C_le _ h ?_)
  · have h5 := of_decide_eq_true h4
    rw [if_pos h5]
    repeat (first | refine sc rfl ?_ | refine so rfl ?_ | refine sb rfl ?_)
    exact Le.sub [] ⟨rfl, rfl, rfl, rfl, rfl, rfl, rfl, rfl, trivial⟩ rfl
  · have h5 := of_decide_eq_false h4
    rw [if_neg h5]
    repeat (first | refine sc rfl ?_ | refine so rfl ?_ | refine sb rfl ?_)
    exact Le.sub [] ⟨rfl, rfl, rfl, rfl, rfl, rfl, rfl, rfl, trivial⟩ rfl
  repeat (first | refine sc rfl ?_ | refine so rfl ?_ | refine sb rfl ?_)
  refine C_ifJ ⟨[(1, I64 n), (5, .s (padL s)), (6, I64 (clsE s.length)), (7, .s (padL s)), (8, I64 (clsE s.length)), (9, I64 (cls n)), (10, I64 (clsE n)), (11, I64 (clsE n))], []⟩ rfl (fun h4 => ?_) (fun h4 => ?_) (fun st h => C_le _ h ?_)
  · have h5 : 1022 < n := of_decide_eq_true h4
    repeat (first | refine sc rfl ?_ | refine so rfl ?_ | refine sb rfl ?_)
    exact Le.sub [] ⟨rfl, rfl, rfl, rfl, rfl, rfl, rfl, congrArg (fun x => some (I64 x)) (by unfold clsE; rw [if_neg (by omega), if_pos h5]), trivial⟩ rfl
  · have h5 : ¬ 1022 < n := of_decide_eq_false h4
    repeat (first | refine sc rfl ?_ | refine so rfl ?_ | refine sb rfl ?_)
    exact Le.sub [] ⟨rfl, rfl, rfl, rfl, rfl, rfl, rfl, congrArg (fun x => some (I64 x)) (by unfold clsE; rw [if_neg h5]), trivial⟩ rfl
  repeat (first | refine sc rfl ?_ | refine so rfl ?_ | refine sb rfl ?_)
  refine O_true 38 rfl (by simp) ?_
  repeat (first | refine sc rfl ?_ | refine so rfl ?_ | refine sb rfl ?_)
  refine O_true 43 rfl (by simp) ?_
  repeat (first | refine sc rfl ?_ | refine so rfl ?_ | refine sb rfl ?_)
  refine O_call (refClass_p n) (by rfl) (by rfl) (by rfl) (by rfl) (fun r hr => ?_)
  subst hr
  repeat (first | refine sc rfl ?_ | refine so rfl ?_ | refine sb rfl ?_)
  refine O_true 49 rfl (by simp) ?_
  repeat (first | refine sc rfl ?_ | refine so rfl ?_ | refine sb rfl ?_)
  refine O_true 54 rfl (by simp) ?_
  repeat (first | refine sc rfl ?_ | refine so rfl ?_ | refine sb rfl ?_)
  refine O_call Most_p (by rfl) (by rfl) (by rfl) (by rfl) (fun r hr => ?_)
  subst hr
  repeat (first | refine sc rfl ?_ | refine so rfl ?_ | refine sb rfl ?_)
  refine O_call awake07_p (by rfl) (by rfl) (by rfl) (by rfl) (fun r hr => ?_)
  subst hr
  repeat (first | refine sc rfl ?_ | refine so rfl ?_ | refine sb rfl ?_)
  exact ⟨_, rfl, rfl, rfl⟩
end Go.Proofs
