/- Contracts, part eighteen: reply.Fail, and the law ReplyPuts. -/
import Derived.Test.YtgdlhcaidfokkaaDoorD18
set_option linter.unusedSimpArgs false
set_option linter.unusedVariables false
namespace Go.Proofs
open Go.Sy

def rfail (n : Nat) (st : Int) : List UInt8 := rputL n (if 0 ≤ st ∧ st ≤ 1048576 then st else 1) []

theorem rFail_p (n : Nat) (st : Int) (hn : n < 18446744073709551616) : FnP Tryd.prog 30 [U64 (n : Int), I64 st] (· = .s (rfail n st)) := by
  refine FnP.intro Tryd.tabOK Tryd.wide_ Tryd.func30 rfl (by decide) rfl (fun X => ?_)
  repeat (first | refine sc rfl ?_ | refine so rfl ?_ | refine sb rfl ?_)
  refine O_call (bounded_p st) (by rfl) (by rfl) (by rfl) (by rfl) (fun r hr => ?_)
  subst hr
  repeat (first | refine sc rfl ?_ | refine so rfl ?_ | refine sb rfl ?_)
  refine C_ifJ ⟨[(0, U64 (n : Int)), (1, I64 (if 0 ≤ st ∧ st ≤ 1048576 then st else 1))], []⟩ rfl (fun h1 => ?_) (fun h1 => ?_) (fun s' h => C_le _ h ?_)
  · have h2 : ¬ (0 ≤ st ∧ st ≤ 1048576) := by simp at h1; omega
    repeat (first | refine sc rfl ?_ | refine so rfl ?_ | refine sb rfl ?_)
    exact Le.sub [] ⟨rfl, by rw [if_neg h2]; rfl, trivial⟩ rfl
  · have h2 : 0 ≤ st ∧ st ≤ 1048576 := by simp at h1; omega
    repeat (first | refine sc rfl ?_ | refine so rfl ?_ | refine sb rfl ?_)
    exact Le.sub [] ⟨rfl, by rw [if_pos h2]; rfl, trivial⟩ rfl
  repeat (first | refine sc rfl ?_ | refine so rfl ?_ | refine sb rfl ?_)
  refine O_call (rPut_p n (if 0 ≤ st ∧ st ≤ 1048576 then st else 1) [] hn (by decide)) (by rfl) (by rfl) (by rfl) (by rfl) (fun r hr => ?_)
  subst hr
  repeat (first | refine sc rfl ?_ | refine so rfl ?_ | refine sb rfl ?_)
  exact ⟨_, rfl, rfl, rfl⟩

theorem rfail1 : rfail 1 0 = [9, 0, 0, 32, 0, 2, 0, 1, 0, 0, 0, 0, 0, 0, 0, 0, 0, 0, 0, 0, 0, 0, 0, 0, 0, 0, 0, 0, 0, 0, 0, 0, 0, 0, 0, 0] := by
  have e : rp 1 0 [] = [0, 1] := by unfold rp; rw [show (0 : Int).toNat = 0 from rfl, vput_lt (by decide), vput_lt (by decide)]; rfl
  unfold rfail
  rw [if_pos (by decide)]
  unfold rputL
  rw [e]
  decide

theorem awake35_p : FnP Tryd.prog 26 [] (· = B true) := by
  refine FnP.intro Tryd.tabOK Tryd.wide_ Tryd.func26 rfl (by decide) rfl (fun X => ?_)
  repeat (first | refine sc rfl ?_ | refine so rfl ?_ | refine sb rfl ?_)
  refine O_call (rFail_p 1 0 (by decide)) (by rfl) (by rfl) (by rfl) (by rfl) (fun r hr => ?_)
  subst hr
  rw [rfail1]
  repeat (first | refine sc rfl ?_ | refine so rfl ?_ | refine sb rfl ?_ | refine ⟨by decide, ?_⟩)
  exact ⟨_, rfl, rfl, rfl⟩
end Go.Proofs
