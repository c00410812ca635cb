/- Contracts, part eighteen: reply.Fail, and the law ReplyPuts. -/
import Derived.Test.YtgdlhcaidfokkaaT18
set_option linter.unusedSimpArgs false
set_option linter.unusedVariables false
namespace Go.Proofs
open Go.Sy

def rfail (n : Nat) (st : Int) : List UInt8 := rputL n (if 0 ≤ st ∧ st ≤ 1048576 then st else 1) []

theorem rFail_p (n : Nat) (st : Int) (hn : n < 18446744073709551616) : FnP Try.prog 47 [U64 (n : Int), I64 st] (· = .s (rfail n st)) := by
  refine FnP.intro Try.tabOK Try.wide_ Try.func47 rfl (by decide) rfl (fun X => ?_)
  repeat (first | refine sc rfl ?_ | refine so rfl ?_ | refine sb rfl ?_)
  refine O_call (bounded_p st) (by rfl) (by rfl) (by rfl) (by rfl) (fun r hr => ?_)
  subst hr
  repeat (first | refine sc rfl ?_ | refine so rfl ?_ | refine sb rfl ?_)
  refine C_ifJ ⟨[(0, U64 (n : Int)), (1, I64 (if 0 ≤ st ∧ st ≤ 1048576 then st else 1))], []⟩ rfl (fun h1 => ?_) (fun h1 => ?_) (fun s' h => C_le _ h ?_)
  · have h2 : ¬ (0 ≤ st ∧ st ≤ 1048576) := by simp at h1; omega
    repeat (first | refine sc rfl ?_ | refine so rfl ?_ | refine sb rfl ?_)
    exact Le.sub [] ⟨rfl, by rw [if_neg h2]; rfl, trivial⟩ rfl
  · have h2 : 0 ≤ st ∧ st ≤ 1048576 := by simp at h1; omega
    repeat (first | refine sc rfl ?_ | refine so rfl ?_ | refine sb rfl ?_)
    exact Le.sub [] ⟨rfl, by rw [if_pos h2]; rfl, trivial⟩ rfl
  repeat (first | refine sc rfl ?_ | refine so rfl ?_ | refine sb rfl ?_)
  refine O_call (rPut_p n (if 0 ≤ st ∧ st ≤ 1048576 then st else 1) [] hn (by decide)) (by rfl) (by rfl) (by rfl) (by rfl) (fun r hr => ?_)
  subst hr
  repeat (first | refine sc rfl ?_ | refine so rfl ?_ | refine sb rfl ?_)
  exact ⟨_, rfl, rfl, rfl⟩

theorem refrFail_p (n : Nat) (st : Int) (hn : n < 18446744073709551616) : FnP Try.prog 48 [U64 (n : Int), I64 st] (· = .s (rfail n st)) := by
  refine FnP.intro Try.tabOK Try.wide_ Try.func48 rfl (by decide) rfl (fun X => ?_)
  repeat (first | refine sc rfl ?_ | refine so rfl ?_ | refine sb rfl ?_)
  refine O_join ⟨[(0, U64 (n : Int)), (1, I64 st), (12, B (decide (¬ (0 ≤ st ∧ st ≤ 1048576))))], []⟩ ?_ (fun s h => C_le _ h ?_)
  · refine O_case 9 rfl (fun h => ?_) (fun h => ?_) <;> simp at h
    · repeat (first | refine sc rfl ?_ | refine so rfl ?_ | refine sb rfl ?_)
      exact Le.sub [] ⟨rfl, rfl, congrArg (fun x => some (B x)) (by rw [Bool.eq_iff_iff]; simp; omega), trivial⟩ rfl
    · repeat (first | refine sc rfl ?_ | refine so rfl ?_ | refine sb rfl ?_)
      exact Le.sub [] ⟨rfl, rfl, congrArg (fun x => some (B x)) (by rw [Bool.eq_iff_iff]; simp; omega), trivial⟩ rfl
  refine C_ifJ ⟨[(0, U64 (n : Int)), (1, I64 (if 0 ≤ st ∧ st ≤ 1048576 then st else 1))], []⟩ rfl (fun h1 => ?_) (fun h1 => ?_) (fun s' h => C_le _ h ?_)
  · have h2 : ¬ (0 ≤ st ∧ st ≤ 1048576) := of_decide_eq_true h1
    repeat (first | refine sc rfl ?_ | refine so rfl ?_ | refine sb rfl ?_)
    exact Le.sub [] ⟨rfl, by rw [if_neg h2]; rfl, trivial⟩ rfl
  · have h2 : 0 ≤ st ∧ st ≤ 1048576 := Decidable.not_not.1 (of_decide_eq_false h1)
    repeat (first | refine sc rfl ?_ | refine so rfl ?_ | refine sb rfl ?_)
    exact Le.sub [] ⟨rfl, by rw [if_pos h2]; rfl, trivial⟩ rfl
  repeat (first | refine sc rfl ?_ | refine so rfl ?_ | refine sb rfl ?_)
  refine O_call (refrPut_p n (if 0 ≤ st ∧ st ≤ 1048576 then st else 1) [] hn (by decide)) (by rfl) (by rfl) (by rfl) (by rfl) (fun r hr => ?_)
  subst hr
  repeat (first | refine sc rfl ?_ | refine so rfl ?_ | refine sb rfl ?_)
  exact ⟨_, rfl, rfl, rfl⟩

theorem rfail1 : rfail 1 0 = [9, 0, 0, 32, 0, 2, 0, 1, 0, 0, 0, 0, 0, 0, 0, 0, 0, 0, 0, 0, 0, 0, 0, 0, 0, 0, 0, 0, 0, 0, 0, 0, 0, 0, 0, 0] := by
  have e : rp 1 0 [] = [0, 1] := by unfold rp; rw [show (0 : Int).toNat = 0 from rfl, vput_lt (by decide), vput_lt (by decide)]; rfl
  unfold rfail
  rw [if_pos (by decide)]
  unfold rputL
  rw [e]
  decide

theorem awake35_p : FnP Try.prog 50 [] (· = B true) := by
  refine FnP.intro Try.tabOK Try.wide_ Try.func50 rfl (by decide) rfl (fun X => ?_)
  repeat (first | refine sc rfl ?_ | refine so rfl ?_ | refine sb rfl ?_)
  refine O_call (rFail_p 1 0 (by decide)) (by rfl) (by rfl) (by rfl) (by rfl) (fun r hr => ?_)
  subst hr
  rw [rfail1]
  repeat (first | refine sc rfl ?_ | refine so rfl ?_ | refine sb rfl ?_ | refine ⟨by decide, ?_⟩)
  exact ⟨_, rfl, rfl, rfl⟩
end Go.Proofs
