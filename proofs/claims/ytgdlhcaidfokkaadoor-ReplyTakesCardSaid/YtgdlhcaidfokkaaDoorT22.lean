/- Contracts at the door seat, part two: the document's way of utf. -/
import Derived.Test.YtgdlhcaidfokkaaDoorT21
set_option linter.unusedSimpArgs false
set_option linter.unusedVariables false
set_option maxRecDepth 100000
namespace Go.Proofs
open Go.Sy Go.Lib

theorem getD_by (l : List UInt8) (i : Nat) : (l.getD i 0).toNat = by_ l i := rfl

theorem more_p (l : List UInt8) (i : Nat) : FnP Tryd.prog 53 [.s l, I64 (i : Int)] (· = .tup [I64 (((more? l i).getD 0 : Nat) : Int), B (more? l i).isSome]) := by
  refine FnP.intro Tryd.tabOK Tryd.wide_ Tryd.func53 rfl (by decide) rfl (fun X => ?_)
  repeat (first | refine sc rfl ?_ | refine so rfl ?_ | refine sb rfl ?_)
  refine O_join ⟨[(0, .s l), (1, I64 (i : Int)), (21, B (!(more? l i).isSome))], []⟩ ?_ (fun s h => C_le _ h ?_)
  · refine O_case 10 rfl (fun h => ?_) (fun h => ?_) <;> simp at h
    · repeat (first | refine sc rfl ?_ | refine so rfl ?_ | refine sb rfl ?_)
      exact Le.sub [] ⟨rfl, rfl, congrArg (fun x => some (B x)) (by rw [more_neg (by omega)]; rfl), trivial⟩ rfl
    · repeat (first | refine sc rfl ?_ | refine so rfl ?_ | refine sb rfl ?_ | refine ⟨by simp; omega, ?_⟩)
      refine O_case 16 rfl (fun h2 => ?_) (fun h2 => ?_)
      · have h3 : by_ l i < 128 := by have := of_decide_eq_true h2; rw [Int.toNat_natCast, getD_by] at this; omega
        repeat (first | refine sc rfl ?_ | refine so rfl ?_ | refine sb rfl ?_)
        exact Le.sub [] ⟨rfl, rfl, congrArg (fun x => some (B x)) (by rw [more_neg (by omega)]; rfl), trivial⟩ rfl
      · have h3 : ¬ by_ l i < 128 := by have := of_decide_eq_false h2; rw [Int.toNat_natCast, getD_by] at this; omega
        repeat (first | refine sc rfl ?_ | refine so rfl ?_ | refine sb rfl ?_ | refine ⟨by simp; omega, ?_⟩)
        refine Le.sub [] ⟨rfl, rfl, congrArg (fun x => some (B x)) ?_, trivial⟩ rfl
        rw [Int.toNat_natCast, getD_by]
        by_cases h4 : by_ l i ≤ 191
        · rw [more_pos (by omega)]; simp; omega
        · rw [more_neg (by omega)]; simp; omega
  refine C_if rfl (fun h => ?_) (fun h => ?_)
  · have e : more? l i = none := by simpa using h
    rw [e]
    repeat (first | refine sc rfl ?_ | refine so rfl ?_ | refine sb rfl ?_)
    exact ⟨_, rfl, rfl, rfl⟩
  · obtain ⟨x, e⟩ : ∃ x, more? l i = some x := by
      cases e : more? l i with
      | none => rw [e] at h; cases h
      | some x => exact ⟨x, rfl⟩
    rw [e]
    have e2 := e
    unfold more? at e2
    split at e2
    · rename_i h5
      cases e2
      repeat (first | refine sc rfl ?_ | refine so rfl ?_ | refine sb rfl ?_ | refine ⟨by simp; omega, ?_⟩)
      refine ⟨_, rfl, rfl, ?_⟩
      rw [Int.toNat_natCast, getD_by, w64 (x := (by_ l i : Int)) (by omega) (by omega), w64 (by omega) (by omega), show ((by_ l i : Int) - 128) = ((by_ l i - 128 : Nat) : Int) by omega]
      rfl
    · cases e2
end Go.Proofs
