/- Contracts, part fourteen: the document's frame.Put; which kinds are known. -/
import Derived.Test.YtgdlhcaidfokkaaDoorD14
set_option linter.unusedSimpArgs false
set_option linter.unusedVariables false
namespace Go.Proofs
open Go.Sy

theorem known_p (k : Int) : FnP Tryd.prog 70 [I64 k] (· = B (decide (1 ≤ k ∧ k ≤ 9))) := by
  refine FnP.intro Tryd.tabOK Tryd.wide_ Tryd.func70 rfl (by decide) rfl (fun X => ?_)
  repeat (first | refine sc rfl ?_ | refine so rfl ?_ | refine sb rfl ?_)
  refine O_case 5 rfl (fun h => ?_) (fun h => ?_)
  · repeat (first | refine sc rfl ?_ | refine so rfl ?_ | refine sb rfl ?_)
    refine ⟨_, rfl, rfl, congrArg B ?_⟩
    simp at h
    simp [h]
  · repeat (first | refine sc rfl ?_ | refine so rfl ?_ | refine sb rfl ?_)
    refine ⟨_, rfl, rfl, congrArg B ?_⟩
    simp at h
    simp; omega

/-- A frame's bytes. -/
def b8 (n : Int) : UInt8 := UInt8.ofNat (IntKind.u8.wrap n).toNat
def fputL (k fl : Int) (b : List UInt8) : List UInt8 := if 1 ≤ k ∧ k ≤ 9 ∧ 0 ≤ fl ∧ fl ≤ 255 ∧ b.length ≤ 1024 then [b8 k, b8 fl, b8 (b.length / 256), b8 b.length] ++ b else []
def fputE (k fl : Int) (b : List UInt8) : Int := if ¬ (1 ≤ k ∧ k ≤ 9) then 4 else if ¬ (0 ≤ fl ∧ fl ≤ 255) then 1 else if 1024 < b.length then 3 else 0

theorem refPut05_p (k fl : Int) (b : List UInt8) (hb : b.length ≤ 9223372036854775807) : FnP Tryd.prog 79 [.agg [I64 k, I64 fl, .s b]] (· = .tup [.s (fputL k fl b), I64 (fputE k fl b)]) := by
  refine FnP.intro Tryd.tabOK Tryd.wide_ Tryd.func79 rfl (by decide) rfl (fun X => ?_)
  repeat (first | refine sc rfl ?_ | refine so rfl ?_ | refine sb rfl ?_)
  refine O_join ⟨[(1, .bp 1 0), (2, .s []), (3, I64 0), (12, B (decide (k < 1 ∨ 9 < k)))], [.box 1 58 [I64 k, I64 fl, .s b]]⟩ ?_ (fun s h => C_le _ h ?_)
  · refine O_case 8 rfl (fun h => ?_) (fun h => ?_) <;> simp at h
    · repeat (first | refine sc rfl ?_ | refine so rfl ?_ | refine sb rfl ?_)
      exact Le.sub [1] ⟨rfl, rfl, rfl, congrArg (fun x => some (B x)) (by rw [Bool.eq_iff_iff]; simp; omega), trivial⟩ rfl
    · repeat (first | refine sc rfl ?_ | refine so rfl ?_ | refine sb rfl ?_)
      exact Le.sub [1] ⟨rfl, rfl, rfl, congrArg (fun x => some (B x)) (by rw [Bool.eq_iff_iff]; simp; omega), trivial⟩ rfl
  refine C_if rfl (fun h1 => ?_) (fun h1 => ?_) <;> simp only [decide_eq_true_eq, decide_eq_false_iff_not] at h1
  · repeat (first | refine sc rfl ?_ | refine so rfl ?_ | refine sb rfl ?_)
    refine ⟨_, rfl, rfl, ?_⟩
    rw [fputL, fputE, if_neg (by omega), if_pos (by omega)]
  repeat (first | refine sc rfl ?_ | refine so rfl ?_ | refine sb rfl ?_)
  refine O_join ⟨[(1, .bp 1 0), (2, .s []), (3, I64 0), (20, B (decide (fl < 0 ∨ 255 < fl)))], [.box 1 58 [I64 k, I64 fl, .s b]]⟩ ?_ (fun s h => C_le _ h ?_)
  · refine O_case 16 rfl (fun h => ?_) (fun h => ?_) <;> simp at h
    · repeat (first | refine sc rfl ?_ | refine so rfl ?_ | refine sb rfl ?_)
      exact Le.sub [1] ⟨rfl, rfl, rfl, congrArg (fun x => some (B x)) (by rw [Bool.eq_iff_iff]; simp; omega), trivial⟩ rfl
    · repeat (first | refine sc rfl ?_ | refine so rfl ?_ | refine sb rfl ?_)
      exact Le.sub [1] ⟨rfl, rfl, rfl, congrArg (fun x => some (B x)) (by rw [Bool.eq_iff_iff]; simp; omega), trivial⟩ rfl
  refine C_if rfl (fun h2 => ?_) (fun h2 => ?_) <;> simp only [decide_eq_true_eq, decide_eq_false_iff_not] at h2
  · repeat (first | refine sc rfl ?_ | refine so rfl ?_ | refine sb rfl ?_)
    refine ⟨_, rfl, rfl, ?_⟩
    rw [fputL, fputE, if_neg (by omega), if_neg (by omega), if_pos (by omega)]
  repeat (first | refine sc rfl ?_ | refine so rfl ?_ | refine sb rfl ?_)
  refine C_if rfl (fun h3 => ?_) (fun h3 => ?_) <;> simp only [decide_eq_true_eq, decide_eq_false_iff_not] at h3
  · repeat (first | refine sc rfl ?_ | refine so rfl ?_ | refine sb rfl ?_)
    refine ⟨_, rfl, rfl, ?_⟩
    rw [fputL, fputE, if_neg (by omega), if_neg (by omega), if_neg (by omega), if_pos (by omega)]
  have e0 : fputE k fl b = 0 := by rw [fputE, if_neg (by omega), if_neg (by omega), if_neg (by omega)]
  have e1 : fputL k fl b = [b8 k, b8 fl, b8 (b.length / 256), b8 b.length] ++ b := by rw [fputL, if_pos (by omega)]
  rw [e0, e1]
  repeat (first | refine sc rfl ?_ | refine so rfl ?_ | refine sb rfl ?_)
  refine C_drawD rfl (by kernel_rfl) ?_
  repeat (first | refine sd rfl ?_)
  refine D_call (Byte_p k) rfl rfl rfl rfl ?_
  repeat (first | refine sd rfl ?_)
  refine D_call (Byte_p fl) rfl rfl rfl rfl ?_
  repeat (first | refine sd rfl ?_ | refine ⟨by simp only [List.length_singleton]; omega, ?_⟩ | refine ⟨by decide, ?_⟩)
  rw [quo64 (a := (b.length : Int)) (b := 256) (by omega) (by omega) (by omega)]
  refine D_call (Byte_p ((b.length : Int) / 256)) rfl rfl rfl rfl ?_
  repeat (first | refine sd rfl ?_ | refine ⟨by simp only [List.length_append, List.length_singleton]; omega, ?_⟩ | refine ⟨by decide, ?_⟩)
  refine D_call (Byte_p ((b.length : Int).tmod 256)) rfl rfl rfl rfl ?_
  rw [rem256]
  repeat (first | refine sd rfl ?_ | refine ⟨by simp only [List.length_append, List.length_singleton]; omega, ?_⟩)
  repeat (first | refine sc rfl ?_)
  exact ⟨_, rfl, rfl, rfl⟩
end Go.Proofs
