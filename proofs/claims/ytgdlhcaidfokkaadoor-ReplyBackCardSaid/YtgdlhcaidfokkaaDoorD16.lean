/- Contracts, part fifteen: frame.Put. -/
import Derived.Test.YtgdlhcaidfokkaaDoorD15
import Derived.Test.YtgdlhcaidfokkaaDoorSy20
set_option linter.unusedSimpArgs false
set_option linter.unusedVariables false
namespace Go.Proofs
open Go.Sy

theorem Put84_p (k fl : Int) (b : List UInt8) (hb : b.length ≤ 9223372036854775807) : FnP Tryd.prog 41 [.agg [I64 k, I64 fl, .s b]] (· = .tup [.s (fputL k fl b), I64 (fputE k fl b)]) := by
  refine FnP.intro Tryd.tabOK Tryd.wide_ Tryd.func41 rfl (by decide) rfl (fun X => ?_)
  repeat (first | refine sc rfl ?_ | refine so rfl ?_ | refine sb rfl ?_ | refine C_scope ?_)
  refine O_call (known_p k) (by rfl) (by rfl) (by rfl) (by rfl) (fun r hr => ?_)
  subst hr
  repeat (first | refine sc rfl ?_ | refine so rfl ?_ | refine sb rfl ?_)
  refine C_if rfl (fun h1 => ?_) (fun h1 => ?_) <;> simp only [Bool.not_eq_true', Bool.not_eq_false', decide_eq_true_eq, decide_eq_false_iff_not] at h1
  · repeat (first | refine sc rfl ?_ | refine so rfl ?_ | refine sb rfl ?_)
    refine ⟨_, rfl, rfl, ?_⟩
    rw [fputL, fputE, if_neg (by omega), if_pos (by omega)]
  repeat (first | refine sc rfl ?_ | refine so rfl ?_ | refine sb rfl ?_)
  refine O_join ⟨[(1, .bp 1 0), (2, .s []), (3, I64 0), (4, I64 (b.length : Int)), (14, B (decide (fl < 0 ∨ 255 < fl)))], [.box 1 58 [I64 k, I64 fl, .s b]]⟩ ?_ (fun s h => C_le _ h ?_)
  · refine O_case 18 rfl (fun h => ?_) (fun h => ?_) <;> simp at h
    · repeat (first | refine sc rfl ?_ | refine so rfl ?_ | refine sb rfl ?_)
      exact Le.sub [1] ⟨rfl, rfl, rfl, rfl, congrArg (fun x => some (B x)) (by rw [Bool.eq_iff_iff]; simp; omega), trivial⟩ rfl
    · repeat (first | refine sc rfl ?_ | refine so rfl ?_ | refine sb rfl ?_)
      exact Le.sub [1] ⟨rfl, rfl, rfl, rfl, congrArg (fun x => some (B x)) (by rw [Bool.eq_iff_iff]; simp; omega), trivial⟩ rfl
  refine C_if rfl (fun h2 => ?_) (fun h2 => ?_) <;> simp only [decide_eq_true_eq, decide_eq_false_iff_not] at h2
  · repeat (first | refine sc rfl ?_ | refine so rfl ?_ | refine sb rfl ?_)
    refine ⟨_, rfl, rfl, ?_⟩
    rw [fputL, fputE, if_neg (by omega), if_neg (by omega), if_pos (by omega)]
  repeat (first | refine sc rfl ?_ | refine so rfl ?_ | refine sb rfl ?_)
  refine C_if rfl (fun h3 => ?_) (fun h3 => ?_) <;> simp only [decide_eq_true_eq, decide_eq_false_iff_not] at h3
  · repeat (first | refine sc rfl ?_ | refine so rfl ?_ | refine sb rfl ?_)
    refine ⟨_, rfl, rfl, ?_⟩
    rw [fputL, fputE, if_neg (by omega), if_neg (by omega), if_neg (by omega), if_pos (by omega)]
  have e0 : fputE k fl b = 0 := by rw [fputE, if_neg (by omega), if_neg (by omega), if_neg (by omega)]
  have e1 : fputL k fl b = [b8 k, b8 fl, b8 (b.length / 256), b8 b.length] ++ b := by rw [fputL, if_pos (by omega)]
  rw [e0, e1]
  repeat (first | refine sc rfl ?_ | refine so rfl ?_ | refine sb rfl ?_ | refine ⟨by decide, ?_⟩)
  refine C_le _ (Le.freezebox 5 rfl rfl rfl) ?_
  refine C_drawD rfl (by kernel_rfl) ?_
  repeat (first | refine sd rfl ?_ | refine sda rfl ?_ | refine sdv rfl ?_ | refine ⟨by simp only [List.length_map, List.length_cons, List.length_nil]; omega, ?_⟩)
  repeat (first | refine sc rfl ?_)
  refine ⟨_, rfl, rfl, ?_⟩
  rw [show (2 : Int) ^ min (Int.toNat 8) IntKind.i64.bits = 256 by decide, Int.fdiv_eq_ediv_of_nonneg _ (by decide)]
  rfl
end Go.Proofs
