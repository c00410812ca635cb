/- The law PadBack. -/
import Derived.Test.YtgdlhcaidfokkaaDoorD32
set_option linter.unusedSimpArgs false
set_option linter.unusedVariables false
set_option maxRecDepth 100000
namespace Go.Proofs
open Go.Sy Go.Lib

theorem clsE_iff (s : List UInt8) : clsE (s.length : Int) = 0 ↔ s.length ≤ 1022 := by
  unfold clsE
  rw [if_neg (by omega)]
  split <;> simp <;> omega
theorem unpE_iff (b : List UInt8) : unpE b = 0 ↔ upOK b = true := by
  unfold unpE
  split <;> simp_all

theorem lawBack_p (a b : List UInt8) (ha : a.length ≤ 9223372036854775000) (hb : b.length ≤ 9223372036854775000) : FnP Tryd.prog 7 [.s a, .s b] (· = B true) := by
  refine FnP.intro Tryd.tabOK Tryd.wide_ Tryd.func7 rfl (by decide) rfl (fun X => ?_)
  repeat (first | refine sc rfl ?_ | refine so rfl ?_ | refine sb rfl ?_)
  refine O_join ⟨[(0, .s a), (1, .s b), (26, B (decide (5000 < a.length ∨ 5000 < b.length)))], []⟩ ?_ (fun s h => C_le _ h ?_)
  · have fin : ∀ x : Bool, x = decide (5000 < a.length ∨ 5000 < b.length) → some (B x) = some (B (decide (5000 < a.length ∨ 5000 < b.length))) := fun x hb => by rw [hb]
    refine O_case 22 rfl (fun h5 => ?_) (fun h5 => ?_) <;> simp only [decide_eq_true_eq, decide_eq_false_iff_not] at h5 <;> repeat (first | refine sc rfl ?_ | refine so rfl ?_ | refine sb rfl ?_)
    · exact Le.sub [] ⟨rfl, rfl, fin _ (by rw [Bool.eq_iff_iff]; simp only [decide_eq_true_eq, true_iff]; omega), trivial⟩ rfl
    · exact Le.sub [] ⟨rfl, rfl, fin _ (by rw [Bool.eq_iff_iff]; simp only [decide_eq_true_eq]; omega), trivial⟩ rfl
  refine C_if rfl (fun h => ?_) (fun h => ?_)
  · repeat (first | refine sc rfl ?_ | refine so rfl ?_ | refine sb rfl ?_)
    refine O_call awake07_p (by rfl) (by rfl) (by rfl) (by rfl) (fun r hr => ?_)
    subst hr
    repeat (first | refine sc rfl ?_ | refine so rfl ?_ | refine sb rfl ?_)
    exact ⟨_, rfl, rfl, rfl⟩
  repeat (first | refine sc rfl ?_ | refine so rfl ?_ | refine sb rfl ?_)
  refine O_call (Pad_p a (by omega)) (by rfl) (by rfl) (by rfl) (by rfl) (fun r hr => ?_)
  subst hr
  repeat (first | refine sc rfl ?_ | refine so rfl ?_ | refine sb rfl ?_)
  refine O_call (Pad_p b (by omega)) (by rfl) (by rfl) (by rfl) (by rfl) (fun r hr => ?_)
  subst hr
  repeat (first | refine sc rfl ?_ | refine so rfl ?_ | refine sb rfl ?_)
  refine O_call (Class_p a.length) (by rfl) (by rfl) (by rfl) (by rfl) (fun r hr => ?_)
  subst hr
  repeat (first | refine sc rfl ?_ | refine so rfl ?_ | refine sb rfl ?_)
  refine O_call (Class_p b.length) (by rfl) (by rfl) (by rfl) (by rfl) (fun r hr => ?_)
  subst hr
  repeat (first | refine sc rfl ?_ | refine so rfl ?_ | refine sb rfl ?_)
  have hae := clsE_iff a
  have hbe := clsE_iff b
  have hal := pad_len a
  have hbl := pad_len b
  refine O_false 53 rfl (by simp) ?_
  repeat (first | refine sc rfl ?_ | refine so rfl ?_ | refine sb rfl ?_)
  refine O_false 58 rfl (by simp) ?_
  repeat (first | refine sc rfl ?_ | refine so rfl ?_ | refine sb rfl ?_)
  refine O_join ⟨[(0, .s a), (1, .s b), (5, .s (padL a)), (6, I64 (clsE a.length)), (76, B false)], []⟩ ?_ (fun s h => C_le _ h ?_)
  · refine O_case 61 rfl (fun h1 => ?_) (fun h1 => ?_) <;> repeat (first | refine sc rfl ?_ | refine so rfl ?_ | refine sb rfl ?_)
    · refine O_case 65 rfl (fun h2 => ?_) (fun h2 => ?_) <;> repeat (first | refine sc rfl ?_ | refine so rfl ?_ | refine sb rfl ?_)
      · have h3 : a.length ≤ 1022 := hae.1 (by simpa using h1)
        have h4 : b.length ≤ 1022 := hbe.1 (by simpa using h2)
        refine Le.sub [] ⟨rfl, rfl, rfl, rfl, congrArg (fun x => some (B x)) ?_, trivial⟩ rfl
        rw [hal h3, hbl h4]
        simp
      · exact Le.sub [] ⟨rfl, rfl, rfl, rfl, rfl, trivial⟩ rfl
    · exact Le.sub [] ⟨rfl, rfl, rfl, rfl, rfl, trivial⟩ rfl
  refine C_false rfl rfl ?_
  repeat (first | refine sc rfl ?_ | refine so rfl ?_ | refine sb rfl ?_)
  refine C_ifJ ⟨[(1, .s b)], []⟩ rfl (fun h1 => ?_) (fun h1 => ?_) (fun s h => C_le _ h ?_)
  · have h3 : a.length ≤ 1022 := hae.1 (by simpa using h1)
    obtain ⟨u1, u2, u3⟩ := unp_pad a h3
    repeat (first | refine sc rfl ?_ | refine so rfl ?_ | refine sb rfl ?_)
    refine O_call (Unpad_p (padL a) (by have := hal h3; have := cls_bd (n := (a.length : Int)) (by omega) (by omega); omega)) (by rfl) (by rfl) (by rfl) (by rfl) (fun r hr => ?_)
    subst hr
    rw [u3, (unpE_iff _).2 u2]
    repeat (first | refine sc rfl ?_ | refine so rfl ?_ | refine sb rfl ?_)
    refine O_false 87 rfl (by simp) ?_
    repeat (first | refine sc rfl ?_ | refine so rfl ?_ | refine sb rfl ?_)
    refine C_false rfl rfl ?_
    repeat (first | refine sc rfl ?_ | refine so rfl ?_ | refine sb rfl ?_)
    exact Le.sub [] ⟨rfl, trivial⟩ rfl
  · repeat (first | refine sc rfl ?_ | refine so rfl ?_ | refine sb rfl ?_)
    exact Le.sub [] ⟨rfl, trivial⟩ rfl
  repeat (first | refine sc rfl ?_ | refine so rfl ?_ | refine sb rfl ?_)
  refine O_call (Unpad_p b hb) (by rfl) (by rfl) (by rfl) (by rfl) (fun r hr => ?_)
  subst hr
  repeat (first | refine sc rfl ?_ | refine so rfl ?_ | refine sb rfl ?_)
  refine C_ifJ ⟨[], []⟩ rfl (fun h1 => ?_) (fun h1 => ?_) (fun s h => C_le _ h ?_)
  · have h3 : upOK b = true := (unpE_iff _).1 (by simpa using h1)
    obtain ⟨u1, u2, u3⟩ := pad_unp b h3
    repeat (first | refine sc rfl ?_ | refine so rfl ?_ | refine sb rfl ?_)
    refine O_call (Pad_p (unpL b) (by omega)) (by rfl) (by rfl) (by rfl) (by rfl) (fun r hr => ?_)
    subst hr
    rw [u1, (clsE_iff _).2 (by omega)]
    repeat (first | refine sc rfl ?_ | refine so rfl ?_ | refine sb rfl ?_)
    refine O_false 106 rfl (by simp) ?_
    repeat (first | refine sc rfl ?_ | refine so rfl ?_ | refine sb rfl ?_)
    refine C_false rfl rfl ?_
    repeat (first | refine sc rfl ?_ | refine so rfl ?_ | refine sb rfl ?_)
    exact Le.sub [] trivial rfl
  · repeat (first | refine sc rfl ?_ | refine so rfl ?_ | refine sb rfl ?_)
    exact Le.sub [] trivial rfl
  repeat (first | refine sc rfl ?_ | refine so rfl ?_ | refine sb rfl ?_)
  refine O_call awake07_p (by rfl) (by rfl) (by rfl) (by rfl) (fun r hr => ?_)
  subst hr
  repeat (first | refine sc rfl ?_ | refine so rfl ?_ | refine sb rfl ?_)
  exact ⟨_, rfl, rfl, rfl⟩
end Go.Proofs
