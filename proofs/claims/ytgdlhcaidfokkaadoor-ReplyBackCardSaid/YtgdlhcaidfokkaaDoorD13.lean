/- Contracts, part twelve: varint.Put, and the document's. -/
import Derived.Test.YtgdlhcaidfokkaaDoorD12
set_option linter.unusedSimpArgs false
set_option linter.unusedVariables false
namespace Go.Proofs
open Go.Sy

abbrev U64 (n : Int) : AV := .v (.int .u64 n)

/-- A number's bytes. -/
def vput (n : Nat) : List UInt8 := if h : n < 128 then [UInt8.ofNat n] else UInt8.ofNat (n % 128 + 128) :: vput (n / 128)
termination_by n
decreasing_by omega
theorem vput_lt {n : Nat} (h : n < 128) : vput n = [UInt8.ofNat n] := by rw [vput, dif_pos h]
theorem vput_ge {n : Nat} (h : ¬ n < 128) : vput n = UInt8.ofNat (n % 128 + 128) :: vput (n / 128) := by rw [vput, dif_neg h]
theorem vput_len (n : Nat) : (vput n).length ≤ n + 1 := by
  induction n using Nat.strongRecOn with
  | ind n ih =>
    by_cases h : n < 128
    · rw [vput_lt h]; simp
    · rw [vput_ge h, List.length_cons]
      have := ih (n / 128) (by omega)
      omega

theorem u8wrap {x : Int} (h : 0 ≤ x) (h2 : x < 256) : IntKind.u8.wrap x = x := by
  simp only [IntKind.wrap, show IntKind.u8.signed = false from rfl, show IntKind.u8.bits = 8 from rfl, Bool.false_and, Bool.false_eq_true, if_false]
  omega
theorem u64wrap {x : Int} (h : 0 ≤ x) (h2 : x < 18446744073709551616) : IntKind.u64.wrap x = x := by
  simp only [IntKind.wrap, show IntKind.u64.signed = false from rfl, show IntKind.u64.bits = 64 from rfl, Bool.false_and, Bool.false_eq_true, if_false]
  omega

theorem refPut01_p (n : Nat) : n < 18446744073709551616 → FnP Tryd.prog 78 [U64 (n : Int)] (· = .s (vput n)) := by
  induction n using Nat.strongRecOn with
  | ind n ih =>
    intro hn
    refine FnP.intro Tryd.tabOK Tryd.wide_ Tryd.func78 rfl (by decide) rfl (fun X => ?_)
    repeat (first | refine sc rfl ?_ | refine so rfl ?_ | refine sb rfl ?_)
    refine C_if rfl (fun h => ?_) (fun h => ?_) <;> simp only [decide_eq_true_eq, decide_eq_false_iff_not] at h
    · repeat (first | refine sc rfl ?_ | refine so rfl ?_ | refine sb rfl ?_)
      refine O_call (Byte_p _) (by rfl) (by rfl) (by rfl) (by rfl) (fun r hr => ?_)
      subst hr
      repeat (first | refine sc rfl ?_ | refine so rfl ?_ | refine sb rfl ?_)
      refine ⟨_, rfl, rfl, ?_⟩
      rw [vput_lt (by omega), w64 (by omega) (by omega), u8wrap (by omega) (by omega)]
      rfl
    · repeat (first | refine sc rfl ?_ | refine so rfl ?_ | refine sb rfl ?_ | refine ⟨by decide, ?_⟩)
      refine O_call (Byte_p _) (by rfl) (by rfl) (by rfl) (by rfl) (fun r hr => ?_)
      subst hr
      repeat (first | refine sc rfl ?_ | refine so rfl ?_ | refine sb rfl ?_ | refine ⟨by decide, ?_⟩)
      have e1 : IntKind.u64.wrap ((n : Int).tdiv 128) = ((n / 128 : Nat) : Int) := by
        rw [Int.tdiv_eq_ediv_of_nonneg (by omega), u64wrap (by omega) (by omega)]
        omega
      rw [e1]
      refine O_call (ih (n / 128) (by omega) (by omega)) (by rfl) (by rfl) (by rfl) (by rfl) (fun r hr => ?_)
      subst hr
      have hl := vput_len (n / 128)
      repeat (first | refine sc rfl ?_ | refine so rfl ?_ | refine sb rfl ?_)
      refine ⟨by simp only [List.length_singleton]; omega, ?_⟩
      repeat (first | refine sc rfl ?_ | refine so rfl ?_ | refine sb rfl ?_)
      refine ⟨_, rfl, rfl, ?_⟩
      have e2 : (n : Int).tmod 128 = (n : Int) % 128 := Int.tmod_eq_emod_of_nonneg (by omega)
      rw [vput_ge (by omega), e2, w64 (x := (n : Int) % 128) (by omega) (by omega), w64 (by omega) (by omega), u8wrap (by omega) (by omega)]
      rw [show ((n : Int) % 128 + 128).toNat = n % 128 + 128 by omega]
      rfl
end Go.Proofs
