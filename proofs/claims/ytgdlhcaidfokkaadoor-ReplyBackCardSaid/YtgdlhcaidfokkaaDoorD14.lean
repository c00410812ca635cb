/- Contracts, part thirteen: varint.Put. -/
import Derived.Test.YtgdlhcaidfokkaaDoorD13
import Derived.Test.YtgdlhcaidfokkaaDoorSy19
set_option linter.unusedSimpArgs false
set_option linter.unusedVariables false
namespace Go.Proofs
open Go.Sy

/-- The low byte with the mark that more follow. -/
theorem or128 (n : Nat) : bitsV .or .u8 (IntKind.u8.wrap (n : Int)) 128 = ((n % 128 + 128 : Nat) : Int) := by
  have hw : IntKind.u8.wrap (n : Int) = ((n % 256 : Nat) : Int) := by
    simp only [IntKind.wrap, show IntKind.u8.signed = false from rfl, show IntKind.u8.bits = 8 from rfl, Bool.false_and, Bool.false_eq_true, if_false]
    omega
  rw [hw]
  have : ∀ m : Fin 256, bitsV .or .u8 ((m.val : Nat) : Int) 128 = ((m.val % 128 + 128 : Nat) : Int) := by decide +kernel
  have h := this ⟨n % 256, Nat.mod_lt _ (by omega)⟩
  simp only at h
  rw [h]
  omega

theorem vput_len2 : ∀ (k n : Nat), n < 128 ^ (k + 1) → (vput n).length ≤ k + 1
  | 0, n, h => by rw [vput_lt (by simpa using h)]; simp
  | k + 1, n, h => by
    by_cases hn : n < 128
    · rw [vput_lt hn]; simp
    · rw [vput_ge hn, List.length_cons]
      have : n / 128 < 128 ^ (k + 1) := by
        rw [Nat.div_lt_iff_lt_mul (by omega)]
        rw [Nat.pow_succ] at h
        exact h
      have := vput_len2 k (n / 128) this
      omega
theorem vput_len10 {n : Nat} (h : n < 18446744073709551616) : (vput n).length ≤ 10 := vput_len2 9 n (Nat.lt_of_lt_of_le h (by decide))

theorem byte_of {m : Nat} (h : m < 256) : ((UInt8.ofNat m).toNat : Int) = (m : Int) := by
  rw [UInt8.toNat_ofNat_of_lt' (by simpa using h)]

theorem Put83_p (n : Nat) (hn : n < 18446744073709551616) : FnP Tryd.prog 40 [U64 (n : Int)] (· = .s (vput n)) := by
  refine FnP.intro Tryd.tabOK Tryd.wide_ Tryd.func40 rfl (by decide) rfl (fun X => ?_)
  repeat (first | refine sc rfl ?_ | refine so rfl ?_ | refine sb rfl ?_ | refine C_scope ?_)
  refine C_loop (fun p : Nat × List UInt8 => ⟨[(0, U64 (p.1 : Int)), (3, .own 16)], [VEC 16 5 1 U8c p.2]⟩) (fun p => p.1 ≤ n ∧ p.2 ++ vput p.1 = vput n) (fun p => p.1) (n, []) ⟨Nat.le_refl _, rfl⟩
    ((Le.nilvec (α := UInt8) U8c 3 16 5 1 rfl rfl rfl).trans (Le.sub [16] ⟨rfl, rfl, trivial⟩ rfl)) ?_
  rintro ⟨m, l⟩ ⟨hm, hl⟩
  simp only at hm hl
  have h10 := vput_len10 hn
  rw [← hl, List.length_append] at h10
  repeat (first | refine sc rfl ?_ | refine so rfl ?_ | refine sb rfl ?_)
  refine C_if rfl (fun h => ?_) (fun h => ?_) <;> simp only [decide_eq_true_eq, decide_eq_false_iff_not] at h
  · have hb : IntKind.u8.wrap (m : Int) = ((UInt8.ofNat m).toNat : Int) := by rw [byte_of (by omega), u8wrap (by omega) (by omega)]
    refine sc rfl ?_
    refine sc rfl ?_
    repeat (first | refine so rfl ?_)
    rw [hb]
    repeat (first | refine sb rfl ?_)
    refine O_push U8c l (UInt8.ofNat m) [(0, U64 (m : Int))] rfl rfl rfl rfl rfl rfl rfl rfl rfl rfl ⟨rfl, trivial⟩ rfl rfl (by omega) (by simp only [maxLen]; omega) ?_
    repeat (first | refine sc rfl ?_ | refine so rfl ?_ | refine sb rfl ?_)
    refine O_text (l ++ [UInt8.ofNat m]) rfl rfl rfl rfl rfl (by rw [List.length_append, List.length_singleton]; omega) rfl ?_
    repeat (first | refine sc rfl ?_ | refine so rfl ?_ | refine sb rfl ?_)
    exact ⟨_, rfl, rfl, by rw [← hl, vput_lt (by omega)]⟩
  · repeat (first | refine sc rfl ?_ | refine so rfl ?_)
    rw [or128, ← byte_of (show m % 128 + 128 < 256 by omega)]
    repeat (first | refine sb rfl ?_)
    refine O_push U8c l (UInt8.ofNat (m % 128 + 128)) [(0, U64 (m : Int))] rfl rfl rfl rfl rfl rfl rfl rfl rfl rfl ⟨rfl, trivial⟩ rfl rfl (by omega) (by simp only [maxLen]; omega) ?_
    repeat (first | refine sc rfl ?_ | refine so rfl ?_ | refine ⟨by decide, ?_⟩)
    have e1 : (m : Int).fdiv (2 ^ min (Int.toNat 7) IntKind.u64.bits) = ((m / 128 : Nat) : Int) := by
      rw [show (2 : Int) ^ min (Int.toNat 7) IntKind.u64.bits = 128 by decide, Int.fdiv_eq_ediv_of_nonneg _ (by decide)]
      omega
    rw [e1]
    repeat (first | refine sc rfl ?_ | refine so rfl ?_)
    exact ⟨(m / 128, l ++ [UInt8.ofNat (m % 128 + 128)]), ⟨by omega, by rw [← hl, vput_ge (show ¬ m < 128 by omega), List.append_assoc]; rfl⟩, by simp only; omega, Le.sub [16] ⟨rfl, rfl, trivial⟩ rfl⟩
end Go.Proofs
