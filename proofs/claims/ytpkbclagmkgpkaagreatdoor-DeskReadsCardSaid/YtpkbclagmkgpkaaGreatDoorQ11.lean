/- The body of a line. -/
import Derived.Test.YtpkbclagmkgpkaaGreatDoorQ10
import Derived.Test.YtpkbclagmkgpkaaGreatDoorQ9
import Derived.Test.YtpkbclagmkgpkaaGreatDoorQ5
import Derived.Test.YtpkbclagmkgpkaaGreatDoorQ8
import Derived.Test.YtpkbclagmkgpkaaGreatDoorQ4
set_option linter.unusedSimpArgs false
set_option linter.unusedVariables false
set_option maxRecDepth 100000
namespace Go.Proofs
open Go.Sy Go.Lib

theorem u64_r (x : Int) : 0 ≤ IntKind.u64.wrap x ∧ IntKind.u64.wrap x < 18446744073709551616 := by
  simp only [IntKind.wrap, show IntKind.u64.signed = false from rfl, show IntKind.u64.bits = 64 from rfl, Bool.false_and, Bool.false_eq_true, if_false]
  omega
theorem tagF_r (x : Int) : 1 ≤ tagF x ∧ tagF x < 18446744073709551616 := by
  have : 0 ≤ mixF x 256 ∧ mixF x 256 < 18446744073709551616 := u64_r _
  unfold tagF
  omega
def CuT (q : Cu) : Prop := (q.1.map fun w => w.length + 1).sum ≤ 1000000
theorem sum_mem {w : List UInt8} : ∀ {l : List (List UInt8)}, w ∈ l → w.length + 1 ≤ (l.map fun w => w.length + 1).sum
  | x :: r, h => by
    rcases List.mem_cons.1 h with rfl | h
    · simp
    · have := sum_mem h
      simp at this ⊢; omega
theorem sum_len : ∀ l : List (List UInt8), l.length ≤ (l.map fun w => w.length + 1).sum
  | [] => by simp
  | x :: r => by have := sum_len r; simp at this ⊢; omega
theorem join_len : ∀ l : List (List UInt8), (Lib.join l [32]).length ≤ (l.map fun w => w.length + 1).sum
  | [] => by simp [Lib.join]
  | [x] => by simp [Lib.join]
  | x :: y :: r => by have := join_len (y :: r); simp [Lib.join] at this ⊢; omega
theorem CuT.ok {q : Cu} (h : CuT q) : CuOK q := fun w hw => by have := sum_mem hw; unfold CuT at h; omega
theorem CuT.tl {q : Cu} (h : CuT q) {b : Bool} : CuT (q.1.tail, b) := by
  unfold CuT at *
  cases hq : q.1 with
  | nil => simp
  | cons x r => rw [hq] at h; simp at h ⊢; omega
theorem CuT.len {q : Cu} (h : CuT q) : q.1.length ≤ 1000000 := by have := sum_len q.1; unfold CuT at h; omega
theorem CuT.join2 {q : Cu} (h : CuT q) : (restV q).length ≤ 1000000000 := by have := join_len q.1; unfold CuT at h; unfold restV; omega
theorem CuT.join {q : Cu} (h : CuT q) : (restV q).length ≤ 140737488355328 := by have := h.join2; omega
def bodyF (key : Int) (verb : List UInt8) (q : Cu) : (Int × List UInt8 × Int) × Cu :=
  if 0 < opF verb then ((8, orderV (opF verb) q), orderC (opF verb) q)
  else if verb = [104, 101, 108, 108, 111] then ((1, helloB q, 0), helloQ q)
  else if verb = [98, 111, 115, 115] then ((1, vput 0 ++ vput 1 ++ vput (tagF key).toNat, 0), q)
  else if verb = [112, 105, 110, 103] then ((5, [], 0), q)
  else if verb = [99, 97, 108, 108] then ((2, callB q, 0), callQ q)
  else if verb = [111, 110, 101, 119, 97, 121] then ((3, callB q, 0), callQ q)
  else if verb = [99, 97, 110, 99, 101, 108] then ((4, vput (numV q), 0), numC q)
  else if verb = [115, 99, 104, 101, 109, 97] then ((6, vput (numV q) ++ restV (numC q), 0), restC (numC q))
  else if verb = [98, 105, 110, 100] then ((7, bindB q, 0), bindQ q)
  else ((0, [], 6), q)
attribute [local irreducible] mixF
theorem body_S (c : Nat) (key : Int) (verb : List UInt8) (q : Cu) (hT : CuT q) (hCP : ∀ x : Cf, (cfP x).1.length ≤ 1000 ∧ FnP Tryz.prog 258 [.agg (Cf.c x)] (· = .tup [.s (cfP x).1, I64 (cfP x).2])) :
    FnA Tryz.prog 116 [U64 key, .s verb, PT c 0] [cuA c q] (fun r cs' => r = .tup [I64 (bodyF key verb q).1.1, .s (bodyF key verb q).1.2.1, I64 (bodyF key verb q).1.2.2] ∧ cs' = [cuA c (bodyF key verb q).2]) := by
  refine FnA.intro Tryz.tabOK Tryz.wide_ Tryz.func116 rfl (by decide) rfl (fun X => ?_)
  have h := hT.ok
  obtain ⟨B0, hB0⟩ : ∃ B0, bodyF key verb q = B0 := ⟨_, rfl⟩
  rw [hB0]
  unfold bodyF at hB0
  repeat (first | refine sc rfl ?_ | refine so rfl ?_)
  refine O_call (orderOp_c verb) (by rfl) (by rfl) (by rfl) (by rfl) (fun r hr => ?_)
  subst hr
  repeat (first | refine sc rfl ?_ | refine so rfl ?_)
  refine C_if rfl (fun h0 => ?_) (fun h0 => ?_) <;> simp only [pL] at h0
  · rw [if_pos h0] at hB0
    subst hB0
    repeat (first | refine sc rfl ?_ | refine so rfl ?_)
    refine O_callA [0] (order_S c (opF verb) q h hCP) (by rfl) (by rfl) (by rfl) (by rfl) (by rfl) ?_
    rintro r' cs' ⟨rfl, rfl⟩
    repeat (first | refine sc rfl ?_ | refine so rfl ?_)
    exact ⟨_, [_], _, rfl, pickA_perm (is := [0]) (As := [_]) rfl, rfl, rfl, rfl⟩
  rw [if_neg h0] at hB0
  repeat (first | refine sc rfl ?_ | refine so rfl ?_)
  refine C_if rfl (fun h1 => ?_) (fun h1 => ?_) <;> simp only [pL] at h1
  · rw [if_pos h1] at hB0
    subst hB0
    repeat (first | refine sc rfl ?_ | refine so rfl ?_)
    refine O_callA [0] (greeting_S c q h) (by rfl) (by rfl) (by rfl) (by rfl) (by rfl) ?_
    rintro r' cs' ⟨rfl, rfl⟩
    repeat (first | refine sc rfl ?_ | refine so rfl ?_)
    exact ⟨_, [_], _, rfl, pickA_perm (is := [0]) (As := [_]) rfl, rfl, rfl, rfl⟩
  rw [if_neg h1] at hB0
  clear h1
  repeat (first | refine sc rfl ?_ | refine so rfl ?_)
  refine C_if rfl (fun h1 => ?_) (fun h1 => ?_) <;> simp only [pL] at h1
  · rw [if_pos h1] at hB0
    subst hB0
    repeat (first | refine sc rfl ?_ | refine so rfl ?_)
    refine O_callA [] (bossTag_c key) (by rfl) (by rfl) (by rfl) (by rfl) (by rfl) ?_
    rintro r' cs' ⟨rfl, rfl⟩
    have ht := tagF_r key
    obtain ⟨tg, htg⟩ : ∃ tg : Nat, tagF key = (tg : Int) := ⟨(tagF key).toNat, by omega⟩
    rw [htg] at ht ⊢
    rw [Int.toNat_natCast]
    clear htg
    repeat refine so rfl ?_
    refine O_call (helloPut_c 0 1 tg (by decide) (by decide) (by omega)) (by rfl) (by rfl) (by rfl) (by rfl) (fun r hr => ?_)
    subst hr
    repeat (first | refine sc rfl ?_ | refine so rfl ?_)
    exact ⟨_, [_], _, rfl, pickA_perm (is := [0]) (As := [_]) rfl, rfl, rfl, rfl⟩
  rw [if_neg h1] at hB0
  clear h1
  repeat (first | refine sc rfl ?_ | refine so rfl ?_)
  refine C_if rfl (fun h1 => ?_) (fun h1 => ?_) <;> simp only [pL] at h1
  · rw [if_pos h1] at hB0
    subst hB0
    repeat (first | refine sc rfl ?_ | refine so rfl ?_)
    exact ⟨_, [_], _, rfl, pickA_perm (is := [0]) (As := [_]) rfl, rfl, rfl, rfl⟩
  rw [if_neg h1] at hB0
  clear h1
  repeat (first | refine sc rfl ?_ | refine so rfl ?_)
  refine C_if rfl (fun h1 => ?_) (fun h1 => ?_) <;> simp only [pL] at h1
  · rw [if_pos h1] at hB0
    subst hB0
    repeat (first | refine sc rfl ?_ | refine so rfl ?_)
    refine O_callA [0] (calling_S c q h) (by rfl) (by rfl) (by rfl) (by rfl) (by rfl) ?_
    rintro r' cs' ⟨rfl, rfl⟩
    repeat (first | refine sc rfl ?_ | refine so rfl ?_)
    exact ⟨_, [_], _, rfl, pickA_perm (is := [0]) (As := [_]) rfl, rfl, rfl, rfl⟩
  rw [if_neg h1] at hB0
  clear h1
  repeat (first | refine sc rfl ?_ | refine so rfl ?_)
  refine C_if rfl (fun h1 => ?_) (fun h1 => ?_) <;> simp only [pL] at h1
  · rw [if_pos h1] at hB0
    subst hB0
    repeat (first | refine sc rfl ?_ | refine so rfl ?_)
    refine O_callA [0] (calling_S c q h) (by rfl) (by rfl) (by rfl) (by rfl) (by rfl) ?_
    rintro r' cs' ⟨rfl, rfl⟩
    repeat (first | refine sc rfl ?_ | refine so rfl ?_)
    exact ⟨_, [_], _, rfl, pickA_perm (is := [0]) (As := [_]) rfl, rfl, rfl, rfl⟩
  rw [if_neg h1] at hB0
  clear h1
  repeat (first | refine sc rfl ?_ | refine so rfl ?_)
  refine C_if rfl (fun h1 => ?_) (fun h1 => ?_) <;> simp only [pL] at h1
  · rw [if_pos h1] at hB0
    subst hB0
    repeat (first | refine sc rfl ?_ | refine so rfl ?_)
    refine O_callA [0] (num_S c q h) (by rfl) (by rfl) (by rfl) (by rfl) (by rfl) ?_
    rintro r' cs' ⟨rfl, rfl⟩
    repeat refine sc rfl ?_
    refine O_call (putCancel_c (numV q) (numV_lt q)) (by rfl) (by rfl) (by rfl) (by rfl) (fun r hr => ?_)
    subst hr
    repeat (first | refine sc rfl ?_ | refine so rfl ?_)
    exact ⟨_, [_], _, rfl, pickA_perm (is := [0]) (As := [_]) rfl, rfl, rfl, rfl⟩
  rw [if_neg h1] at hB0
  clear h1
  repeat (first | refine sc rfl ?_ | refine so rfl ?_)
  refine C_if rfl (fun h1 => ?_) (fun h1 => ?_) <;> simp only [pL] at h1
  · rw [if_pos h1] at hB0
    subst hB0
    repeat (first | refine sc rfl ?_ | refine so rfl ?_)
    refine O_callA [0] (num_S c q h) (by rfl) (by rfl) (by rfl) (by rfl) (by rfl) ?_
    rintro r' cs' ⟨rfl, rfl⟩
    repeat (first | refine sc rfl ?_ | refine so rfl ?_)
    have ht2 := hT.tl (b := q.2 || q.1.isEmpty || (numF (q.1.headD [])).isNone)
    refine O_callA [0] (rest_S c (numC q) ht2.len ht2.join) (by rfl) (by rfl) (by rfl) (by rfl) (by rfl) ?_
    rintro r' cs' ⟨rfl, rfl⟩
    repeat refine sc rfl ?_
    refine O_call (putSchema_c (numV q) (restV (numC q)) (numV_lt q) ht2.join2) (by rfl) (by rfl) (by rfl) (by rfl) (fun r hr => ?_)
    subst hr
    repeat (first | refine sc rfl ?_ | refine so rfl ?_)
    exact ⟨_, [_], _, rfl, pickA_perm (is := [0]) (As := [_]) rfl, rfl, rfl, rfl⟩
  rw [if_neg h1] at hB0
  clear h1
  repeat (first | refine sc rfl ?_ | refine so rfl ?_)
  refine C_if rfl (fun h1 => ?_) (fun h1 => ?_) <;> simp only [pL] at h1
  · rw [if_pos h1] at hB0
    subst hB0
    repeat (first | refine sc rfl ?_ | refine so rfl ?_)
    refine O_callA [0] (binding_S c q h) (by rfl) (by rfl) (by rfl) (by rfl) (by rfl) ?_
    rintro r' cs' ⟨rfl, rfl⟩
    repeat (first | refine sc rfl ?_ | refine so rfl ?_)
    exact ⟨_, [_], _, rfl, pickA_perm (is := [0]) (As := [_]) rfl, rfl, rfl, rfl⟩
  rw [if_neg h1] at hB0
  clear h1
  repeat (first | refine sc rfl ?_ | refine so rfl ?_)
  subst hB0
  exact ⟨_, [_], _, rfl, pickA_perm (is := [0]) (As := [_]) rfl, rfl, rfl, rfl⟩
end Go.Proofs

namespace Go.Proofs
open Go.Sy Go.Lib

theorem u8_s {x : Int} (h1 : 0 ≤ x) (h2 : x < 256) : IntKind.u8.wrap x = x := by
  unfold IntKind.wrap
  show x.emod 256 = x
  exact Int.emod_eq_of_lt h1 h2
theorem u8_of (m : Nat) (h : m < 256) : (((UInt8.ofNat m).toNat : Nat) : Int) = (m : Int) := by
  rw [UInt8.toNat_ofNat', Nat.mod_eq_of_lt h]
theorem rByte_c (m : Nat) (hm : m < 256) : FnP Tryz.prog 119 [I64 (m : Nat)] (· = .s [UInt8.ofNat m]) := by
  refine FnP.intro Tryz.tabOK Tryz.wide_ Tryz.func119 rfl (by decide) rfl (fun X => ?_)
  repeat (first|refine sc rfl ?_|refine so rfl ?_|refine sb rfl ?_)
  refine O_le _ (Le.vecrow (k := 5) 1 (fun j => U8c ([UInt8.ofNat m].getD j default)) rfl rfl (fun j hj => ?_)) ?_
  · obtain rfl : j = 0 := Nat.lt_one_iff.1 hj
    show [AV.v (Value.int .u8 (IntKind.u8.wrap (m : Nat)))] = [AV.v (Value.int .u8 (((UInt8.ofNat m).toNat : Nat) : Int))]
    rw [u8_s (by omega) (by omega), u8_of m hm]
  refine O_text [UInt8.ofNat m] rfl rfl rfl rfl rfl (Nat.zero_lt_one) rfl ?_
  repeat (first | refine sc rfl ?_ | refine so rfl ?_)
  exact ⟨_, rfl, rfl, rfl⟩
theorem rPut_c : ∀ n : Nat, n < 18446744073709551616 → FnP Tryz.prog 180 [U64 (n : Nat)] (· = .s (vput n)) := by
  intro n
  induction n using Nat.strongRecOn with
  | ind n ih =>
  intro hn
  refine FnP.intro Tryz.tabOK Tryz.wide_ Tryz.func180 rfl (by decide) rfl (fun X => ?_)
  repeat (first | refine sc rfl ?_ | refine so rfl ?_)
  refine C_if rfl (fun k1 => ?_) (fun k1 => ?_) <;> simp only [pL] at k1
  · rw [vput_lt (by omega)]
    repeat (first | refine sc rfl ?_ | refine so rfl ?_)
    rw [w64 (x := (n : Int)) (by omega) (by omega)]
    refine O_call (rByte_c n (by omega)) (by rfl) (by rfl) (by rfl) (by rfl) (fun r hr => ?_)
    subst hr
    repeat (first | refine sc rfl ?_ | refine so rfl ?_)
    exact ⟨_, rfl, rfl, rfl⟩
  · have hl := vput_len10 (n := n / 128) (by omega)
    rw [vput_ge (by omega)]
    repeat (first | refine sc rfl ?_ | refine so rfl ?_)
    refine ⟨by decide, ?_⟩
    rw [show ((n : Nat) : Int).tmod 128 = ((n % 128 : Nat) : Int) from (Int.ofNat_tmod n 128).symm]
    repeat refine so rfl ?_
    rw [w64 (x := ((n % 128 : Nat) : Int)) (by omega) (by omega)]
    repeat refine sc rfl ?_
    rw [w64 (x := ((n % 128 : Nat) : Int) + 128) (by omega) (by omega), show ((n % 128 : Nat) : Int) + 128 = ((n % 128 + 128 : Nat) : Int) by omega]
    refine O_call (rByte_c (n % 128 + 128) (by omega)) (by rfl) (by rfl) (by rfl) (by rfl) (fun r hr => ?_)
    subst hr
    repeat refine so rfl ?_
    refine ⟨by decide, ?_⟩
    rw [show ((n : Nat) : Int).tdiv 128 = ((n / 128 : Nat) : Int) from (Int.ofNat_tdiv n 128).symm, u64wrap (x := ((n / 128 : Nat) : Int)) (by omega) (by omega)]
    refine O_call (ih (n / 128) (by omega) (by omega)) (by rfl) (by rfl) (by rfl) (by rfl) (fun r hr => ?_)
    subst hr
    repeat refine so rfl ?_
    refine ⟨by simp only [List.length_cons, List.length_nil]; omega, ?_⟩
    repeat (first | refine sc rfl ?_ | refine so rfl ?_)
    exact ⟨_, rfl, rfl, rfl⟩
theorem rNum_c (n : Nat) (hn : n < 18446744073709551616) : FnP Tryz.prog 123 [U64 (n : Nat)] (· = .s (vput n)) := by
  refine FnP.intro Tryz.tabOK Tryz.wide_ Tryz.func123 rfl (by decide) rfl (fun X => ?_)
  repeat (first | refine sc rfl ?_ | refine so rfl ?_)
  refine O_call (rPut_c n hn) (by rfl) (by rfl) (by rfl) (by rfl) (fun r hr => ?_)
  subst hr
  repeat (first | refine sc rfl ?_ | refine so rfl ?_)
  exact ⟨_, rfl, rfl, rfl⟩
theorem rNum34_c (n : Nat) (hn : n < 9223372036854775808) : FnP Tryz.prog 182 [I64 (n : Nat)] (· = .s (vput n)) := by
  refine FnP.intro Tryz.tabOK Tryz.wide_ Tryz.func182 rfl (by decide) rfl (fun X => ?_)
  repeat (first | refine sc rfl ?_ | refine so rfl ?_)
  refine C_false rfl (by simp) ?_
  repeat (first | refine sc rfl ?_ | refine so rfl ?_)
  rw [u64wrap (x := (n : Int)) (by omega) (by omega)]
  refine O_call (rPut_c n (by omega)) (by rfl) (by rfl) (by rfl) (by rfl) (fun r hr => ?_)
  subst hr
  repeat (first | refine sc rfl ?_ | refine so rfl ?_)
  exact ⟨_, rfl, rfl, rfl⟩
theorem rSpan_c (s : List UInt8) (hs : s.length ≤ 1000000000) : FnP Tryz.prog 183 [.s s] (· = .s (spanF s)) := by
  refine FnP.intro Tryz.tabOK Tryz.wide_ Tryz.func183 rfl (by decide) rfl (fun X => ?_)
  have hl := vput_len10 (n := s.length) (by omega)
  repeat (first | refine sc rfl ?_ | refine so rfl ?_)
  rw [u64wrap (x := ((s.length : Nat) : Int)) (by omega) (by omega)]
  refine O_call (rPut_c s.length (by omega)) (by rfl) (by rfl) (by rfl) (by rfl) (fun r hr => ?_)
  subst hr
  repeat refine so rfl ?_
  refine ⟨by omega, ?_⟩
  repeat (first | refine sc rfl ?_ | refine so rfl ?_)
  exact ⟨_, rfl, rfl, rfl⟩
theorem xorN_bits (a b : Nat) (ha : a < 18446744073709551616) (hb : b < 18446744073709551616) : bitsV .xor .u64 (a : Int) (b : Int) = ((a ^^^ b : Nat) : Int) := by
  have h : a ^^^ b < 2 ^ 64 := Nat.xor_lt_two_pow ha hb
  show IntKind.u64.wrap (((BitVec.ofInt 64 a ^^^ BitVec.ofInt 64 b).toNat : Nat) : Int) = _
  rw [show BitVec.ofInt 64 (a : Int) = BitVec.ofNat 64 a from rfl, show BitVec.ofInt 64 (b : Int) = BitVec.ofNat 64 b from rfl, BitVec.toNat_xor, BitVec.toNat_ofNat, BitVec.toNat_ofNat, Nat.mod_eq_of_lt ha, Nat.mod_eq_of_lt hb]
  exact u64wrap (by omega) (by omega)
theorem xor_succ (a b i : Nat) : (a ^^^ b) % 2 ^ (i + 1) = (a ^^^ b) % 2 ^ i + (if a / 2 ^ i % 2 = b / 2 ^ i % 2 then 0 else 2 ^ i) := by
  rw [Nat.mod_pow_succ, ← Nat.toNat_testBit, ← Nat.toNat_testBit, ← Nat.toNat_testBit, Nat.testBit_xor]
  cases a.testBit i <;> cases b.testBit i <;> simp
theorem u64mod (n : Nat) : IntKind.u64.wrap ((n : Nat) : Int) = ((n % 18446744073709551616 : Nat) : Int) := by
  simp only [IntKind.wrap, show IntKind.u64.signed = false from rfl, show IntKind.u64.bits = 64 from rfl, Bool.false_and, Bool.false_eq_true, if_false]
  omega
theorem rXor_c (a b : Nat) (ha : a < 18446744073709551616) (hb : b < 18446744073709551616) : FnP Tryz.prog 225 [U64 (a : Nat), U64 (b : Nat)] (· = U64 ((a ^^^ b : Nat) : Int)) := by
  refine FnP.intro Tryz.tabOK Tryz.wide_ Tryz.func225 rfl (by decide) rfl (fun X => ?_)
  have hx : a ^^^ b < 2 ^ 64 := Nat.xor_lt_two_pow ha hb
  repeat (first | refine sc rfl ?_ | refine so rfl ?_)
  refine C_loop (fun i : Nat => ⟨[(0, U64 ((a / 2 ^ i : Nat) : Int)), (1, U64 ((b / 2 ^ i : Nat) : Int)), (5, U64 (((a ^^^ b) % 2 ^ i : Nat) : Int)), (6, U64 ((2 ^ i % 18446744073709551616 : Nat) : Int)), (7, I64 (i : Nat))], []⟩) (fun i => i ≤ 64) (fun i => 64 - i) 0 (by decide) ?_ ?_
  · simp only [Nat.pow_zero, Nat.div_one, Nat.mod_one]
    exact Le.pick [] ⟨rfl, rfl, rfl, rfl, rfl, trivial⟩ rfl
  intro i hi
  repeat (first | refine sc rfl ?_ | refine so rfl ?_)
  refine C_if rfl (fun k1 => ?_) (fun k1 => ?_) <;> simp only [pL] at k1
  · have hp : 2 ^ i ≤ 2 ^ 63 := Nat.pow_le_pow_right (by decide) (by omega)
    have hsucc := xor_succ a b i
    have hlt : (a ^^^ b) % 2 ^ i < 2 ^ i := Nat.mod_lt _ (Nat.two_pow_pos i)
    have hpm : 2 ^ i % 18446744073709551616 = 2 ^ i := Nat.mod_eq_of_lt (by omega)
    have hlt2 : (a ^^^ b) % 2 ^ (i + 1) < 2 ^ 64 := Nat.lt_of_le_of_lt (Nat.mod_le _ _) hx
    rw [hpm]
    repeat (first | refine sc rfl ?_ | refine so rfl ?_)
    refine ⟨by decide, ?_⟩
    rw [show ((a / 2 ^ i : Nat) : Int).tmod 2 = ((a / 2 ^ i % 2 : Nat) : Int) from (Int.ofNat_tmod _ 2).symm]
    repeat refine so rfl ?_
    refine ⟨by decide, ?_⟩
    rw [show ((b / 2 ^ i : Nat) : Int).tmod 2 = ((b / 2 ^ i % 2 : Nat) : Int) from (Int.ofNat_tmod _ 2).symm]
    repeat refine so rfl ?_
    refine C_ifJ ⟨[(0, U64 ((a / 2 ^ i : Nat) : Int)), (1, U64 ((b / 2 ^ i : Nat) : Int)), (5, U64 (((a ^^^ b) % 2 ^ (i + 1) : Nat) : Int)), (6, U64 ((2 ^ i : Nat) : Int)), (7, I64 (i : Nat))], []⟩ rfl (fun k2 => ?_) (fun k2 => ?_) (fun s0 hs0 => C_le _ hs0 ?_) <;> try simp only [pL] at k2
    · rw [if_neg (by omega)] at hsucc
      repeat (first | refine sc rfl ?_ | refine so rfl ?_)
      rw [hsucc] at hlt2 ⊢
      rw [u64wrap (x := (((a ^^^ b) % 2 ^ i : Nat) : Int) + ((2 ^ i : Nat) : Int)) (by omega) (by omega), ← Int.natCast_add]
      exact Le.pick [] ⟨rfl, rfl, rfl, rfl, rfl, trivial⟩ rfl
    · rw [if_pos (by omega), Nat.add_zero] at hsucc
      rw [hsucc]
      repeat refine sc rfl ?_
      exact Le.pick [] ⟨rfl, rfl, rfl, rfl, rfl, trivial⟩ rfl
    repeat (first | refine sc rfl ?_ | refine so rfl ?_)
    refine ⟨by decide, ?_⟩
    rw [show ((a / 2 ^ i : Nat) : Int).tdiv 2 = ((a / 2 ^ i / 2 : Nat) : Int) from (Int.ofNat_tdiv _ 2).symm, Nat.div_div_eq_div_mul, ← Nat.pow_succ, u64wrap (x := ((a / 2 ^ (i + 1) : Nat) : Int)) (Int.natCast_nonneg _) (by have := Nat.div_le_self a (2 ^ (i + 1)); omega)]
    repeat (first | refine sc rfl ?_ | refine so rfl ?_)
    refine ⟨by decide, ?_⟩
    rw [show ((b / 2 ^ i : Nat) : Int).tdiv 2 = ((b / 2 ^ i / 2 : Nat) : Int) from (Int.ofNat_tdiv _ 2).symm, Nat.div_div_eq_div_mul, ← Nat.pow_succ, u64wrap (x := ((b / 2 ^ (i + 1) : Nat) : Int)) (Int.natCast_nonneg _) (by have := Nat.div_le_self b (2 ^ (i + 1)); omega)]
    repeat (first | refine sc rfl ?_ | refine so rfl ?_)
    rw [show ((2 ^ i : Nat) : Int) * 2 = ((2 ^ (i + 1) : Nat) : Int) by rw [Nat.pow_succ]; omega, u64mod]
    repeat refine sc rfl ?_
    rw [w64 (x := (i : Int) + 1) (by omega) (by omega)]
    exact ⟨i + 1, by omega, by omega, Le.pick [] ⟨rfl, rfl, rfl, rfl, rfl, trivial⟩ rfl⟩
  · obtain rfl : i = 64 := by omega
    rw [Nat.mod_eq_of_lt hx]
    repeat (first | refine sc rfl ?_ | refine so rfl ?_)
    exact ⟨_, rfl, rfl, rfl⟩
theorem u64nat (x : Int) : ∃ m : Nat, m < 18446744073709551616 ∧ IntKind.u64.wrap x = (m : Int) := by
  have h := u64_r x
  exact ⟨(IntKind.u64.wrap x).toNat, by omega, by omega⟩
theorem mix_eq (a b m k : Nat) (ha : a < 18446744073709551616) (hb : b < 18446744073709551616) (h1 : IntKind.u64.wrap (((a ^^^ b : Nat) : Int) * 11400714819323198485) = (m : Int)) (hm : m < 18446744073709551616)
    (h2 : IntKind.u64.wrap (((m ^^^ (m / 536870912) : Nat) : Int) * 13787848793156543929) = (k : Int)) (hk : k < 18446744073709551616) : mixF a b = ((k ^^^ (k / 4294967296) : Nat) : Int) := by
  unfold mixF
  simp only []
  rw [xorN_bits a b ha hb, h1, show ((m : Int).fdiv (2 ^ min (Int.toNat 29) IntKind.u64.bits)) = ((m / 536870912 : Nat) : Int) from by
    rw [Int.fdiv_eq_ediv_of_nonneg _ (by decide)]; rfl, xorN_bits m (m / 536870912) hm (by omega), h2, show ((k : Int).fdiv (2 ^ min (Int.toNat 32) IntKind.u64.bits)) = ((k / 4294967296 : Nat) : Int) from by
    rw [Int.fdiv_eq_ediv_of_nonneg _ (by decide)]; rfl, xorN_bits k (k / 4294967296) hk (by omega)]
theorem rMix_c (a b : Nat) (ha : a < 18446744073709551616) (hb : b < 18446744073709551616) : FnP Tryz.prog 181 [U64 (a : Nat), U64 (b : Nat)] (· = U64 (mixF a b)) := by
  refine FnP.intro Tryz.tabOK Tryz.wide_ Tryz.func181 rfl (by decide) rfl (fun X => ?_)
  obtain ⟨m, hm, h1⟩ := u64nat (((a ^^^ b : Nat) : Int) * 11400714819323198485)
  obtain ⟨k, hk, h2⟩ := u64nat (((m ^^^ (m / 536870912) : Nat) : Int) * 13787848793156543929)
  rw [mix_eq a b m k ha hb h1 hm h2 hk]
  repeat (first | refine sc rfl ?_ | refine so rfl ?_)
  refine O_call (rXor_c a b ha hb) (by rfl) (by rfl) (by rfl) (by rfl) (fun r hr => ?_)
  subst hr
  repeat (first | refine sc rfl ?_ | refine so rfl ?_)
  rw [h1]
  repeat refine sc rfl ?_
  refine ⟨by decide, ?_⟩
  rw [show ((m : Nat) : Int).tdiv 536870912 = ((m / 536870912 : Nat) : Int) from (Int.ofNat_tdiv m 536870912).symm, u64wrap (x := ((m / 536870912 : Nat) : Int)) (by omega) (by omega)]
  refine O_call (rXor_c m (m / 536870912) hm (by omega)) (by rfl) (by rfl) (by rfl) (by rfl) (fun r hr => ?_)
  subst hr
  repeat (first | refine sc rfl ?_ | refine so rfl ?_)
  rw [h2]
  repeat refine sc rfl ?_
  refine ⟨by decide, ?_⟩
  rw [show ((k : Nat) : Int).tdiv 4294967296 = ((k / 4294967296 : Nat) : Int) from (Int.ofNat_tdiv k 4294967296).symm, u64wrap (x := ((k / 4294967296 : Nat) : Int)) (by omega) (by omega)]
  refine O_call (rXor_c k (k / 4294967296) hk (by omega)) (by rfl) (by rfl) (by rfl) (by rfl) (fun r hr => ?_)
  subst hr
  repeat (first | refine sc rfl ?_ | refine so rfl ?_)
  exact ⟨_, rfl, rfl, rfl⟩
theorem rTag_c (x : Nat) (hx : x < 18446744073709551616) : FnP Tryz.prog 122 [U64 (x : Nat)] (· = U64 (tagF x)) := by
  refine FnP.intro Tryz.tabOK Tryz.wide_ Tryz.func122 rfl (by decide) rfl (fun X => ?_)
  have ht := tagF_r x
  unfold tagF at ht ⊢
  repeat (first | refine sc rfl ?_ | refine so rfl ?_)
  refine O_call (rMix_c x 256 hx (by decide)) (by rfl) (by rfl) (by rfl) (by rfl) (fun r hr => ?_)
  subst hr
  rw [show ((256 : Nat) : Int) = 256 from rfl]
  have hm : 0 ≤ mixF x 256 := by unfold mixF; simp only []; unfold bitsV; exact (u64_r _).1
  repeat (first | refine sc rfl ?_ | refine so rfl ?_)
  refine C_if rfl (fun k1 => ?_) (fun k1 => ?_) <;> simp only [pL] at k1
  · repeat (first | refine sc rfl ?_ | refine so rfl ?_)
    rw [k1]
    exact ⟨_, rfl, rfl, rfl⟩
  · rw [Int.max_eq_left (by omega)]
    repeat (first | refine sc rfl ?_ | refine so rfl ?_)
    exact ⟨_, rfl, rfl, rfl⟩
end Go.Proofs

namespace Go.Proofs
open Go.Sy Go.Lib

theorem b8_of (m : Nat) : b8 (m : Nat) = UInt8.ofNat (m % 256) := by
  unfold b8
  have h : IntKind.u8.wrap (m : Nat) = ((m % 256 : Nat) : Int) := by
    simp only [IntKind.wrap, show IntKind.u8.signed = false from rfl, show IntKind.u8.bits = 8 from rfl, Bool.false_and, Bool.false_eq_true, if_false]
    omega
  rw [h, Int.toNat_natCast]
theorem rFrame_c (k : Nat) (b : List UInt8) (hk : k ≤ 9) (hb : b.length ≤ 9223372036854770000) : FnP Tryz.prog 76 [.agg [I64 (k : Nat), I64 0, .s b]] (· = .tup [.s (fputL k 0 b), I64 (fputE k 0 b)]) := by
  refine FnP.intro Tryz.tabOK Tryz.wide_ Tryz.func76 rfl (by decide) rfl (fun X => ?_)
  unfold fputL fputE
  repeat (first | refine sc rfl ?_ | refine so rfl ?_)
  refine O_case 8 rfl (fun k1 => ?_) (fun k1 => ?_) <;> simp only [pL] at k1
  · repeat refine so rfl ?_
    refine C_true rfl rfl ?_
    repeat (first | refine sc rfl ?_ | refine so rfl ?_)
    rw [if_neg (by omega), if_pos (by omega)]
    exact ⟨_, rfl, rfl, rfl⟩
  repeat refine so rfl ?_
  refine C_false rfl (by simp; omega) ?_
  repeat (first | refine sc rfl ?_ | refine so rfl ?_)
  refine C_false rfl (by decide) ?_
  repeat (first | refine sc rfl ?_ | refine so rfl ?_)
  refine C_if rfl (fun k2 => ?_) (fun k2 => ?_) <;> simp only [pL] at k2
  · repeat (first | refine sc rfl ?_ | refine so rfl ?_)
    rw [if_neg (by omega), if_neg (by omega), if_neg (by omega), if_pos (by omega)]
    exact ⟨_, rfl, rfl, rfl⟩
  rw [if_pos (by omega), if_neg (by omega), if_neg (by omega), if_neg (by omega)]
  rw [b8_of k, show b8 0 = UInt8.ofNat 0 from rfl, show b8 ((b.length : Nat) / 256 : Int) = UInt8.ofNat (b.length / 256) from by rw [show ((b.length : Nat) / 256 : Int) = ((b.length / 256 : Nat) : Int) from rfl, b8_of, Nat.mod_eq_of_lt (by omega)], b8_of b.length, Nat.mod_eq_of_lt (show k < 256 by omega)]
  repeat (first | refine sc rfl ?_ | refine so rfl ?_)
  refine C_le _ (Le.freezebox 1 rfl rfl rfl) ?_
  refine C_drawD rfl (by kernel_rfl) ?_
  repeat refine sd rfl ?_
  refine D_call (rByte_c k (by omega)) rfl rfl rfl rfl ?_
  repeat refine sd rfl ?_
  refine D_call (rByte_c 0 (by decide)) rfl rfl rfl rfl ?_
  repeat refine sd rfl ?_
  refine ⟨by simp, ?_⟩
  repeat refine sd rfl ?_
  refine ⟨by decide, ?_⟩
  rw [show ((b.length : Nat) : Int).tdiv 256 = ((b.length / 256 : Nat) : Int) from (Int.ofNat_tdiv _ 256).symm, w64 (x := ((b.length / 256 : Nat) : Int)) (by omega) (by omega)]
  refine D_call (rByte_c (b.length / 256) (by omega)) rfl rfl rfl rfl ?_
  repeat refine sd rfl ?_
  refine ⟨by simp, ?_⟩
  repeat refine sd rfl ?_
  refine ⟨by decide, ?_⟩
  rw [show ((b.length : Nat) : Int).tmod 256 = ((b.length % 256 : Nat) : Int) from (Int.ofNat_tmod _ 256).symm]
  refine D_call (rByte_c (b.length % 256) (by omega)) rfl rfl rfl rfl ?_
  repeat refine sd rfl ?_
  refine ⟨by simp, ?_⟩
  repeat refine sd rfl ?_
  refine ⟨by simp; omega, ?_⟩
  repeat refine sd rfl ?_
  repeat refine sc rfl ?_
  exact ⟨_, rfl, rfl, rfl⟩
theorem rHello_c (o e t : Nat) (h1 : o ≤ 9223372036854775807) (h2 : e ≤ 9223372036854775807) (h3 : t < 18446744073709551616) :
    FnP Tryz.prog 121 [.agg [I64 (o : Nat), I64 (e : Nat), U64 (t : Nat)]] (· = .tup [.s (vput o ++ vput e ++ vput t), I64 0]) := by
  refine FnP.intro Tryz.tabOK Tryz.wide_ Tryz.func121 rfl (by decide) rfl (fun X => ?_)
  have a1 := vput_len10 (n := o) (by omega)
  have a2 := vput_len10 (n := e) (by omega)
  have a3 := vput_len10 h3
  repeat (first | refine sc rfl ?_ | refine so rfl ?_)
  refine C_false rfl (by simp) ?_
  repeat refine sc rfl ?_
  refine C_le _ (Le.freezebox 1 rfl rfl rfl) ?_
  refine C_drawD rfl (by kernel_rfl) ?_
  repeat refine sd rfl ?_
  rw [u64wrap (x := (o : Int)) (by omega) (by omega)]
  refine D_call (rPut_c o (by omega)) rfl rfl rfl rfl ?_
  repeat refine sd rfl ?_
  rw [u64wrap (x := (e : Int)) (by omega) (by omega)]
  refine D_call (rPut_c e (by omega)) rfl rfl rfl rfl ?_
  repeat refine sd rfl ?_
  refine ⟨by omega, ?_⟩
  repeat refine sd rfl ?_
  refine D_call (rPut_c t h3) rfl rfl rfl rfl ?_
  repeat refine sd rfl ?_
  refine ⟨by simp only [List.length_append]; omega, ?_⟩
  repeat refine sd rfl ?_
  repeat refine sc rfl ?_
  exact ⟨_, rfl, rfl, rfl⟩
theorem rBind_c (id num : Nat) (a b : List UInt8) (op : Nat) (h1 : id < 18446744073709551616) (h2 : num ≤ 9223372036854775807) (h3 : op ≤ 9223372036854775807) (ha : a.length ≤ 1000000000) (hb : b.length ≤ 1000000000) :
    FnP Tryz.prog 124 [.agg [U64 (id : Nat), I64 (num : Nat), .s a, .s b, I64 (op : Nat)]] (· = .s (vput id ++ vput num ++ spanF a ++ spanF b ++ vput op)) := by
  refine FnP.intro Tryz.tabOK Tryz.wide_ Tryz.func124 rfl (by decide) rfl (fun X => ?_)
  have a1 := vput_len10 h1
  have a2 := vput_len10 (n := num) (by omega)
  have a3 := vput_len10 (n := op) (by omega)
  have a4 : (spanF a).length ≤ 1000000010 := by have := vput_len10 (n := a.length) (by omega); simp only [spanF, List.length_append]; omega
  have a5 : (spanF b).length ≤ 1000000010 := by have := vput_len10 (n := b.length) (by omega); simp only [spanF, List.length_append]; omega
  repeat (first | refine sc rfl ?_ | refine so rfl ?_)
  refine C_le _ (Le.freezebox 1 rfl rfl rfl) ?_
  refine C_drawD rfl (by kernel_rfl) ?_
  repeat refine sd rfl ?_
  refine D_call (rPut_c id h1) rfl rfl rfl rfl ?_
  repeat refine sd rfl ?_
  refine D_call (rNum34_c num (by omega)) rfl rfl rfl rfl ?_
  repeat refine sd rfl ?_
  refine ⟨by omega, ?_⟩
  repeat refine sd rfl ?_
  refine D_call (rSpan_c a ha) rfl rfl rfl rfl ?_
  repeat refine sd rfl ?_
  refine ⟨by rw [List.length_append]; omega, ?_⟩
  repeat refine sd rfl ?_
  refine D_call (rSpan_c b hb) rfl rfl rfl rfl ?_
  repeat refine sd rfl ?_
  refine ⟨by rw [List.length_append, List.length_append]; omega, ?_⟩
  repeat refine sd rfl ?_
  refine D_call (rNum34_c op (by omega)) rfl rfl rfl rfl ?_
  repeat refine sd rfl ?_
  refine ⟨by rw [List.length_append, List.length_append, List.length_append]; omega, ?_⟩
  repeat refine sd rfl ?_
  repeat refine sc rfl ?_
  exact ⟨_, rfl, rfl, rfl⟩
end Go.Proofs

namespace Go.Sy
open Go.RowKit
section
variable {P : Program} {T : Tab} {X : Ctx P T} {n : Nat} {e : Env} {st : St} {a : Act} {w : World} {ops : Array Oper} {K : St → Prop}
theorem U_any (f m : Nat) {Q : Exit → St → Prop} {s base : List (Nat × AV)} {c : List Ch} (hb : eraseD (ops.toList.take m) s = some base) (hchk : chkD base 0 [] (ops.toList.take m) = true) (hed : edgesB ops = true)
    (ht : tailB ops f m = true) (h : SymD X n ops base c (fun s => SymO X n ops (ops.toList.drop m) s (fun s => Q .normal s)) (ops.toList.take m) [])  {e : Env} {a : Act} {w : World} (r : Rel X n e ⟨s, c⟩ a w) : wpAny P .any ops (concX X n Q) ops.size (Array.replicate ops.size false) a { w with drawn := w.drawn + 1 } := by
  have hbs : ∀ k y, get base k = some y → get s k = some y := fun k y hk => eraseD_get hb hk
  obtain ⟨D, _, hl, hK, hs⟩ := h.plan
  obtain ⟨c1, c2⟩ := chkD_spec hchk
  have hbel : Below w.heap.size w { w with drawn := w.drawn + 1 } := ⟨rfl, rfl, rfl, Nat.le_refl _, fun _ _ => rfl⟩
  have hm : m < ops.size := by
    unfold tailB at ht
    simp only [Bool.and_eq_true] at ht
    have h1 := ht.1.1
    simp [Nat.blt] at h1; omega
  have htk : ∀ (i : Nat) (o : Oper), i < m → ops[i]? = some o → (ops.toList.take m)[i]? = some o := fun i o him ho => by rw [List.getElem?_take, if_pos him]; simpa using ho
  refine any_of_DU (X := X) (Q := concX X n Q) (n := n) (base := base) (c := c) (D := D) (f := f) (m := m) ht (by simp at hl; omega) (fun i o him ho => ?_) (fun i o ho => ?_) (fun i j o o' d him hjm hi hj => c2 i j o o' d (htk i o him hi) (htk j o' hjm hj)) (fun i o d him ho hd => ((c1 i o (htk i o him ho)).2 d hd).1)
    (fun e a w r => hK e a w (concX X n Q) r fun e' st' _ _ hk hr => ⟨e', st', hr, hk⟩) _ _ a _ e base (by simp) (by simp) ((r.below hbel).less hbs (fun h => h)) (fun j hj => ?_) (fun j o hj => ?_) (fun k y hk => hk) (fun i d x hi => ?_)
  · have := hs i o (htk i o him ho)
    simpa using this
  · intro ed he hb'
    have hi : i < ops.toList.length := by
      have := (Array.getElem?_eq_some_iff.1 ho).1
      simpa using this
    have h1 := List.all_eq_true.1 hed i (List.mem_range.2 hi)
    have h2 := List.all_eq_true.1 h1 ed.on (by
      unfold predsB
      rw [show ops.toList[i]? = some o by simpa using ho]
      exact List.mem_map.2 ⟨ed, List.mem_filter.2 ⟨by simpa using he, hb'⟩, rfl⟩)
    simp [Nat.blt] at h2; omega
  · rcases Nat.lt_or_ge j ops.size with h | h
    · simp [h]
    · simp [Nat.not_lt.2 h]
  · rcases Nat.lt_or_ge j ops.size with h | h
    · simp [h] at hj
    · simp [Nat.not_lt.2 h] at hj
  · rcases Nat.lt_or_ge i ops.size with h | h
    · simp [h] at hi
    · simp [Nat.not_lt.2 h] at hi
end
section
variable {P : Program} {T : Tab}
abbrev ctxOf (ok : TabOK P T) (wide : P.follows .mixedOrders = true) (w : World) (cs : List Abs) : Ctx P T := ⟨ok, wide, w, IM.empty, blocks cs, fun _ => 0, fun _ _ _ => False, []⟩
theorem Rel.ofAbs (ok : TabOK P T) (wide : P.follows .mixedOrders = true) {w : World} {cs : List Abs} (h : AbsOK IM.empty w cs) {tmps : Array Value} {n : Nat} (hn : tmps.size = n) {s : List (Nat × AV)}
    (hs : ∀ i x, get s i = some x → ∃ v, tmps[i]? = some v ∧ Rep ⟨IM.empty, fun _ => 0, fun _ => undef⟩ x v) :
    Rel (ctxOf ok wide w cs) n ⟨IM.empty, fun _ => 0, fun _ => undef⟩ ⟨s, cs.map Ch.abs⟩ { tmps := tmps, defers := [] } w where
  defers := rfl
  size := hn
  slots := hs
  im := fun b o v h => by simp [IM.empty] at h
  mz := fun b x h => by simp [IM.empty] at h
  heap := by
    refine ⟨cs.map (fun A => (Ch.abs A, A.bs)), by simp [Function.comp_def], ?_, by rw [flat_abs]; exact h.2.1, ?_⟩
    · intro p hp
      obtain ⟨A, hA, rfl⟩ := List.mem_map.1 hp
      exact ⟨rfl, h.1 A hA⟩
    · rw [flat_abs]
      intro b hb
      exact ⟨(h.2.2 b hb).1, .inr hb, (h.2.2 b hb).2⟩
  le := IM.le_refl _
  new := fun b o v h => .inl h
  newm := fun b x h => .inl h
  os := rfl
  tape := rfl
  output := rfl
  sz := Nat.le_refl _
  keep := fun _ _ _ _ => rfl
  fix := fun _ _ => rfl
theorem reads_get {b : Nat} {t : TypeId} {cells : List AV} {o : Nat} {x : AV} (h : cells[o]? = some x) : Reads (boxA b t cells) b o [x] := by
  rintro G w hok j c hc
  cases j with
  | zero =>
    simp only [List.getElem?_cons_zero, Option.some.injEq] at hc
    subst hc
    have := reads_box (b := b) (t := t) (cells := cells) o G w hok 0 x (by rw [List.getElem?_drop]; simpa using h)
    simpa using this
  | succ j => simp at hc
end
end Go.Sy

namespace Go.Proofs
open Go.RowKit Go.Shelf Go.Sy

attribute [local go_sem] Oper.semAt_some

theorem RepIL_mkv {G : IM} : ∀ {l : List Value}, (∀ x ∈ l, x.oneCell' = true) → RepIL G (l.map .v) l
  | [], _ => by simp [RepIL]
  | x :: l, h => by
    simp only [List.map_cons, RepIL]
    exact ⟨x, l, rfl, by simp [RepI], h x (List.mem_cons_self ..), RepIL_mkv (fun y hy => h y (List.mem_cons_of_mem _ hy))⟩
def lsF (x : Cf) (pre : List (Fin 9)) (i : Nat) : Int := x.l.getD (pre.getD i 0).val 0
theorem lsF_app (x : Cf) (pre : List (Fin 9)) (i : Fin 9) (k : Nat) (hk : k < pre.length + 1) : lsF x (pre ++ [i]) k = if k < pre.length then lsF x pre k else x.l.getD i.val 0 := by
  unfold lsF
  by_cases h : k < pre.length
  · have e : (pre ++ [i]).getD k 0 = pre.getD k 0 := by simp [List.getD, List.getElem?_append_left h]
    rw [if_pos h, e]
  · obtain rfl : k = pre.length := by omega
    have e : (pre ++ [i]).getD pre.length 0 = i := by simp [List.getD]
    rw [if_neg h, e]
abbrev lsR (x : Cf) (pre : List (Fin 9)) (i : Nat) : List AV := [I64 (lsF x pre i)]
abbrev lsC (b : Nat) (x : Cf) (h : Value) (pre : List (Fin 9)) : List Abs := [boxA b 91 (x.vs.map .v), boxA (b + 1) 26 [.v h], vecA h 3 1 pre.length (lsR x pre)]
def lsI (b : Nat) (x : Cf) (w : World) (pre : List (Fin 9)) (W : World) : Prop := ∃ h, AbsOK IM.empty W (lsC b x h pre) ∧ (∀ g, h.ownBlock = some g → b ≤ g) ∧ Below b w W
theorem vecA_cells {h : Value} {T esz m : Nat} {row : Nat → List AV} {G : IM} {W : World} (hok : (vecA h T esz m row).ok G W) : ∀ k ∈ (vecA h T esz m row).bs, ∃ cs : Array Value, W.heap[k]? = some (Obj.cells cs T (0, 0)) := by
  intro k hk
  obtain ⟨xs, ⟨_, h1 | ⟨g, cap, cur, rfl, _, hg, _⟩⟩, _⟩ := hok
  · obtain ⟨rfl, _⟩ := h1
    simp [vecA, Value.ownBlock] at hk
  · simp [vecA, Value.ownBlock] at hk
    subst hk
    exact ⟨cur, hg⟩
theorem lsC_empty {b : Nat} {x : Cf} {h : Value} {pre : List (Fin 9)} {G : IM} {W : World} (hA : AbsOK G W (lsC b x h pre)) : AbsOK IM.empty W (lsC b x h pre) := by
  refine ⟨?_, hA.2.1, fun k hk => ⟨(hA.2.2 k hk).1, fun _ => rfl, rfl⟩⟩
  intro A hm
  have h1 := hA.1 A hm
  simp only [lsC, List.mem_cons, List.not_mem_nil, or_false] at hm
  rcases hm with rfl | rfl | rfl
  · obtain ⟨arr, h2, h3⟩ := h1
    have h4 := RepIL_v h3
    exact ⟨arr, h2, by rw [h4]; exact RepIL_mkv (by intro y hy; simp only [Cf.vs, List.mem_cons, List.not_mem_nil, or_false] at hy; rcases hy with rfl | rfl | rfl | rfl | rfl | rfl | rfl | rfl | rfl <;> rfl)⟩
  · obtain ⟨arr, h2, h3⟩ := h1
    refine ⟨arr, h2, ?_⟩
    simp only [RepIL, RepI] at h3 ⊢
    exact h3
  · obtain ⟨xs, h2, h3⟩ := h1
    refine ⟨xs, h2, fun q hq => ?_⟩
    have h4 := h3 q hq
    simp only [RepIL, RepI] at h4 ⊢
    exact h4
theorem lsC_cells {b : Nat} {x : Cf} {h : Value} {pre : List (Fin 9)} {G : IM} {W : World} (hA : AbsOK G W (lsC b x h pre)) : ∀ k ∈ blocks (lsC b x h pre), ∃ (cs : Array Value) (T : TypeId), W.heap[k]? = some (Obj.cells cs T (0, 0)) ∧ T ≠ 404 := by
  intro k hk
  simp only [lsC, blocks, List.flatMap_cons, List.flatMap_nil, List.append_nil, List.mem_append] at hk
  rcases hk with hk | hk | hk
  · obtain ⟨arr, h4, _⟩ := hA.1 _ (List.mem_cons_self ..)
    simp only [boxA, List.mem_singleton] at hk
    subst hk
    exact ⟨_, _, h4, by decide⟩
  · obtain ⟨arr, h4, _⟩ := hA.1 _ (List.mem_cons_of_mem _ (List.mem_cons_self ..))
    simp only [boxA, List.mem_singleton] at hk
    subst hk
    exact ⟨_, _, h4, by decide⟩
  · obtain ⟨cs, h4⟩ := vecA_cells (hA.1 _ (List.mem_cons_of_mem _ (List.mem_cons_of_mem _ (List.mem_cons_self ..)))) k hk
    exact ⟨_, _, h4, by decide⟩
theorem lsI_own (b : Nat) (x : Cf) (w : World) (B : Nat) (hB : b ≤ B) (hb : w.heap.size = b) : OwnFrom B (lsI b x w) := by
  rintro pre W W' row ⟨h, h1, h2, h3⟩ hg hr
  have keep : ∀ k, (∃ (cs : Array Value) (T : TypeId), W.heap[k]? = some (Obj.cells cs T (0, 0))) → W'.heap[k]? = W.heap[k]? := fun k ⟨cs, T, hk⟩ =>
    hg.block k (Array.getElem?_eq_some_iff.1 hk).1 (fun e => by
      obtain ⟨_, o, ho, hc⟩ := hr k e.symm
      rw [hk] at ho; cases ho; cases hc)
  refine ⟨h, h1.keep (IM.le_refl _) (fun k hk => keep k (let ⟨cs, T, e, _⟩ := lsC_cells h1 k hk; ⟨cs, T, e⟩)) hg.size (fun k _ _ hf => hf), h2, ?_⟩
  · refine ⟨hg.os.trans h3.os, hg.tape.trans h3.tape, hg.output.trans h3.output, Nat.le_trans h3.size hg.size, fun k hk => ?_⟩
    refine (hg.block k (by have := h3.size; omega) (fun e => ?_)).trans (h3.block k hk)
    have := (hr k e.symm).1
    omega

theorem ntmpsL_ : Tryz.f290.ntmps = 17 := by kernel_rfl
set_option maxHeartbeats 4000000 in
theorem confList_calls (x : Cf) (w : World) : Calls Tryz.prog 290 #[.agg x.vs.toArray] w fun e w' => ∃ h, e = .returned h ∧ AbsOK IM.empty w' [vecA h 3 1 9 (fun i => [I64 (x.l.getD i 0)])] ∧ (∀ g, h.ownBlock = some g → w.heap.size ≤ g) ∧ Below w.heap.size w w' := by
  refine (callsIn_wide (n := 6)).1 ?_
  refine callsIn_of_wp_marks Tryz.func290 rfl trivial ?_ rfl
  simp only [ntmpsL_, List.size_toArray, List.length_cons, List.length_nil, Nat.reduceAdd, Nat.reduceSub, Array.replicate_succ, Array.replicate_zero, List.push_toArray, List.append_toArray, List.nil_append, List.cons_append]
  have hF : Fence.wide.fn 254 := trivial
  gi_wp2_with (gi_at_call 254; refine (callsIn_wide.2 (places_calls _ _)).mono ?_; rintro e w1 ⟨g, rfl, hg, hga, hb1⟩)
  obtain ⟨b, hb⟩ : ∃ b, w.heap.size = b := ⟨_, rfl⟩
  rw [hb] at hga
  have hs1 : b + 2 ≤ w1.heap.size := by have := hb1.size; simp at this; omega
  have hx1 : w1.heap[b]? = some (.cells x.vs.toArray 91 (0, 0)) := by
    rw [hb1.block b (by simp; omega)]; subst hb
    exact (Below.heap_alloc _ _ _ (by simp)).trans (World.alloc_heap_new w _)
  have hx2 : w1.heap[b + 1]? = some (.cells #[.slice none 0 0] 26 (0, 0)) := by
    rw [hb1.block (b + 1) (by simp; omega)]; subst hb
    have := World.alloc_heap_new (w.alloc (.cells x.vs.toArray 91)) (.cells #[.slice none 0 0] 26)
    rw [World.size_alloc] at this
    exact this
  have hbw : Below b w w1 := by
    subst hb
    exact (((Below.refl _ w).alloc (Nat.le_refl _) _).alloc (by simp) _).trans (hb1.mono (by simp; omega))
  simp only [hb]
  have h0 : lsI b x w [] w1 := by
    refine ⟨.slice none 0 0, ⟨?_, ?_, ?_⟩, fun g hg => by simp [Value.ownBlock] at hg, hbw⟩
    · intro A hA
      simp only [lsC, List.mem_cons, List.not_mem_nil, or_false] at hA
      rcases hA with rfl | rfl | rfl
      · exact ⟨_, hx1, RepIL_mkv (by intro y hy; simp only [Cf.vs, List.mem_cons, List.not_mem_nil, or_false] at hy; rcases hy with rfl | rfl | rfl | rfl | rfl | rfl | rfl | rfl | rfl <;> rfl)⟩
      · exact ⟨_, hx2, RepIL_mkv (l := [.slice none 0 0]) (by simp; rfl)⟩
      · exact ⟨[], ⟨rfl, .inl ⟨rfl, rfl⟩⟩, fun i hi => absurd hi (Nat.not_lt_zero _)⟩
    · simp [lsC, blocks, boxA, vecA, Value.ownBlock]
    · intro k hk
      simp [lsC, blocks, boxA, vecA, Value.ownBlock] at hk
      refine ⟨by omega, fun _ => rfl, rfl⟩
  refine wpIn_rangeFunc_ownH rfl (by decide : 1 ≤ 6) (gf := 289) (lb := #[.pointer (some ⟨g, 0, none⟩)]) rfl trivial (enters_of Tryz.func289 (by kernel_rfl) rfl) (places_stops Fence.wide 5 trivial rfl (by decide) g b w1 hga) walksK_t walksK_b (Below.refl _ _) (fun _ => rfl)
    (lsI b x w) (fun _ _ _ => False)
    ?hI ?hIx h0
    (fun (i : Fin 9) a' W => ∃ Bx, b ≤ Bx ∧ W.heap[Bx]? = some (.cells #[.pointer (some ⟨b, i.val, none⟩), .int .i64 (loP i.val), .int .i64 (hiP i.val)] 404 (0, 0)) ∧
      a' = { tmps := #[.agg x.vs.toArray, .pointer (some ⟨b, 0, none⟩), .slice none 0 0, .pointer (some ⟨b + 1, 0, none⟩), undef, .pointer (some ⟨Bx, 0, none⟩), .func (.func 289) #[] #[.pointer (some ⟨g, 0, none⟩)], .int .i64 (i.val : Int), plV b i.val, undef, undef, undef, undef, undef, undef, undef, undef], defers := [] })
    ?hAx ?assign ?body ?done ?stop
  case hI => exact lsI_own b x w _ (by omega) hb
  case hIx => exact fun c s A C row h hg hr => h
  case hAx =>
    rintro i a' s A C row ⟨Bx, h1, h2, h3⟩ hg hr
    exact ⟨Bx, h1, ownFrom_cells (β := Unit) () A C row h2 hg hr, h3⟩
  case assign =>
    rintro l' pre i W K hI hK
    gi_wp2
    have hI2 := hI
    obtain ⟨h, _, _, i4⟩ := hI2
    exact hK _ _ ((KeepsOthers.alloc _ _).from _) (KeepsWalks.alloc _ _) ((lsI_own b x w w1.heap.size (by omega) hb).alloc _ hI)
      ⟨W.heap.size, by have := i4.size; omega, World.alloc_heap_new _ _, rfl⟩
  case body =>
    rintro l' pre i a' W hl' hr hI ⟨Bx, hbB, hbx, rfl⟩ hlen
    obtain ⟨h, hA, hh, hbw2⟩ := hI
    have hne : ∀ k, k ∈ blocks (lsC b x h pre) → k ≠ Bx := by
      rintro k hk rfl
      obtain ⟨cs, T, h4, h5⟩ := lsC_cells hA k hk
      rw [hbx] at h4
      cases h4
      exact h5 rfl
    have hA4 : AbsOK IM.empty W (lsC b x h pre ++ [boxA Bx 404 [.v (.pointer (some ⟨b, i.val, none⟩)), I64 (loP i.val), I64 (hiP i.val)]]) := by
      refine ⟨fun A hm => ?_, ?_, fun k hk => ?_⟩
      · rcases List.mem_append.1 hm with hm | hm
        · exact hA.1 A hm
        · obtain rfl := List.mem_singleton.1 hm
          exact ⟨_, hbx, RepIL_mkv (l := [.pointer (some ⟨b, i.val, none⟩), .int .i64 (loP i.val), .int .i64 (hiP i.val)]) (by intro y hy; simp only [List.mem_cons, List.not_mem_nil, or_false] at hy; rcases hy with rfl | rfl | rfl <;> rfl)⟩
      · unfold blocks
        rw [List.flatMap_append]
        refine List.nodup_append.2 ⟨hA.2.1, by simp [boxA], fun k hk q hq => ?_⟩
        simp [boxA] at hq
        subst hq
        exact hne k hk
      · unfold blocks at hk
        rw [List.flatMap_append] at hk
        rcases List.mem_append.1 hk with hk | hk
        · exact hA.2.2 k hk
        · simp [boxA] at hk
          subst hk
          exact ⟨(Array.getElem?_eq_some_iff.1 hbx).1, fun _ => rfl, rfl⟩
    have rel := Rel.ofAbs Tryz.tabOK Tryz.wide_ hA4 (n := 17) (tmps := #[.agg x.vs.toArray, .pointer (some ⟨b, 0, none⟩), .slice none 0 0, .pointer (some ⟨b + 1, 0, none⟩), undef, .pointer (some ⟨Bx, 0, none⟩), .func (.func 289) #[] #[.pointer (some ⟨g, 0, none⟩)], .int .i64 (i.val : Int), plV b i.val, undef, undef, undef, undef, undef, undef, undef, undef]) rfl (s := [(3, PT (b + 1) 0), (5, PT Bx 0)]) (by
      intro k y hy
      rw [get_cons] at hy
      by_cases h3 : 3 = k
      · rw [if_pos h3] at hy; cases hy; subst h3
        exact ⟨_, rfl, by simp only [Rep]; rfl⟩
      · rw [if_neg h3, get_cons] at hy
        by_cases h5 : 5 = k
        · rw [if_pos h5] at hy; cases hy; subst h5
          exact ⟨_, rfl, by simp only [Rep]; rfl⟩
        · rw [if_neg h5] at hy; cases hy)
    refine wpIn_block (Code.wpIn_mono (Q := concX (ctxOf Tryz.tabOK Tryz.wide_ W (lsC b x h pre ++ [boxA Bx 404 [.v (.pointer (some ⟨b, i.val, none⟩)), I64 (loP i.val), I64 (hiP i.val)]])) 17 (fun ex s => ex = .normal ∧ ∃ h' cr, s.c.Perm ((lsC b x h' (pre ++ [i])).map Ch.abs ++ cr))) ?_
      (round_region_any Tryz.wide_ (by kernel_rfl) ?_ (U_any 20 6 rfl (by kernel_rfl) (by kernel_rfl) (by kernel_rfl) ?_ rel)))
    · intro ex a2 W2 hq
      cases ex
      case panic => exact hq.2.elim
      case outgrown => exact hq.elim
      case exit => obtain ⟨_, _, _, h, _⟩ := hq; cases h
      case goto => obtain ⟨_, _, _, h, _⟩ := hq; cases h
      case ret => obtain ⟨_, _, _, h, _⟩ := hq; cases h
      obtain ⟨e', st', rel', _, h', cr, hperm⟩ := hq
      obtain ⟨q1, q2⟩ := (rel'.heap.perm hperm).absOK
      have hbs : ∀ k, k ∈ blocks (lsC b x h pre ++ [boxA Bx 404 [.v (.pointer (some ⟨b, i.val, none⟩)), I64 (loP i.val), I64 (hiP i.val)]]) → b ≤ k ∧ ∃ (cs : Array Value) (T : TypeId), W.heap[k]? = some (Obj.cells cs T (0, 0)) := by
        intro k hk
        unfold blocks at hk
        rw [List.flatMap_append] at hk
        rcases List.mem_append.1 hk with hk | hk
        · obtain ⟨cs, T, h4, _⟩ := lsC_cells hA k hk
          refine ⟨?_, cs, T, h4⟩
          simp only [lsC, blocks, boxA, vecA, List.flatMap_cons, List.flatMap_nil, List.append_nil, List.mem_append, List.mem_singleton, Option.mem_toList] at hk
          rcases hk with rfl | rfl | hk
          · exact Nat.le_refl _
          · omega
          · exact hh k hk
        · simp [boxA] at hk
          subst hk
          exact ⟨hbB, _, _, hbx⟩
      have hkeep : ∀ (k : Nat) (o : Obj), W.heap[k]? = some o → o.isCells = false → W2.heap[k]? = some o := fun k o hk ho => by
        have hlt := (Array.getElem?_eq_some_iff.1 hk).1
        rw [rel'.keep k hlt (fun hm => by
          obtain ⟨_, cs, T, h4⟩ := hbs k hm
          rw [hk] at h4; cases h4; cases ho) (fun L hL => by cases hL)]
        exact hk
      refine ⟨⟨rel'.sz, fun k o _ hk ho => hkeep k o hk ho⟩, ⟨rel'.sz, fun k o hk ho => hkeep k o hk (by cases o <;> first | rfl | cases ho)⟩, h', lsC_empty q1, fun g hg => ?_, ?_⟩
      · rcases q2 g (by simp [lsC, blocks, vecA, hg]) with h4 | h4
        · have h5 : W.heap.size ≤ g := h4
          have := hbw2.size
          omega
        · exact (hbs g h4).1
      · refine ⟨rel'.os.trans hbw2.os, rel'.tape.trans hbw2.tape, rel'.output.trans hbw2.output, Nat.le_trans hbw2.size rel'.sz, fun k hk => ?_⟩
        refine (rel'.keep k (show k < W.heap.size by have := hbw2.size; omega) (fun hm => by have := (hbs k hm).1; omega) (fun L hL => by cases hL)).trans (hbw2.block k hk)
    · rintro ⟨a, w, h⟩
      exact h
    · have hcell : (x.vs.map AV.v)[i.val]? = some (I64 (x.l.getD i.val 0)) := by
        obtain ⟨i, hi⟩ := i
        rcases (by omega : i = 0 ∨ i = 1 ∨ i = 2 ∨ i = 3 ∨ i = 4 ∨ i = 5 ∨ i = 6 ∨ i = 7 ∨ i = 8) with rfl | rfl | rfl | rfl | rfl | rfl | rfl | rfl | rfl <;> rfl
      show SymD _ 17 _ _ _ _ _ _
      repeat refine sd rfl ?_
      refine D_X (.v h) (X_loadP 1 (reads_box 0) rfl rfl rfl rfl rfl rfl) ?_
      repeat refine sd rfl ?_
      refine D_X (PT b i.val) (X_loadP 3 (reads_box 0) rfl rfl rfl rfl rfl rfl) ?_
      repeat refine sd rfl ?_
      refine D_X (I64 (x.l.getD i.val 0)) (X_loadP 0 (reads_get hcell) rfl rfl rfl rfl rfl rfl) ?_
      repeat (first | refine sd rfl ?_ | refine sds rfl ?_)
      refine O_appendV 2 (m := pre.length) (m2 := 1) (m3 := (pre ++ [i]).length) (row := lsR x pre) (row3 := lsR x (pre ++ [i])) rfl rfl rfl rfl rfl rfl (fun q hq => ?_) rfl ?_ ?_ ?_ (fun k hk => ?_) (fun v' hv => ?_)
      · obtain rfl : q = 0 := by omega
        rfl
      · omega
      · simp only [maxLen]; omega
      · simp
      · unfold appRow
        unfold lsR
        rw [lsF_app x pre i k (by simpa using hk)]
        by_cases h : k < pre.length
        · rw [if_pos h, if_pos h]
        · rw [if_neg h, if_neg h]
          obtain rfl : k = pre.length := by simp at hk; omega
          rw [Nat.sub_self]
          rfl
      rcases hv with ⟨h0, _⟩ | ⟨g', cc, rfl⟩
      · simp at h0
      repeat refine sc rfl ?_
      first
        | refine O_Xn (X_storeP 0 (writes_box (by show 0 < 1; decide)) rfl rfl rfl rfl rfl rfl rfl) ?_
        | refine O_Xn (X_storeP 1 (writes_box (by show 0 < 1; decide)) rfl rfl rfl rfl rfl rfl rfl) ?_
        | refine O_Xn (X_storeP 2 (writes_box (by show 0 < 1; decide)) rfl rfl rfl rfl rfl rfl rfl) ?_
        | refine O_Xn (X_storeP 3 (writes_box (by show 0 < 1; decide)) rfl rfl rfl rfl rfl rfl rfl) ?_
        | refine O_Xn (X_storeP 4 (writes_box (by show 0 < 1; decide)) rfl rfl rfl rfl rfl rfl rfl) ?_
      repeat refine so rfl ?_
      exact ⟨rfl, HD g' (pre ++ [i]).length cc, _, pickA_perm (is := [2, 0, 0]) (As := lsC b x (HD g' (pre ++ [i]).length cc) (pre ++ [i])) rfl⟩
  case done =>
    rintro D xs W hD rfl ⟨h, hA, hh, hbw2⟩ hK
    obtain ⟨arr, g1, g2⟩ := hA.1 _ (List.mem_cons_of_mem _ (List.mem_cons_self ..))
    have g3 : arr = #[h] := by
      have := RepIL_v (l := [h]) g2
      rw [← Array.toList_inj]; simpa using this
    subst g3
    have hc := Boxed.cell g1
    have hbox := hA.1 _ (List.mem_cons_of_mem _ (List.mem_cons_of_mem _ (List.mem_cons_self ..)))
    have hone : h.oneCell' = true := by
      simp only [RepIL, RepI] at g2
      obtain ⟨z, zs, e1, e2, e3, _⟩ := g2
      subst e2
      exact e3
    gi_wp2
    refine ⟨by simp, .inl ⟨_, _, rfl, run_takeDeferred hK, ?_⟩⟩
    have hsame : ∀ k, k ∈ blocks (lsC b x h (List.finRange 9)) → (W.putObj D (.deferred none)).heap[k]? = W.heap[k]? := fun k hk => by
      obtain ⟨cs, T, h4, _⟩ := lsC_cells hA k hk
      refine World.putObj_heap_other (fun e => ?_)
      subst e
      rw [hK] at h4
      cases h4
    have hA2 := hA.keep (IM.le_refl _) hsame (by simp) (fun _ _ _ hf => hf)
    refine ⟨h, by simp [results, Tryz.f290, go_sem], h, rfl, ⟨fun A hm => ?_, ?_, fun k hk => ?_⟩, fun g hg => hh g hg, ?_⟩
    · obtain rfl := List.mem_singleton.1 hm
      obtain ⟨xs, h5, h6⟩ := hA2.1 _ (List.mem_cons_of_mem _ (List.mem_cons_of_mem _ (List.mem_cons_self ..)))
      refine ⟨xs, h5, fun i hi => ?_⟩
      have := h6 i (by simpa using hi)
      rw [show lsR x (List.finRange 9) i = [I64 (x.l.getD i 0)] by
        rcases (by omega : i = 0 ∨ i = 1 ∨ i = 2 ∨ i = 3 ∨ i = 4 ∨ i = 5 ∨ i = 6 ∨ i = 7 ∨ i = 8) with rfl | rfl | rfl | rfl | rfl | rfl | rfl | rfl | rfl <;> rfl] at this
      exact this
    · have := hA2.2.1
      simp only [lsC, blocks, List.flatMap_cons, List.flatMap_nil, List.append_nil] at this ⊢
      exact (List.nodup_append.1 (List.nodup_append.1 this).2.1).2.1
    · refine hA2.2.2 k ?_
      simp only [lsC, blocks, List.flatMap_cons, List.flatMap_nil, List.append_nil, List.mem_append] at hk ⊢
      exact .inr (.inr hk)
    · exact hbw2.trans (belowK_b (w := w) (Nat.le_of_eq hb.symm) _ D _ _ (by omega) hK rfl rfl)
  case stop =>
    rintro D c pre W hD hSp h hK
    exact h.elim
theorem confList_A (x : Cf) : FnA Tryz.prog 290 [.agg (Cf.c x)] [] (fun r cs' => ∃ h, r = .v h ∧ ((9 = 0 ∧ h = .slice none 0 0) ∨ ∃ g cc, h = HD g 9 cc) ∧ cs' = [vecA h 3 1 9 (fun i => [I64 (x.l.getD i 0)])]) := by
  refine ⟨⟨Tryz.f290, Tryz.func290, by kernel_rfl, by kernel_rfl⟩, fun G w cargs him hr _ => ?_⟩
  simp only [RepIT] at hr
  obtain ⟨z, zs, rfl, h1, rfl⟩ := hr
  simp only [RepI] at h1
  obtain ⟨ys, rfl, h2⟩ := h1
  have h3 : ys.toList = x.vs := RepIL_v (l := x.vs) h2
  have h4 : ys = x.vs.toArray := by rw [← h3]
  subst h4
  refine (confList_calls x w).mono ?_
  rintro e w' ⟨h, rfl, hA, hh, hb⟩
  refine ⟨.v h, h, _, G, ⟨h, rfl, ?_, rfl⟩, rfl, by simp only [RepI], IM.le_refl _, ⟨fun b o v hv => .inl hv, fun b x hx => .inl hx⟩, ?_, ?_, fun g hg => ?_, hb.os, hb.tape, hb.output, hb.size, fun k hk _ _ => hb.block k hk⟩
  · obtain ⟨xs, ⟨_, h1 | ⟨g, cap, cur, rfl, _⟩⟩, _⟩ := hA.1 _ (List.mem_cons_self ..)
    · cases h1.2
    · exact .inr ⟨g, cap, rfl⟩
  · exact ⟨fun b o u hu => by
      have h1 := him.1 b o u hu
      have h2 := Go.block_lt_of_cell h1
      simp only [World.cell?] at h1 ⊢
      rw [hb.block b h2]
      exact h1, fun b x hx => (him.2 b x hx).keep0 (hb.block b (him.2 b x hx).lt)⟩
  · refine hA.keep (IM.empty_le G) (fun _ _ => rfl) (Nat.le_refl _) (fun g _ hg _ => ?_)
    have hge : w.heap.size ≤ g := hh g (by simpa [blocks, vecA] using hg)
    refine ⟨fun o => ?_, ?_⟩
    · cases hx : G g o with
      | none => rfl
      | some v => have := Go.block_lt_of_cell (him.1 g o v hx); simp only at this; omega
    · cases hx : G.m g with
      | none => rfl
      | some v => have := (him.2 g v hx).lt; omega
  · exact .inl (hh g (by simpa [blocks, vecA] using hg))
end Go.Proofs

namespace Go.Proofs
open Go.Sy Go.Lib

theorem ckF_lim {x : Cf} (h : ckF x = 0) (i : Nat) (hi : i < 9) : 0 ≤ x.l.getD i 0 ∧ x.l.getD i 0 ≤ 1048576 := by
  unfold ckF at h
  split at h
  · rename_i hk
    have h1 := hk ⟨i, hi⟩
    unfold okAt at h1
    simp only [Bool.and_eq_true, decide_eq_true_eq] at h1
    have h2 : (0 : Int) ≤ loP i := by unfold loP; split <;> omega
    have h3 : hiP i ≤ 1048576 := by unfold hiP; repeat' split <;> omega
    omega
  · cases h
theorem vput_5 {n : Nat} (h : n ≤ 1048576) : (vput n).length ≤ 3 := vput_len2 2 n (by omega)
theorem cfB_len {x : Cf} (h : ckF x = 0) : ∀ k, k ≤ 9 → ((x.l.take k).map fun n => vput n.toNat).flatten.length ≤ 3 * k
  | 0, _ => by simp
  | k + 1, hk => by
    have h9 : x.l.length = 9 := rfl
    have ih := cfB_len h k (by omega)
    rw [List.take_succ_eq_append_getElem (by omega), List.map_append, List.flatten_append, List.length_append]
    have h1 := ckF_lim h k (by omega)
    have h2 := vput_5 (n := (x.l[k]'(by omega)).toNat) (by
      rw [List.getD_eq_getElem?_getD, List.getElem?_eq_getElem (by omega)] at h1
      simp only [Option.getD_some] at h1
      omega)
    simp only [List.map_cons, List.map_nil, List.flatten_cons, List.flatten_nil, List.append_nil]
    omega
theorem cfP_len (x : Cf) : (cfP x).1.length ≤ 1000 := by
  unfold cfP
  split
  · rename_i h
    have := cfB_len h 9 (by omega)
    unfold cfB
    rw [show x.l.take 9 = x.l from rfl] at this
    simp only []
    omega
  · simp
theorem confPut_c (x : Cf) : FnP Tryz.prog 258 [.agg (Cf.c x)] (· = .tup [.s (cfP x).1, I64 (cfP x).2]) := by
  refine FnP.intro Tryz.tabOK Tryz.wide_ Tryz.func258 rfl (by decide) rfl (fun X => ?_)
  obtain ⟨q, hq⟩ : ∃ q, cfP x = q := ⟨_, rfl⟩
  rw [hq]
  unfold cfP at hq
  repeat (first | refine sc rfl ?_ | refine so rfl ?_)
  refine O_call (confCheck_c x) (by rfl) (by rfl) (by rfl) (by rfl) (fun r hr => ?_)
  subst hr
  repeat (first | refine sc rfl ?_ | refine so rfl ?_)
  refine C_if rfl (fun m1 => ?_) (fun m1 => ?_) <;> simp only [pL] at m1
  · rw [if_neg m1] at hq
    repeat (first | refine sc rfl ?_ | refine so rfl ?_)
    exact ⟨_, rfl, rfl, by rw [← hq]⟩
  rw [if_pos m1] at hq
  repeat (first | refine sc rfl ?_ | refine so rfl ?_)
  refine O_absb 5 rfl rfl rfl (fun b => ?_)
  refine O_le _ (Le.addAbs (bufA (.slice none 0 0) 5 []) rfl (fun _ _ => ⟨rfl, .inl ⟨rfl, rfl⟩⟩)) ?_
  refine O_callA [] (confList_A x) (by rfl) (by rfl) (by rfl) (by rfl) (by rfl) ?_
  rintro r cs' ⟨h0, rfl, hh, rfl⟩
  refine O_le _ (Le.frVec 0 (fun i => INTc (x.l.getD i default)) rfl (fun i hi => rfl)) ?_
  refine O_le _ (Le.slotA 0 14 rfl rfl) ?_
  repeat (first | refine sc rfl ?_ | refine so rfl ?_)
  have hg9 : ∀ i, (fun i => INTc (x.l.getD i default)) i = INTc (x.l.getD i 0) := fun i => rfl
  refine C_loop (fun (q : Nat × Bool × Value) => ⟨[(5, PT b 0), (14, SL 1 INTc x.l), (15, I64 9), (16, I64 (q.1 : Nat))], [.abs (bldC b q.2.1 q.2.2), .abs (bufA q.2.2 5 ((x.l.take q.1).map fun n => vput n.toNat).flatten)]⟩) (fun q => q.1 ≤ 9 ∧ HdB q.2.2 ((x.l.take q.1).map fun n => vput n.toNat).flatten) (fun q => 9 - q.1) (0, false, .slice none 0 0) ⟨by decide, .inl ⟨rfl, rfl⟩⟩ (Le.pick [2, 1] ⟨rfl, rfl, rfl, rfl, trivial⟩ rfl) ?_
  rintro ⟨i, u, h⟩ ⟨hi, hH⟩
  simp only [] at hi hH
  repeat (first | refine sc rfl ?_ | refine so rfl ?_)
  refine C_if rfl (fun m2 => ?_) (fun m2 => ?_) <;> simp only [pL] at m2
  · have hi9 : i < 9 := by omega
    have hlim := ckF_lim m1 i hi9
    obtain ⟨n, hn⟩ : ∃ n : Nat, x.l.getD i 0 = (n : Int) := ⟨(x.l.getD i 0).toNat, by omega⟩
    have hbl := cfB_len m1 i (by omega)
    repeat (first | refine sc rfl ?_ | refine so rfl ?_)
    refine ⟨⟨by simp only []; omega, show ((i : Nat) : Int) < ((9 : Nat) : Int) by omega⟩, ?_⟩
    simp only [Int.toNat_natCast]
    repeat (first | refine sc rfl ?_ | refine so rfl ?_)
    rw [show x.l.getD i default = (n : Int) from hn]
    have hw : IntKind.u64.wrap (n : Int) = (n : Int) := by
      simp only [IntKind.wrap, IntKind.bits, IntKind.signed, Bool.false_and]
      simp
      omega
    rw [hw]
    refine O_call (Put83_p n (by omega)) (by rfl) (by rfl) (by rfl) (by rfl) (fun r hr => ?_)
    subst hr
    repeat refine sc rfl ?_
    obtain ⟨acc, hacc⟩ : ∃ acc, ((x.l.take i).map fun n => vput n.toNat).flatten = acc := ⟨_, rfl⟩
    have hacc2 : ((x.l.take (i + 1)).map fun n => vput n.toNat).flatten = acc ++ vput n := by
      have h9 : x.l.length = 9 := rfl
      have hx : x.l[i]'(by omega) = (n : Int) := by
        rw [← hn, List.getD_eq_getElem?_getD, List.getElem?_eq_getElem (by omega)]; rfl
      rw [List.take_succ_eq_append_getElem (by omega), List.map_append, List.flatten_append, hacc, hx]
      simp
    rw [hacc] at hH hbl ⊢
    have hv := vput_5 (n := n) (by omega)
    refine O_callA [0, 0] (WriteString_A b u h acc (vput n) hH (by omega)) (by rfl) (by rfl) (by rfl) (by rfl) (by rfl) ?_
    rintro r' cs' ⟨rfl, h', hH', rfl⟩
    repeat (first | refine sc rfl ?_ | refine so rfl ?_)
    rw [w64 (x := (i : Int) + 1) (by omega) (by omega)]
    refine ⟨(i + 1, true, h'), ⟨by simp only []; omega, by simp only []; rw [hacc2]; exact hH'⟩, by simp only []; omega, ?_⟩
    simp only []
    rw [hacc2]
    exact Le.pick [0, 0] ⟨rfl, rfl, rfl, rfl, trivial⟩ rfl
  · obtain rfl : i = 9 := by omega
    rw [show x.l.take 9 = x.l from rfl] at hH ⊢
    repeat refine sc rfl ?_
    refine O_callA [0, 0] (String_A b u h _ hH) (by rfl) (by rfl) (by rfl) (by rfl) (by rfl) ?_
    rintro r' cs' ⟨rfl, rfl⟩
    repeat (first | refine sc rfl ?_ | refine so rfl ?_)
    exact ⟨_, rfl, rfl, by rw [← hq]; rfl⟩
end Go.Proofs

namespace Go.Sy
open Go.RowKit

def bndRP (f : FuncId) (fs : List AV) : RP :=
  { R := fun G y => ∃ vs : Array Value, y = .func (.func f) vs #[] ∧ RepIT G fs vs.toList
    mono := by
      rintro G H h v ⟨vs, e, r⟩
      exact ⟨vs, e, RepIT.mono h fs r⟩
    one := by
      rintro G v ⟨vs, e, r⟩
      subst e; rfl }

section
variable {P : Program} {T : Tab} {X : Ctx P T} {n : Nat} {e : Env} {st : St} {a : Act} {w : World} {ops : Array Oper} {K : St → Prop}

theorem O_makeBound {f : FuncId} {fs : Array Operand} {favs : List AV} {d : Nat} {ty : TypeId} {pos : String} {aft : Array Edge} {gd : Option (Nat × Bool)} {rest : List Oper} {s : List (Nat × AV)} {c : List Ch}
    (hg : guardA ops ⟨s, c⟩ ⟨some d, .makeFunc (.func f) fs #[], ty, pos, aft, gd⟩ = some true) (ha : opds s fs.toList = some favs) (himm : AV.imm.immL favs = true) (hd : Nat.blt d n = true)
    (kk : SymO X n ops rest ⟨(d, .p (bndRP f favs)) :: s, c⟩ K) : SymO X n ops (⟨some d, .makeFunc (.func f) fs #[], ty, pos, aft, gd⟩ :: rest) ⟨s, c⟩ K := by
  intro e a w Q r hq
  unfold wpList
  rw [if_pos (guardA_sound r hg)]
  refine .inl ?_
  have h1 := RepT.toI favs himm (opds_sound r ha)
  have hrun : (execOp a.eval ⟨some d, .makeFunc (.func f) fs #[], ty, pos, aft, gd⟩).run P w = .ok (.value (.func (.func f) (fs.map a.eval) #[])) w := by
    simp [execOp, Instr.makeFunc]
  unfold Oper.wp
  rw [hrun]
  exact kk _ _ _ Q (r.put hd (by simp only [Rep]; exact ⟨_, rfl, by rw [map_eval]; exact h1⟩)) hq

theorem run_callBound {f : FuncId} (hc : Callable P f) {dst : Option Tmp} {x : Operand} {args : Array Operand} {tys : Array TypeId} {ty : TypeId} {pos : String} {aft : Array Edge} {gd : Option (Nat × Bool)} (ρ : Operand → Value)
    {vs : Array Value} (hρ : ρ x = .func (.func f) vs #[]) (w : World) :
    (execOp ρ ⟨dst, .call ⟨.value x, args, tys⟩, ty, pos, aft, gd⟩).run P w = .ok (.enter f (vs ++ args.map ρ)) w := by
  obtain ⟨fn, h1, h2, h3⟩ := hc
  simp only [execOp, resolve, hρ, Deferred.ofValue, Sem.run_bind, Sem.run_pure, Result.andThen_ok, invoke]
  have h4 : ¬ fn.body = none := by intro h; simp [h] at h2
  have h5 : ¬ fn.name = "runtime.NumGoroutine" := by simpa using h3
  simp [callFunc, h1, h4, h5]

theorem O_callBound (is : List Nat) {f : FuncId} {xo : Operand} {fs : List AV} {dst : Nat} {args : Array Operand} {tys : Array TypeId} {ty : TypeId} {pos : String} {aft : Array Edge} {gd : Option (Nat × Bool)} {rest : List Oper} {avs : List AV} {cs : List Abs} {cr : List Ch} {post : AV → List Abs → Prop}
    {s : List (Nat × AV)} {c : List Ch} (hf : FnA P f (fs ++ avs) cs post) (hxo : opd s xo = some (.p (bndRP f fs)))
    (hg : guardA ops ⟨s, c⟩ ⟨some dst, .call ⟨.value xo, args, tys⟩, ty, pos, aft, gd⟩ = some true) (ha : opds s args.toList = some avs) (himm : AV.imm.immL avs = true)
    (hp : pickA is c = some (cs, cr)) (hd : Nat.blt dst n = true)
    (k : ∀ r cs', post r cs' → SymO X n ops rest ⟨(dst, r) :: s, cs'.map Ch.abs ++ cr⟩ K) :
    SymO X n ops (⟨some dst, .call ⟨.value xo, args, tys⟩, ty, pos, aft, gd⟩ :: rest) ⟨s, c⟩ K := by
  intro e a w Q r hq
  unfold wpList
  rw [if_pos (guardA_sound r hg)]
  refine .inl ?_
  unfold Oper.wp
  have hx := Rep.toI (.p (bndRP f fs)) rfl (opd_sound r hxo)
  simp only [RepI] at hx
  obtain ⟨vs, hfv, hvs⟩ := hx
  rw [run_callBound hf.1 a.eval hfv w, Oper.upon_enter]
  have h1 := RepIT.app hvs (RepT.toI avs himm (opds_sound r ha))
  have harr : vs ++ args.map a.eval = (vs.toList ++ args.toList.map a.eval).toArray := by
    apply Array.ext'; simp
  rw [harr]
  refine (call_after (ops := ops) (Q := Q) hf r h1 (pickA_perm hp) hd k hq).mono ?_
  rintro en w' ⟨cv, rfl, h⟩
  exact h
end
end Go.Sy

namespace Go.Sy
open Go.RowKit

section
variable {P : Program} {T : Tab} {X : Ctx P T} {n : Nat} {e : Env} {st : St} {a : Act} {w : World} {ops : Array Oper} {K : St → Prop}

theorem X_lenV (q : Nat) {p : Pl} {t tt el sz0 b0 : Nat} {ag0 : Bool} {z0 : List Value} {x : Operand} {h : Value} {m esz : Nat} {row : Nat → List AV} {d : Option Nat} {ty : TypeId} {pos : String} {aft : Array Edge} {gd : Option (Nat × Bool)} {j : Nat} {Si : List (Nat × AV)} {c cr : List Ch}
    (hT : T t = some ⟨sz0, b0, ag0, z0, .slice el⟩) (hg : guardA ops ⟨Si, c⟩ ⟨d, .call ⟨.builtin .len, #[x], #[t]⟩, ty, pos, aft, gd⟩ = some true) (hx : opd Si x = some (.v h)) (hp : nthA q c = some (vecA h tt esz m row, cr)) (hd : dstOK n d = true) :
    StepX X n ops p Si c c j ⟨d, .call ⟨.builtin .len, #[x], #[t]⟩, ty, pos, aft, gd⟩ (I64 (m : Nat)) :=
  StepX.val hg hd (fun e a w S r r' => by
    obtain ⟨⟨xs, g1, g2⟩, _⟩ := r.heap.nth hp
    have hh : ∃ aa cc, h = .slice aa m cc := by
      rcases g1.2 with ⟨hnil, hm⟩ | ⟨g, cap, cur, hsl, _⟩
      · exact ⟨none, 0, by rw [hnil, hm]⟩
      · exact ⟨_, _, hsl⟩
    obtain ⟨aa, cc, rfl⟩ := hh
    have hs : still T ⟨Si, c⟩ (.call ⟨.builtin .len, #[x], #[t]⟩) = some (I64 (m : Nat)) := by
      simp [still, hT, hx]
    obtain ⟨v, h2, h1⟩ := still_sound (o := ⟨d, .call ⟨.builtin .len, #[x], #[t]⟩, ty, pos, aft, gd⟩) r' hs
    exact ⟨v, w, e, h1 w (SameAs.refl w), r, h2⟩)
end
end Go.Sy

namespace Go.Proofs
open Go.Sy Go.Lib

section
variable {P : Program} {T : Tab} {X : Ctx P T} {n : Nat} {st : St}
theorem C_join {Q : Exit → St → Prop} {c : Code} (J : St) (h : SymC X n c st (fun ex s => match ex with
      | .normal => Le X n s J
      | ex => Q ex s)) (hQ : ∀ s, Le X n s J → Q .normal s) : SymC X n c st Q :=
  h.mono fun ex s h => by cases ex <;> first | exact h | exact hQ s h
end
theorem rList_c (x : Cf) : FnP Tryz.prog 262 [.agg (Cf.c x)] (· = SL 1 INTc x.l) := by
  refine FnP.intro Tryz.tabOK Tryz.wide_ Tryz.func262 rfl (by decide) rfl (fun X => ?_)
  refine C_seq (C_join ⟨[(1, .bp 1 0)], [.box 1 91 (Cf.c x)]⟩ ?_ (fun s0 hs0 => C_le _ hs0 ?_))
  · repeat (first | refine sc rfl ?_ | refine so rfl ?_)
    exact Le.pick [0] ⟨rfl, trivial⟩ rfl
  refine C_seq (C_join ⟨[(2, SL 1 INTc x.l)], []⟩ ?_ (fun s0 hs0 => C_le _ hs0 ?_))
  · repeat (first|refine sc rfl ?_|refine so rfl ?_|refine sb rfl ?_)
    refine Le.trans (Le.pick [0] (s2 := [(2, .own 21)]) ⟨rfl, trivial⟩ rfl) (Le.trans (Le.vecrow (k := 21) 9 (fun j => INTc (x.l.getD j default)) rfl rfl (fun j hj => ?_)) (Le.trans (Le.freezeL (l := x.l) (cells := INTc) 2 rfl rfl) (Le.pick [] ⟨rfl, trivial⟩ rfl)))
    match j, hj with
    | 0, _ => rfl
    | 1, _ => rfl
    | 2, _ => rfl
    | 3, _ => rfl
    | 4, _ => rfl
    | 5, _ => rfl
    | 6, _ => rfl
    | 7, _ => rfl
    | 8, _ => rfl
    | n + 9, h => exact absurd h (Nat.not_lt.2 (Nat.le_add_left _ _))
  · repeat refine sc rfl ?_
    exact ⟨_, rfl, rfl, rfl⟩
theorem ofV_get (f : Nat → Int) (j : Nat) (h : j < 9) : (Cf.ofV f).l.getD j 0 = f j := by
  match j, h with
  | 0, _ => rfl
  | 1, _ => rfl
  | 2, _ => rfl
  | 3, _ => rfl
  | 4, _ => rfl
  | 5, _ => rfl
  | 6, _ => rfl
  | 7, _ => rfl
  | 8, _ => rfl
theorem confOf_bad {f : Nat → Int} {j : Nat} (h : j < 9) (hb : ¬ (loP j ≤ f j ∧ f j ≤ hiP j)) : confOfV f = (default, 1) := by
  unfold confOfV
  rw [if_neg]
  intro e
  unfold ckF at e
  split at e
  · rename_i hh
    have h2 := hh ⟨j, h⟩
    unfold okAt at h2
    rw [ofV_get f j h] at h2
    simp only [Bool.and_eq_true, decide_eq_true_eq] at h2
    exact hb h2
  · cases e
theorem confOf_good {f : Nat → Int} (h : ∀ j, j < 9 → loP j ≤ f j ∧ f j ≤ hiP j) : confOfV f = (Cf.ofV f, 0) := by
  unfold confOfV
  rw [if_pos]
  unfold ckF
  rw [if_pos]
  intro i
  unfold okAt
  rw [ofV_get f i.val i.isLt]
  simp only [Bool.and_eq_true, decide_eq_true_eq]
  exact h i.val i.isLt
def mostL : List Int := [1048576, 1048576, 1048576, 1048576, 64, 64, 16, 1048576, 1048576]
theorem rOf_c (l : List Int) (hl : l.length ≤ 1000) : FnP Tryz.prog 177 [SL 1 INTc l] (· = .tup [.agg (Cf.c (confOfF l).1), I64 (confOfF l).2]) := by
  refine FnP.intro Tryz.tabOK Tryz.wide_ Tryz.func177 rfl (by decide) rfl (fun X => ?_)
  unfold confOfF
  repeat (first | refine sc rfl ?_ | refine so rfl ?_)
  refine C_if rfl (fun k1 => ?_) (fun k1 => ?_) <;> simp only [pL] at k1
  · rw [if_neg (by omega)]
    repeat (first | refine sc rfl ?_ | refine so rfl ?_)
    exact ⟨_, rfl, rfl, rfl⟩
  rw [if_pos (by omega)]
  repeat (first|refine sc rfl ?_|refine so rfl ?_|refine sb rfl ?_)
  refine C_le _ (Le.pick [0, 0] (s2 := [(0, SL 1 INTc l), (2, .bp 2 0), (4, .own 10), (5, I64 0)]) ⟨rfl, rfl, rfl, rfl, trivial⟩ rfl) ?_
  refine C_le _ (Le.vecrow (k := 10) 9 (fun j => INTc (mostL.getD j default)) rfl rfl (fun j hj => ?_)) ?_
  · match j, hj with
    | 0, _ => rfl
    | 1, _ => rfl
    | 2, _ => rfl
    | 3, _ => rfl
    | 4, _ => rfl
    | 5, _ => rfl
    | 6, _ => rfl
    | 7, _ => rfl
    | 8, _ => rfl
    | n + 9, h => exact absurd h (Nat.not_lt.2 (Nat.le_add_left _ _))
  refine C_le _ (Le.freezeL (l := mostL) (cells := INTc) 4 rfl rfl) ?_
  have hlo : ∀ j, loP j = if j = 0 then 1040 else 0 := fun j => rfl
  have hhi : ∀ j, j < 9 → mostL.getD j default = hiP j := fun j hj => by
    match j, hj with
    | 0, _ => rfl
    | 1, _ => rfl
    | 2, _ => rfl
    | 3, _ => rfl
    | 4, _ => rfl
    | 5, _ => rfl
    | 6, _ => rfl
    | 7, _ => rfl
    | 8, _ => rfl
  refine C_loop (fun i : Nat => ⟨[(0, SL 1 INTc l), (2, .bp 2 0), (4, SL 1 INTc mostL), (5, I64 (i : Nat))], [.box 2 91 (Cf.c default)]⟩) (fun i => i ≤ 9 ∧ ∀ j, j < i → 0 ≤ l.getD j 0 ∧ l.getD j 0 ≤ hiP j) (fun i => 9 - i) 0 ⟨by decide, fun j hj => absurd hj (Nat.not_lt_zero _)⟩ ?_ ?_
  · exact Le.pick [0] ⟨rfl, rfl, rfl, rfl, trivial⟩ rfl
  rintro i ⟨hi, hall⟩
  repeat (first | refine sc rfl ?_ | refine so rfl ?_)
  refine C_if rfl (fun k2 => ?_) (fun k2 => ?_) <;> simp only [pL] at k2
  · have hh := hhi i (by omega)
    obtain ⟨v, hv⟩ : ∃ v, l.getD i default = v := ⟨_, rfl⟩
    have hv0 : l.getD i 0 = v := hv
    repeat refine sc rfl ?_
    refine C_drawD rfl (by kernel_rfl) ?_
    repeat refine sd rfl ?_
    refine ⟨by omega, ?_⟩
    simp only [Int.toNat_natCast, hv]
    repeat refine sd rfl ?_
    refine D_case 5 rfl (fun k3 => ?_) (fun k3 => ?_) <;> simp only [pL] at k3
    · repeat refine sd rfl ?_
      refine C_true rfl rfl ?_
      repeat (first | refine sc rfl ?_ | refine so rfl ?_)
      rw [confOf_bad (f := fun j => l.getD j 0) (j := i) (by omega) (by simp only [hv0]; rw [hlo]; split <;> omega)]
      exact ⟨_, rfl, rfl, rfl⟩
    · repeat refine sd rfl ?_
      refine ⟨by omega, ?_⟩
      simp only [Int.toNat_natCast, hv]
      repeat refine sd rfl ?_
      refine ⟨⟨by omega, by show ((i : Nat) : Int) < 9; omega⟩, ?_⟩
      simp only [Int.toNat_natCast, hh]
      repeat refine sd rfl ?_
      refine C_if rfl (fun k4 => ?_) (fun k4 => ?_) <;> simp only [pL] at k4
      · repeat (first | refine sc rfl ?_ | refine so rfl ?_)
        rw [confOf_bad (f := fun j => l.getD j 0) (j := i) (by omega) (by simp only [hv0]; omega)]
        exact ⟨_, rfl, rfl, rfl⟩
      · repeat (first | refine sc rfl ?_ | refine so rfl ?_)
        rw [w64 (x := (i : Int) + 1) (by omega) (by omega)]
        refine ⟨i + 1, ⟨by omega, fun j hj => ?_⟩, by omega, Le.pick [0] ⟨rfl, rfl, rfl, rfl, trivial⟩ rfl⟩
        rcases Nat.lt_or_ge j i with h | h
        · exact hall j h
        · obtain rfl : j = i := by omega
          rw [hv0]; omega
  · obtain rfl : i = 9 := by omega
    repeat (first | refine sc rfl ?_ | refine so rfl ?_)
    refine ⟨by omega, ?_⟩
    repeat refine so rfl ?_
    refine C_if rfl (fun k3 => ?_) (fun k3 => ?_) <;> simp only [pL] at k3
    · repeat (first | refine sc rfl ?_ | refine so rfl ?_)
      rw [confOf_bad (f := fun j => l.getD j 0) (j := 0) (by omega) (by
        have h0 : l.getD 0 0 < 1040 := k3
        rw [hlo, if_pos rfl]; omega)]
      exact ⟨_, rfl, rfl, rfl⟩
    · rw [confOf_good (f := fun j => l.getD j 0) (fun j hj => by
        have h0 : ¬ l.getD 0 0 < 1040 := k3
        have h1 := hall j hj
        rw [hlo]
        split
        · rename_i h; subst h; omega
        · exact h1)]
      repeat refine sc rfl ?_
      refine C_drawU 60 28 rfl (by kernel_rfl) (by kernel_rfl) (by kernel_rfl) ?_
      repeat refine sd rfl ?_
      refine ⟨by omega, ?_⟩
      repeat refine sd rfl ?_
      refine ⟨by omega, ?_⟩
      repeat refine sd rfl ?_
      refine ⟨by omega, ?_⟩
      repeat refine sd rfl ?_
      refine ⟨by omega, ?_⟩
      repeat refine sd rfl ?_
      refine ⟨by omega, ?_⟩
      repeat refine sd rfl ?_
      refine ⟨by omega, ?_⟩
      repeat refine sd rfl ?_
      refine ⟨by omega, ?_⟩
      repeat refine sd rfl ?_
      refine ⟨by omega, ?_⟩
      repeat refine sd rfl ?_
      refine ⟨by omega, ?_⟩
      repeat (first | refine sd rfl ?_ | refine sdb rfl ?_)
      repeat (first | refine sc rfl ?_ | refine so rfl ?_)
      exact ⟨_, rfl, rfl, rfl⟩
theorem rCheck_c (x : Cf) : FnP Tryz.prog 261 [.agg (Cf.c x)] (· = I64 (ckF x)) := by
  refine FnP.intro Tryz.tabOK Tryz.wide_ Tryz.func261 rfl (by decide) rfl (fun X => ?_)
  have hx : (confOfF x.l).2 = ckF x := by
    show (confOfV fun j => x.l.getD j 0).2 = ckF x
    unfold confOfV
    have : Cf.ofV (fun j => x.l.getD j 0) = x := rfl
    rw [this]
    split
    · rename_i h; exact h.symm
    · rename_i h
      unfold ckF at h ⊢
      split
      · rename_i h2; rw [if_pos h2] at h; exact absurd rfl h
      · rfl
  repeat (first | refine sc rfl ?_ | refine so rfl ?_)
  refine O_call (rList_c x) (by rfl) (by rfl) (by rfl) (by rfl) (fun r hr => ?_)
  subst hr
  repeat refine sc rfl ?_
  refine O_call (rOf_c x.l (by show 9 ≤ 1000; decide)) (by rfl) (by rfl) (by rfl) (by rfl) (fun r hr => ?_)
  subst hr
  rw [hx]
  repeat (first | refine sc rfl ?_ | refine so rfl ?_)
  exact ⟨_, rfl, rfl, rfl⟩
theorem rConfPut_c (x : Cf) : FnP Tryz.prog 224 [.agg (Cf.c x)] (· = .tup [.s (cfP x).1, I64 (cfP x).2]) := by
  refine FnP.intro Tryz.tabOK Tryz.wide_ Tryz.func224 rfl (by decide) rfl (fun X => ?_)
  have h01 : ckF x = 0 ∨ ckF x = 1 := by unfold ckF; split <;> simp
  unfold cfP
  repeat (first | refine sc rfl ?_ | refine so rfl ?_)
  refine O_call (rCheck_c x) (by rfl) (by rfl) (by rfl) (by rfl) (fun r hr => ?_)
  subst hr
  repeat refine so rfl ?_
  refine C_if rfl (fun k1 => ?_) (fun k1 => ?_) <;> simp only [pL] at k1
  · have h1 : ckF x = 1 := by rcases h01 with h | h; exact absurd h k1; exact h
    rw [if_neg k1, h1]
    repeat (first | refine sc rfl ?_ | refine so rfl ?_)
    exact ⟨_, rfl, rfl, rfl⟩
  rw [if_pos k1]
  repeat (first | refine sc rfl ?_ | refine so rfl ?_)
  refine O_call (rList_c x) (by rfl) (by rfl) (by rfl) (by rfl) (fun r hr => ?_)
  subst hr
  repeat (first | refine sc rfl ?_ | refine so rfl ?_)
  have h9 : x.l.length = 9 := rfl
  refine C_loop (fun i : Nat => ⟨[(4, SL 1 INTc x.l), (5, .s ((x.l.take i).map fun n => vput n.toNat).flatten), (6, I64 (i : Nat))], []⟩) (fun i => i ≤ 9) (fun i => 9 - i) 0 (by decide) ?_ ?_
  · exact Le.pick [] ⟨rfl, rfl, rfl, trivial⟩ rfl
  intro i hi
  repeat (first | refine sc rfl ?_ | refine so rfl ?_)
  refine C_if rfl (fun k2 => ?_) (fun k2 => ?_) <;> simp only [pL] at k2
  · have hi9 : i < 9 := by omega
    obtain ⟨h1, h2⟩ := ckF_lim k1 i hi9
    obtain ⟨v, hv⟩ : ∃ v, x.l.getD i default = v := ⟨_, rfl⟩
    have hv0 : x.l.getD i 0 = v := hv
    rw [hv0] at h1 h2
    obtain ⟨m, rfl⟩ : ∃ m : Nat, v = m := ⟨v.toNat, by omega⟩
    have hst : ((x.l.take (i + 1)).map fun n => vput n.toNat).flatten = ((x.l.take i).map fun n => vput n.toNat).flatten ++ vput m := by
      rw [List.take_succ_eq_append_getElem (by omega), List.map_append, List.flatten_append]
      rw [List.getD_eq_getElem?_getD, List.getElem?_eq_getElem (by omega)] at hv
      simp only [Option.getD_some] at hv
      rw [hv]
      simp
    have hln := cfB_len k1 (i + 1) hi9
    rw [hst, List.length_append] at hln
    repeat (first | refine sc rfl ?_ | refine so rfl ?_)
    refine ⟨by omega, ?_⟩
    simp only [Int.toNat_natCast, hv]
    repeat refine so rfl ?_
    rw [u64wrap (x := (m : Int)) (by omega) (by omega)]
    refine O_call (rPut_c m (by omega)) (by rfl) (by rfl) (by rfl) (by rfl) (fun r hr => ?_)
    subst hr
    repeat refine so rfl ?_
    refine ⟨by omega, ?_⟩
    repeat (first | refine sc rfl ?_ | refine so rfl ?_)
    rw [w64 (x := (i : Int) + 1) (by omega) (by omega)]
    refine ⟨i + 1, hi9, by omega, ?_⟩
    rw [hst]
    exact Le.pick [] ⟨rfl, rfl, rfl, trivial⟩ rfl
  · obtain rfl : i = 9 := by omega
    repeat (first | refine sc rfl ?_ | refine so rfl ?_)
    exact ⟨_, rfl, rfl, rfl⟩
theorem rForm_c (id : Nat) (op owner : Int) (x : Cf) : FnP Tryz.prog 223 [.agg (ordC id op owner x)] (· = B (decide (formF op owner x = 0))) := by
  refine FnP.intro Tryz.tabOK Tryz.wide_ Tryz.func223 rfl (by decide) rfl (fun X => ?_)
  unfold formF configF
  repeat (first | refine sc rfl ?_ | refine so rfl ?_)
  refine O_case 6 rfl (fun k1 => ?_) (fun k1 => ?_) <;> simp only [pL] at k1
  · repeat refine so rfl ?_
    refine C_true rfl rfl ?_
    repeat (first | refine sc rfl ?_ | refine so rfl ?_)
    rw [if_pos (by omega)]
    exact ⟨_, rfl, rfl, rfl⟩
  repeat refine so rfl ?_
  refine O_case 11 rfl (fun k2 => ?_) (fun k2 => ?_) <;> simp only [pL] at k2
  · repeat refine so rfl ?_
    refine C_true rfl rfl ?_
    repeat (first | refine sc rfl ?_ | refine so rfl ?_)
    rw [if_pos (by omega)]
    exact ⟨_, rfl, rfl, rfl⟩
  repeat refine so rfl ?_
  refine O_case 16 rfl (fun k3 => ?_) (fun k3 => ?_) <;> simp only [pL] at k3
  · repeat refine so rfl ?_
    refine C_true rfl rfl ?_
    repeat (first | refine sc rfl ?_ | refine so rfl ?_)
    rw [if_pos (by omega)]
    exact ⟨_, rfl, rfl, rfl⟩
  repeat refine so rfl ?_
  refine C_if rfl (fun k4 => ?_) (fun k4 => ?_) <;> simp only [pL] at k4
  · repeat (first | refine sc rfl ?_ | refine so rfl ?_)
    rw [if_pos (by omega)]
    exact ⟨_, rfl, rfl, rfl⟩
  rw [if_neg (by omega)]
  repeat (first | refine sc rfl ?_ | refine so rfl ?_)
  refine O_case 24 rfl (fun k5 => ?_) (fun k5 => ?_) <;> simp only [pL] at k5
  · repeat refine so rfl ?_
    refine O_case 29 rfl (fun k6 => ?_) (fun k6 => ?_) <;> simp only [pL] at k6
    · repeat (first | refine sc rfl ?_ | refine so rfl ?_)
      rw [if_neg (by simp; omega)]
      exact ⟨_, rfl, rfl, rfl⟩
    · repeat refine so rfl ?_
      refine O_call (rCheck_c x) (by rfl) (by rfl) (by rfl) (by rfl) (fun r hr => ?_)
      subst hr
      repeat (first | refine sc rfl ?_ | refine so rfl ?_)
      rw [if_pos (by simp; omega)]
      exact ⟨_, rfl, rfl, congrArg B (by cases h : ckF x == 0 <;> simp_all)⟩
  · repeat refine so rfl ?_
    refine O_call (rCheck_c x) (by rfl) (by rfl) (by rfl) (by rfl) (fun r hr => ?_)
    subst hr
    repeat (first | refine sc rfl ?_ | refine so rfl ?_)
    rw [if_pos (by simp; omega)]
    exact ⟨_, rfl, rfl, congrArg B (by cases h : ckF x == 0 <;> simp_all)⟩
theorem rOrdPut_c (id : Nat) (op owner : Int) (x : Cf) (hid : id < 18446744073709551616) : FnP Tryz.prog 179 [.agg (ordC id op owner x)] (· = .tup [.s (ordP id op owner x).1, I64 (ordP id op owner x).2]) := by
  refine FnP.intro Tryz.tabOK Tryz.wide_ Tryz.func179 rfl (by decide) rfl (fun X => ?_)
  unfold ordP
  repeat (first | refine sc rfl ?_ | refine so rfl ?_)
  refine O_call (rForm_c id op owner x) (by rfl) (by rfl) (by rfl) (by rfl) (fun r hr => ?_)
  subst hr
  repeat refine so rfl ?_
  refine C_if rfl (fun k1 => ?_) (fun k1 => ?_) <;> simp only [pL] at k1
  · rw [if_neg k1]
    repeat (first | refine sc rfl ?_ | refine so rfl ?_)
    exact ⟨_, rfl, rfl, rfl⟩
  rw [if_pos k1]
  obtain ⟨g1, g2, g3, g4⟩ := form_op k1
  obtain ⟨o, rfl⟩ : ∃ o : Nat, op = o := ⟨op.toNat, by omega⟩
  obtain ⟨w, rfl⟩ : ∃ w : Nat, owner = w := ⟨owner.toNat, by omega⟩
  have a1 := vput_len10 hid
  have a2 := vput_len10 (n := o) (by omega)
  have a3 := vput_len10 (n := w) (by omega)
  have a4 := cfP_len x
  unfold ordB
  simp only [Int.toNat_natCast]
  repeat refine sc rfl ?_
  refine C_drawD rfl (by kernel_rfl) ?_
  repeat refine sd rfl ?_
  refine D_call (rPut_c id hid) rfl rfl rfl rfl ?_
  repeat refine sd rfl ?_
  rw [u64wrap (x := (o : Int)) (by omega) (by omega)]
  refine D_call (rPut_c o (by omega)) rfl rfl rfl rfl ?_
  repeat refine sd rfl ?_
  refine ⟨by omega, ?_⟩
  repeat refine sd rfl ?_
  rw [u64wrap (x := (w : Int)) (by omega) (by omega)]
  refine D_call (rPut_c w (by omega)) rfl rfl rfl rfl ?_
  repeat refine sd rfl ?_
  refine ⟨by rw [List.length_append]; omega, ?_⟩
  repeat refine sd rfl ?_
  repeat (first | refine sc rfl ?_ | refine so rfl ?_)
  refine O_case 26 rfl (fun k5 => ?_) (fun k5 => ?_) <;> simp only [pL] at k5
  · repeat refine so rfl ?_
    refine C_true rfl rfl ?_
    repeat (first | refine sc rfl ?_ | refine so rfl ?_)
    refine O_call (rConfPut_c x) (by rfl) (by rfl) (by rfl) (by rfl) (fun r hr => ?_)
    subst hr
    rw [if_pos (by unfold configF; simp; omega)]
    have hcf : (cfP x).2 = 0 := by
      have h6 : configF (o : Int) = true := by unfold configF; simp; omega
      unfold formF at k1
      rw [if_neg (by omega), if_pos h6] at k1
      unfold cfP
      rw [if_pos k1]
    rw [hcf]
    repeat (first | refine sc rfl ?_ | refine so rfl ?_)
    refine ⟨by simp only [List.length_append]; omega, ?_⟩
    repeat (first | refine sc rfl ?_ | refine so rfl ?_)
    exact ⟨_, rfl, rfl, rfl⟩
  repeat refine so rfl ?_
  refine C_if rfl (fun k6 => ?_) (fun k6 => ?_) <;> simp only [pL] at k6
  · repeat (first | refine sc rfl ?_ | refine so rfl ?_)
    refine O_call (rConfPut_c x) (by rfl) (by rfl) (by rfl) (by rfl) (fun r hr => ?_)
    subst hr
    rw [if_pos (by unfold configF; simp; omega)]
    have hcf : (cfP x).2 = 0 := by
      have h6 : configF (o : Int) = true := by unfold configF; simp; omega
      unfold formF at k1
      rw [if_neg (by omega), if_pos h6] at k1
      unfold cfP
      rw [if_pos k1]
    rw [hcf]
    repeat (first | refine sc rfl ?_ | refine so rfl ?_)
    refine ⟨by simp only [List.length_append]; omega, ?_⟩
    repeat (first | refine sc rfl ?_ | refine so rfl ?_)
    exact ⟨_, rfl, rfl, rfl⟩
  · rw [if_neg (by unfold configF; simp; omega)]
    repeat (first | refine sc rfl ?_ | refine so rfl ?_)
    exact ⟨_, rfl, rfl, rfl⟩
end Go.Proofs

namespace Go.Proofs
open Go.Sy Go.Lib

theorem ordP_len (id : Nat) (op owner : Int) (x : Cf) (hid : id < 18446744073709551616) (hl : (cfP x).1.length ≤ 1000) : (ordP id op owner x).1.length ≤ 2000 := by
  unfold ordP
  split
  · rename_i h
    obtain ⟨o1, o2, o3, o4⟩ := form_op h
    have a1 := vput_len10 hid
    have a2 := vput_len10 (n := op.toNat) (by omega)
    have a3 := vput_len10 (n := owner.toNat) (by omega)
    split <;> simp only [ordB, List.length_append] <;> omega
  · simp
theorem bodyF_len (key : Int) (verb : List UInt8) (q : Cu) (hT : CuT q) (hl : ∀ x : Cf, (cfP x).1.length ≤ 1000) : (bodyF key verb q).1.2.1.length ≤ 2000000000 := by
  have h := hT.ok
  have v := fun (q : Cu) => vput_len10 (numV_lt q)
  have v2 := fun (m : Nat) (hm : m ≤ 1048576) (q : Cu) => vput_len10 (n := smallV m q) (by have := smallV_le m q; omega)
  have cal : (callB q).length ≤ 2000000000 := by
    have b1 := v q
    have b2 := v2 1048576 (by decide) (numC q)
    have b3 := v2 1048576 (by decide) (smallC 1048576 (numC q))
    have b4 := bytesV_len (q := smallC 1048576 (smallC 1048576 (numC q))) h.num.small.small
    simp only [callB, List.length_append]; omega
  have hel : (helloB q).length ≤ 2000000000 := by
    have b1 := v2 8 (by decide) q
    have b2 := v2 1048576 (by decide) (smallC 8 q)
    have b3 := v (smallC 1048576 (smallC 8 q))
    simp only [helloB, List.length_append]; omega
  have bin : (bindB q).length ≤ 2000000000 := by
    have b1 := v q
    have b2 := v2 1048576 (by decide) (numC q)
    have b3 := wordV_len (q := smallC 1048576 (numC q)) h.num.small
    have b4 := wordV_len (q := wordC (smallC 1048576 (numC q))) h.num.small.word
    have b5 := v2 1048576 (by decide) (wordC (wordC (smallC 1048576 (numC q))))
    have b6 := vput_len10 (n := (wordV (smallC 1048576 (numC q))).length) (by omega)
    have b7 := vput_len10 (n := (wordV (wordC (smallC 1048576 (numC q)))).length) (by omega)
    simp only [bindB, spanF, List.length_append]; omega
  have sch := (hT.tl (b := q.2 || q.1.isEmpty || (numF (q.1.headD [])).isNone)).join2
  have b1 := v q
  have tg := tagF_r key
  have b2 := vput_len10 (n := (tagF key).toNat) (by omega)
  have b3 := vput_len10 (n := 0) (by decide)
  have b4 := vput_len10 (n := 1) (by decide)
  unfold bodyF
  split
  · have := ordP_len (numV q) (opF verb) ((smallV 8 (numC q) : Nat) : Int) (ordX (opF verb) q) (numV_lt q) (hl _)
    show (orderV (opF verb) q).1.length ≤ _
    unfold orderV; omega
  repeat' split
  · exact hel
  · simp only [List.length_append]; omega
  · simp
  · exact cal
  · exact cal
  · show (vput (numV q)).length ≤ _; omega
  · show (vput (numV q) ++ restV (numC q)).length ≤ _
    rw [List.length_append]
    have : (restV (numC q)).length ≤ 1000000000 := sch
    omega
  · exact bin
  · simp
end Go.Proofs

namespace Go.Proofs
open Go.Sy Go.Lib

def doneB (q : Cu) : Bool := !q.2 && q.1.isEmpty
theorem done_S (c : Nat) (q : Cu) : FnA Tryz.prog 32 [PT c 0] [cuA c q] (fun r cs' => r = B (doneB q) ∧ cs' = [cuA c q]) := done_A c q.1 q.2
def comeV (cn : Int) (b : Int × List UInt8 × Int) (d : Bool) : Evt × Int :=
  if b.1 = 0 then (⟨2, cn, 0, []⟩, 6) else if d = false ∨ b.2.2 ≠ 0 then (⟨2, cn, 0, []⟩, 1) else (⟨2, cn, 0, fputL b.1 0 b.2.1⟩, fputE b.1 0 b.2.1)
def comeF (key : Int) (verb : List UInt8) (q : Cu) : Evt × Int := comeV ((smallV 15 q : Nat) : Int) (bodyF key verb (smallC 15 q)).1 (doneB (bodyF key verb (smallC 15 q)).2)
theorem come_S (c : Nat) (key : Int) (verb : List UInt8) (q : Cu) (hT : CuT q) (hCP : ∀ x : Cf, (cfP x).1.length ≤ 1000 ∧ FnP Tryz.prog 258 [.agg (Cf.c x)] (· = .tup [.s (cfP x).1, I64 (cfP x).2])) :
    FnA Tryz.prog 71 [U64 key, .s verb, PT c 0] [cuA c q] (fun r cs' => r = .tup [.agg (Evt.c (comeF key verb q).1), I64 (comeF key verb q).2] ∧ cs' = [cuA c (bodyF key verb (smallC 15 q)).2]) := by
  refine FnA.intro Tryz.tabOK Tryz.wide_ Tryz.func71 rfl (by decide) rfl (fun X => ?_)
  have hl := bodyF_len key verb (smallC 15 q) hT.tl (fun x => (hCP x).1)
  obtain ⟨E0, hE0⟩ : ∃ E0, comeF key verb q = E0 := ⟨_, rfl⟩
  rw [hE0]
  unfold comeF at hE0
  repeat (first | refine sc rfl ?_ | refine so rfl ?_)
  refine O_callA [2] (small_S c q 15 (by decide) hT.ok) (by rfl) (by rfl) (by rfl) (by rfl) (by rfl) ?_
  rintro r' cs' ⟨rfl, rfl⟩
  repeat (first | refine sc rfl ?_ | refine so rfl ?_)
  refine O_callA [1] (body_S c key verb (smallC 15 q) hT.tl hCP) (by rfl) (by rfl) (by rfl) (by rfl) (by rfl) ?_
  rintro r' cs' ⟨rfl, rfl⟩
  generalize smallV 15 q = cn at hE0 ⊢
  generalize bodyF key verb (smallC 15 q) = bb at hE0 hl ⊢
  simp only [comeV] at hE0
  repeat (first | refine sc rfl ?_ | refine so rfl ?_)
  refine C_if rfl (fun h1 => ?_) (fun h1 => ?_) <;> simp only [pL] at h1
  · rw [if_pos h1] at hE0
    subst hE0
    repeat (first | refine sc rfl ?_ | refine so rfl ?_)
    exact ⟨_, [_], _, rfl, pickA_perm (is := [1]) (As := [_]) rfl, rfl, rfl, rfl⟩
  rw [if_neg h1] at hE0
  repeat (first | refine sc rfl ?_ | refine so rfl ?_)
  refine O_callA [0] (done_S c bb.2) (by rfl) (by rfl) (by rfl) (by rfl) (by rfl) ?_
  rintro r' cs' ⟨rfl, rfl⟩
  repeat refine so rfl ?_
  cases hd : doneB bb.2 with
  | false =>
    rw [hd, if_pos (.inl rfl)] at hE0
    subst hE0
    refine O_true 32 rfl rfl ?_
    repeat refine so rfl ?_
    refine C_true rfl rfl ?_
    repeat (first | refine sc rfl ?_ | refine so rfl ?_)
    exact ⟨_, [_], _, rfl, pickA_perm (is := [1]) (As := [_]) rfl, rfl, rfl, rfl⟩
  | true =>
    refine O_false 32 rfl rfl ?_
    repeat refine so rfl ?_
    refine C_if rfl (fun h2 => ?_) (fun h2 => ?_) <;> simp only [pL] at h2
    · rw [if_pos (.inr h2)] at hE0
      subst hE0
      repeat (first | refine sc rfl ?_ | refine so rfl ?_)
      exact ⟨_, [_], _, rfl, pickA_perm (is := [1]) (As := [_]) rfl, rfl, rfl, rfl⟩
    rw [hd, if_neg (by rintro (h | h); cases h; exact h h2)] at hE0
    subst hE0
    repeat (first | refine sc rfl ?_ | refine so rfl ?_)
    refine O_call (Put84_p bb.1.1 0 bb.1.2.1 (by omega)) (by rfl) (by rfl) (by rfl) (by rfl) (fun r hr => ?_)
    subst hr
    repeat (first | refine sc rfl ?_ | refine so rfl ?_)
    exact ⟨_, [_], _, rfl, pickA_perm (is := [2]) (As := [_]) rfl, rfl, rfl, rfl⟩
end Go.Proofs
