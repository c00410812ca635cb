/- Contracts: which kinds are known; frame.Head, frame.Take, the document's Take of a frame; who asks. -/
import Derived.Test.YtgdlhcaidfokkaaTb
import Derived.Test.YtgdlhcaidfokkaaSA
import Derived.Test.YtgdlhcaidfokkaaT2
set_option linter.unusedSimpArgs false
set_option linter.unusedVariables false
set_option maxRecDepth 100000
namespace Go.Proofs
open Go.Sy Go.Lib

def by_ (l : List UInt8) (i : Nat) : Nat := (l.getD i 0).toNat
theorem by_lt (l : List UInt8) (i : Nat) : by_ l i < 256 := by unfold by_; exact UInt8.toNat_lt _
theorem getD_by (l : List UInt8) (i : Nat) : (l.getD i 0).toNat = by_ l i := rfl
theorem or8 (a b : Nat) (ha : a < 32768) (hb : b < 256) : bitsV .or .i64 ((a * 256 : Nat) : Int) (b : Int) = ((a * 256 + b : Nat) : Int) := by
  have h1 : (a * 256) ||| b = a * 256 + b := by
    have := Nat.two_pow_add_eq_or_of_lt (i := 8) hb a
    rw [show (2 : Nat) ^ 8 = 256 from rfl, Nat.mul_comm] at this
    exact this.symm
  simp only [bitsV]
  rw [show IntKind.i64.bits = 64 from rfl, BitVec.toNat_or, BitVec.ofInt_natCast, BitVec.ofInt_natCast, BitVec.toNat_ofNat, BitVec.toNat_ofNat, Nat.mod_eq_of_lt (by omega), Nat.mod_eq_of_lt (by omega), h1]
  exact w64 (by omega) (by omega)

theorem known_p (k : Int) : FnP Try.prog 115 [I64 k] (· = B (decide (1 ≤ k ∧ k ≤ 9))) := by
  refine FnP.intro Try.tabOK Try.wide_ Try.func115 rfl (by decide) rfl (fun X => ?_)
  repeat (first | refine sc rfl ?_ | refine so rfl ?_ | refine sb rfl ?_)
  refine O_case 5 rfl (fun h => ?_) (fun h => ?_)
  · repeat (first | refine sc rfl ?_ | refine so rfl ?_ | refine sb rfl ?_)
    refine ⟨_, rfl, rfl, congrArg B ?_⟩
    simp at h
    simp [h]
  · repeat (first | refine sc rfl ?_ | refine so rfl ?_ | refine sb rfl ?_)
    refine ⟨_, rfl, rfl, congrArg B ?_⟩
    simp at h
    simp; omega

def lenB (b : List UInt8) : Nat := by_ b 2 * 256 + by_ b 3
theorem lenB_lt (b : List UInt8) : lenB b < 65536 := by
  have := by_lt b 2; have := by_lt b 3; unfold lenB; omega
theorem lenB_prog (b : List UInt8) : bitsV .or .i64 (IntKind.i64.wrap (IntKind.i64.wrap ((b.getD (Int.toNat 2) 0).toNat : Int) * 2 ^ min (Int.toNat 8) IntKind.i64.bits)) (IntKind.i64.wrap ((b.getD (Int.toNat 3) 0).toNat : Int)) = (lenB b : Int) := by
  have h0 := by_lt b 2
  have h1 := by_lt b 3
  rw [show (2 : Int) ^ min (Int.toNat 8) IntKind.i64.bits = 256 by decide]
  show bitsV .or .i64 (IntKind.i64.wrap (IntKind.i64.wrap (by_ b 2 : Int) * 256)) (IntKind.i64.wrap (by_ b 3 : Int)) = _
  rw [w64 (x := (by_ b 2 : Int)) (by omega) (by omega), w64 (x := (by_ b 3 : Int)) (by omega) (by omega), w64 (by omega) (by omega), show ((by_ b 2 : Int) * 256) = ((by_ b 2 * 256 : Nat) : Int) by omega, or8 _ _ (by omega) h1]
  rfl
theorem byte_prog (b : List UInt8) (i : Nat) : IntKind.i64.wrap ((b.getD i 0).toNat : Int) = (by_ b i : Int) := by
  have := by_lt b i
  rw [getD_by, w64 (by omega) (by omega)]

def headE (b : List UInt8) : Int := if b.length < 4 then 2 else if ¬ (1 ≤ by_ b 0 ∧ by_ b 0 ≤ 9) then 4 else if 1024 < lenB b then 3 else 0
def headA (b : List UInt8) : AV := if headE b = 0 then .tup [I64 (by_ b 0 : Nat), I64 (by_ b 1 : Nat), I64 (lenB b : Nat), I64 0] else .tup [I64 0, I64 0, I64 0, I64 (headE b)]

theorem Head_p (b : List UInt8) (hb : b.length ≤ 9223372036854775000) : FnP Try.prog 127 [.s b] (· = headA b) := by
  refine FnP.intro Try.tabOK Try.wide_ Try.func127 rfl (by decide) rfl (fun X => ?_)
  have fin : ∀ e : Int, headE b = e → e ≠ 0 → AV.tup [I64 0, I64 0, I64 0, I64 e] = headA b := fun e h h0 => by
    unfold headA; rw [if_neg (by rw [h]; exact h0), h]
  repeat (first | refine sc rfl ?_ | refine so rfl ?_ | refine sb rfl ?_ | refine C_scope ?_)
  refine C_if rfl (fun h => ?_) (fun h => ?_) <;> simp only [decide_eq_true_eq, decide_eq_false_iff_not] at h
  · repeat (first | refine sc rfl ?_ | refine so rfl ?_ | refine sb rfl ?_)
    exact ⟨_, rfl, rfl, fin 2 (by unfold headE; rw [if_pos (by omega)]) (by decide)⟩
  repeat (first | refine sc rfl ?_ | refine so rfl ?_ | refine sb rfl ?_ | refine C_scope ?_)
  refine C_drawD rfl (by kernel_rfl) ?_
  repeat (first | refine sd rfl ?_ | refine And.intro (by omega) ?_ | refine And.intro (by decide) ?_)
  rw [lenB_prog, show IntKind.i64.wrap ((b.getD (Int.toNat 0) 0).toNat : Int) = (by_ b 0 : Int) from byte_prog b 0]
  have hl := lenB_lt b
  have h0 := by_lt b 0
  repeat (first | refine sc rfl ?_ | refine so rfl ?_ | refine sb rfl ?_ | refine C_scope ?_)
  refine O_call (known_p (by_ b 0 : Int)) (by rfl) (by rfl) (by rfl) (by rfl) (fun r hr => ?_)
  subst hr
  repeat (first | refine sc rfl ?_ | refine so rfl ?_ | refine sb rfl ?_ | refine C_scope ?_)
  refine C_if rfl (fun h1 => ?_) (fun h1 => ?_) <;> simp only [Bool.not_eq_true', Bool.not_eq_false', decide_eq_true_eq, decide_eq_false_iff_not] at h1
  · repeat (first | refine sc rfl ?_ | refine so rfl ?_ | refine sb rfl ?_ | refine C_scope ?_)
    exact ⟨_, rfl, rfl, fin 4 (by unfold headE; rw [if_neg (by omega), if_pos (by omega)]) (by decide)⟩
  repeat (first | refine sc rfl ?_ | refine so rfl ?_ | refine sb rfl ?_ | refine C_scope ?_)
  refine C_if rfl (fun h2 => ?_) (fun h2 => ?_) <;> simp only [decide_eq_true_eq, decide_eq_false_iff_not] at h2
  · repeat (first | refine sc rfl ?_ | refine so rfl ?_ | refine sb rfl ?_ | refine C_scope ?_)
    exact ⟨_, rfl, rfl, fin 3 (by unfold headE; rw [if_neg (by omega), if_neg (by omega), if_pos (by omega)]) (by decide)⟩
  repeat (first | refine sc rfl ?_ | refine so rfl ?_ | refine sb rfl ?_ | refine C_scope ?_)
  refine C_drawD rfl (by kernel_rfl) ?_
  repeat (first | refine sd rfl ?_ | refine And.intro (by omega) ?_ | refine And.intro (by decide) ?_)
  rw [show IntKind.i64.wrap ((b.getD (Int.toNat 1) 0).toNat : Int) = (by_ b 1 : Int) from byte_prog b 1]
  repeat (first | refine sc rfl ?_ | refine so rfl ?_ | refine sb rfl ?_ | refine C_scope ?_)
  refine ⟨_, rfl, rfl, ?_⟩
  have h3 : headE b = 0 := by unfold headE; rw [if_neg (by omega), if_neg (by omega), if_neg (by omega)]
  unfold headA
  rw [if_pos h3]

def frE (b : List UInt8) : Int := if headE b = 0 then (if b.length - 4 < lenB b then 2 else 0) else headE b
def frA (b : List UInt8) : AV := if frE b = 0 then .tup [.agg [I64 (by_ b 0 : Nat), I64 (by_ b 1 : Nat), .s ((b.drop 4).take (lenB b))], I64 ((4 + lenB b : Nat) : Int), I64 0] else .tup [.agg [I64 0, I64 0, .s []], I64 0, I64 (frE b)]

theorem fTake_p (b : List UInt8) (hb : b.length ≤ 9223372036854775000) : FnP Try.prog 101 [.s b] (· = frA b) := by
  refine FnP.intro Try.tabOK Try.wide_ Try.func101 rfl (by decide) rfl (fun X => ?_)
  have fin : ∀ e : Int, frE b = e → e ≠ 0 → AV.tup [.agg [I64 0, I64 0, .s []], I64 0, I64 e] = frA b := fun e h h0 => by
    unfold frA; rw [if_neg (by rw [h]; exact h0), h]
  have hl := lenB_lt b
  repeat (first | refine sc rfl ?_ | refine so rfl ?_ | refine sb rfl ?_ | refine C_scope ?_)
  refine O_call (Head_p b hb) (by rfl) (by rfl) (by rfl) (by rfl) (fun r hr => ?_)
  subst hr
  by_cases h0 : headE b = 0
  · have h4 : 4 ≤ b.length := by
      unfold headE at h0
      split at h0
      · cases h0
      · omega
    rw [show headA b = .tup [I64 (by_ b 0 : Nat), I64 (by_ b 1 : Nat), I64 (lenB b : Nat), I64 0] by unfold headA; rw [if_pos h0]]
    repeat (first | refine sc rfl ?_ | refine so rfl ?_ | refine sb rfl ?_ | refine C_scope ?_)
    refine C_false rfl rfl ?_
    repeat (first | refine sc rfl ?_ | refine so rfl ?_ | refine sb rfl ?_ | refine C_scope ?_)
    rw [w64 (x := (b.length : Int) - 4) (by omega) (by omega)]
    refine C_if rfl (fun h2 => ?_) (fun h2 => ?_) <;> simp only [decide_eq_true_eq, decide_eq_false_iff_not] at h2
    · repeat (first | refine sc rfl ?_ | refine so rfl ?_ | refine sb rfl ?_ | refine C_scope ?_)
      exact ⟨_, rfl, rfl, fin 2 (by unfold frE; rw [if_pos h0, if_pos (by omega)]) (by decide)⟩
    · repeat (first | refine sc rfl ?_ | refine so rfl ?_ | refine sb rfl ?_ | refine C_scope ?_)
      rw [w64 (by omega) (by omega)]
      repeat (first | refine sc rfl ?_ | refine so rfl ?_ | refine sb rfl ?_ | refine C_scope ?_ | refine And.intro (by omega) ?_)
      refine ⟨_, rfl, rfl, ?_⟩
      have h3 : frE b = 0 := by unfold frE; rw [if_pos h0, if_neg (by omega)]
      unfold frA
      rw [if_pos h3, show ((4 : Int) + (lenB b : Int)).toNat - Int.toNat 4 = lenB b by omega]
      rfl
  · rw [show headA b = .tup [I64 0, I64 0, I64 0, I64 (headE b)] by unfold headA; rw [if_neg h0]]
    repeat (first | refine sc rfl ?_ | refine so rfl ?_ | refine sb rfl ?_ | refine C_scope ?_)
    refine C_true rfl (by simpa using h0) ?_
    repeat (first | refine sc rfl ?_ | refine so rfl ?_ | refine sb rfl ?_ | refine C_scope ?_)
    exact ⟨_, rfl, rfl, fin _ (by unfold frE; rw [if_neg h0]) h0⟩
theorem lenB_ref (b : List UInt8) : IntKind.i64.wrap (IntKind.i64.wrap (IntKind.i64.wrap ((b.getD (Int.toNat 2) 0).toNat : Int) * 256) + IntKind.i64.wrap ((b.getD (Int.toNat 3) 0).toNat : Int)) = (lenB b : Int) := by
  have h0 := by_lt b 2
  have h1 := by_lt b 3
  show IntKind.i64.wrap (IntKind.i64.wrap (IntKind.i64.wrap (by_ b 2 : Int) * 256) + IntKind.i64.wrap (by_ b 3 : Int)) = _
  rw [w64 (x := (by_ b 2 : Int)) (by omega) (by omega), w64 (x := (by_ b 3 : Int)) (by omega) (by omega), w64 (x := (by_ b 2 : Int) * 256) (by omega) (by omega), w64 (by omega) (by omega)]
  unfold lenB
  omega

def fr5A (b : List UInt8) : AV → Prop := fun r => ∃ m : Int, r = (if frE b = 0 then .tup [.agg [I64 (by_ b 0 : Nat), I64 (by_ b 1 : Nat), .s ((b.drop 4).take (lenB b))], I64 (lenB b : Nat), I64 0] else .tup [.agg [I64 0, I64 0, .s []], I64 m, I64 (frE b)])

theorem refTake05_p (b : List UInt8) (hb : b.length ≤ 9223372036854775000) : FnP Try.prog 102 [.s b] (fr5A b) := by
  refine FnP.intro Try.tabOK Try.wide_ Try.func102 rfl (by decide) rfl (fun X => ?_)
  have fin : ∀ (e m : Int), frE b = e → e ≠ 0 → fr5A b (.tup [.agg [I64 0, I64 0, .s []], I64 m, I64 e]) := fun e m h h0 => ⟨m, by rw [if_neg (by rw [h]; exact h0), h]⟩
  have hl := lenB_lt b
  have b0 := by_lt b 0
  have b1 := by_lt b 1
  repeat (first | refine sc rfl ?_ | refine so rfl ?_ | refine sb rfl ?_)
  refine C_if rfl (fun h => ?_) (fun h => ?_) <;> simp only [decide_eq_true_eq, decide_eq_false_iff_not] at h
  · repeat (first | refine sc rfl ?_ | refine so rfl ?_ | refine sb rfl ?_)
    exact ⟨_, rfl, rfl, fin 2 _ (by unfold frE headE; rw [if_pos (show b.length < 4 by omega), if_neg (by decide)]) (by decide)⟩
  repeat (first | refine sc rfl ?_ | refine so rfl ?_ | refine sb rfl ?_ | refine And.intro (by omega) ?_)
  refine O_join ⟨[(0, .s b), (2, .bp 2 0), (17, B (decide (¬ (1 ≤ by_ b 0 ∧ by_ b 0 ≤ 9))))], [.box 2 64 [I64 0, I64 0, .s []]]⟩ ?_ (fun s h => C_le _ h ?_)
  · have fin2 : ∀ x : Bool, x = decide (¬ (1 ≤ by_ b 0 ∧ by_ b 0 ≤ 9)) → some (B x) = some (B (decide (¬ (1 ≤ by_ b 0 ∧ by_ b 0 ≤ 9)))) := fun x hb => by rw [hb]
    rw [show ((b.getD (Int.toNat 0) 0).toNat : Int) = (by_ b 0 : Int) from rfl]
    refine O_case 13 rfl (fun h5 => ?_) (fun h5 => ?_) <;> simp at h5 <;> repeat (first | refine sc rfl ?_ | refine so rfl ?_ | refine sb rfl ?_ | refine And.intro (by omega) ?_)
    · exact Le.sub [2] ⟨rfl, rfl, fin2 _ (by rw [Bool.eq_iff_iff]; simp; omega), trivial⟩ rfl
    · rw [show ((b.getD (Int.toNat 0) 0).toNat : Int) = (by_ b 0 : Int) from rfl]
      exact Le.sub [2] ⟨rfl, rfl, fin2 _ (by rw [Bool.eq_iff_iff]; simp; omega), trivial⟩ rfl
  refine C_if rfl (fun h1 => ?_) (fun h1 => ?_) <;> simp only [decide_eq_true_eq, decide_eq_false_iff_not, Decidable.not_not] at h1
  · repeat (first | refine sc rfl ?_ | refine so rfl ?_ | refine sb rfl ?_)
    exact ⟨_, rfl, rfl, fin 4 _ (by unfold frE headE; rw [if_neg (show ¬ b.length < 4 by omega), if_pos h1, if_neg (by decide)]) (by decide)⟩
  repeat (first | refine sc rfl ?_ | refine so rfl ?_ | refine sb rfl ?_)
  refine C_drawD rfl (by kernel_rfl) ?_
  repeat (first | refine sd rfl ?_ | refine And.intro (by omega) ?_ | refine And.intro (by decide) ?_)
  rw [lenB_ref]
  repeat (first | refine sc rfl ?_ | refine so rfl ?_ | refine sb rfl ?_)
  have hE0 : headE b = if 1024 < lenB b then 3 else 0 := by unfold headE; rw [if_neg (show ¬ b.length < 4 by omega), if_neg (by omega)]
  refine C_if rfl (fun h2 => ?_) (fun h2 => ?_) <;> simp only [decide_eq_true_eq, decide_eq_false_iff_not] at h2
  · repeat (first | refine sc rfl ?_ | refine so rfl ?_ | refine sb rfl ?_)
    exact ⟨_, rfl, rfl, fin 3 _ (by unfold frE; rw [hE0, if_pos (show 1024 < lenB b by omega), if_neg (by decide)]) (by decide)⟩
  rw [if_neg (by omega)] at hE0
  repeat (first | refine sc rfl ?_ | refine so rfl ?_ | refine sb rfl ?_)
  rw [w64 (x := 4 + (lenB b : Int)) (by omega) (by omega)]
  refine C_if rfl (fun h3 => ?_) (fun h3 => ?_) <;> simp only [decide_eq_true_eq, decide_eq_false_iff_not] at h3
  · repeat (first | refine sc rfl ?_ | refine so rfl ?_ | refine sb rfl ?_)
    exact ⟨_, rfl, rfl, fin 2 _ (by unfold frE; rw [hE0, if_pos rfl, if_pos (by omega)]) (by decide)⟩
  repeat (first | refine sc rfl ?_ | refine so rfl ?_ | refine sb rfl ?_)
  have hF : frE b = 0 := by unfold frE; rw [hE0, if_pos rfl, if_neg (by omega)]
  refine C_drawS (fun fl => [.box 2 64 (if fl then [I64 (by_ b 0 : Nat), I64 (by_ b 1 : Nat), .s ((b.drop 4).take (lenB b))] else [I64 0, I64 0, .s []])]) 12 rfl rfl (by kernel_rfl) ?_
  repeat (first | refine ss rfl ?_ | refine And.intro (by omega) ?_ | refine And.intro trivial ?_)
  rw [w64 (by omega) (by omega)]
  refine And.intro (by omega) ?_
  rw [show IntKind.i64.wrap ((b.getD (Int.toNat 0) 0).toNat : Int) = (by_ b 0 : Int) from byte_prog b 0, show IntKind.i64.wrap ((b.getD (Int.toNat 1) 0).toNat : Int) = (by_ b 1 : Int) from byte_prog b 1,
    show List.take (((4 : Int) + (lenB b : Int)).toNat - Int.toNat 4) (List.drop (Int.toNat 4) b) = (b.drop 4).take (lenB b) by rw [show ((4 : Int) + (lenB b : Int)).toNat - Int.toNat 4 = lenB b by omega]; rfl]
  repeat (first | refine ss rfl ?_ | refine And.intro trivial ?_)
  refine S_store (k := 2) (cells := [I64 0, I64 0, .s []]) (new := [I64 (by_ b 0 : Nat), I64 (by_ b 1 : Nat), .s ((b.drop 4).take (lenB b))]) (c := []) (tt := 64) rfl rfl rfl rfl rfl rfl rfl rfl ?_
  repeat (first | refine ss rfl ?_ | refine And.intro trivial ?_)
  repeat (first | refine sc rfl ?_ | refine so rfl ?_ | refine sb rfl ?_)
  exact ⟨_, rfl, rfl, 0, by rw [if_pos hF]; rfl⟩


def askK (k : Int) : Bool := decide (k = 2 ∨ k = 3 ∨ k = 4 ∨ k = 6 ∨ k = 7)
end Go.Proofs
