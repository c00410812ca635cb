/- The law ReplyBack. -/
import Derived.Test.YtgdlhcaidfokkaaDoorD46
import Derived.Test.YtgdlhcaidfokkaaDoorEa
set_option linter.unusedSimpArgs false
set_option linter.unusedVariables false
set_option maxRecDepth 100000
namespace Go.Proofs
open Go.Sy Go.Lib

theorem tkR_nil : tkR [] = none := by
  unfold tkR
  rw [if_neg (by rintro ⟨h, _⟩; revert h; decide)]
theorem rput_cases (n : Nat) (st : Int) (d : List UInt8) : rputE n st d = 0 ∨ (rputE n st d = 1 ∧ rputL n st d = [] ∧ ¬ (0 ≤ st ∧ st ≤ 1048576)) ∨ (rputE n st d = 3 ∧ rputL n st d = [] ∧ 0 ≤ st ∧ st ≤ 1048576 ∧ ¬ (rp n st d).length ≤ 1022) := by
  rw [rput_is]
  by_cases h : 0 ≤ st ∧ st ≤ 1048576
  · by_cases h2 : (rp n st d).length ≤ 1022
    · left; rw [if_pos h, if_pos h2]
    · right; right
      rw [if_pos h, if_neg h2]
      refine ⟨rfl, ?_, h.1, h.2, h2⟩
      unfold rputL
      rw [if_pos h, if_neg (fun h3 => h2 ((clsE_iff _).1 h3))]
  · right; left
    rw [if_neg h]
    refine ⟨rfl, ?_, h⟩
    unfold rputL
    rw [if_neg h]
theorem fail_ok (n : Nat) (st : Int) (hn : n < 18446744073709551616) : tkR (rfail n st) = some (n, (if 0 ≤ st ∧ st ≤ 1048576 then st else 1).toNat, []) := by
  obtain ⟨q, hq⟩ : ∃ q, (if 0 ≤ st ∧ st ≤ 1048576 then st else 1) = q := ⟨_, rfl⟩
  have hb : 0 ≤ q ∧ q ≤ 1048576 := by rw [← hq]; split <;> omega
  unfold rfail
  rw [hq]
  refine take_of_put hn ?_
  have l1 := vput_len10 (n := q.toNat) (by omega)
  have l2 := vput_len10 hn
  rw [rput_is, if_pos hb, if_pos (by rw [rp_len]; simp; omega)]
theorem rfail_len (n : Nat) (st : Int) : (rfail n st).length ≤ 1028 := by
  unfold rfail
  rcases rput_cases n (if 0 ≤ st ∧ st ≤ 1048576 then st else 1) [] with h | ⟨_, h, _⟩ | ⟨_, h, _⟩
  · obtain ⟨_, _, _, h2⟩ := rput_ok h
    rw [h2]
    have := padL_le (rp n (if 0 ≤ st ∧ st ≤ 1048576 then st else 1) [])
    simp only [List.length_append, List.length_cons, List.length_nil]
    omega
  · rw [h]; simp
  · rw [h]; simp

def rid (Y : Option (Nat × Nat × List UInt8)) : Nat := match Y with | none => 0 | some (i, _, _) => i
def rst (Y : Option (Nat × Nat × List UInt8)) : Nat := match Y with | none => 0 | some (_, s, _) => s
def rdat (Y : Option (Nat × Nat × List UInt8)) : List UInt8 := match Y with | none => [] | some (_, _, d) => d
def rer (Y : Option (Nat × Nat × List UInt8)) : Int := match Y with | none => 1 | some _ => 0
theorem rA_eq (Y : Option (Nat × Nat × List UInt8)) : rA Y = .tup [.agg [U64 (rid Y : Nat), I64 (rst Y : Nat), .s (rdat Y)], I64 (rer Y)] := by
  cases Y with
  | none => rfl
  | some y => obtain ⟨i, s, d⟩ := y; rfl
theorem rer_put {b : List UInt8} (h : rer (tkR b) = 0) : rid (tkR b) < 18446744073709551616 ∧ rputE (rid (tkR b)) (rst (tkR b) : Nat) (rdat (tkR b)) = 0 ∧ rputL (rid (tkR b)) (rst (tkR b) : Nat) (rdat (tkR b)) = b := by
  cases hy : tkR b with
  | none => rw [hy] at h; cases h
  | some y =>
    obtain ⟨i, s, d⟩ := y
    obtain ⟨h1, h2, h3, h4⟩ := put_of_take hy
    exact ⟨h2, h3, h4⟩
theorem rdat_len (b : List UInt8) : (rdat (tkR b)).length ≤ b.length := by
  cases hy : tkR b with
  | none => simp [rdat]
  | some y =>
    obtain ⟨i, s, d⟩ := y
    show d.length ≤ b.length
    unfold tkR at hy
    split at hy
    case isFalse => cases hy
    split at hy
    case isFalse => cases hy
    split at hy
    case isFalse => cases hy
    simp only [Option.some.injEq, Prod.mk.injEq] at hy
    rw [← hy.2.2, List.length_drop]
    have := unp_len (b.drop 4)
    rw [List.length_drop] at this
    omega

theorem lawRBack_p (n : Nat) (st : Int) (d b : List UInt8) (hn : n < 18446744073709551616) (hd : d.length ≤ 140737488355308) (hb : b.length ≤ 140737488355308) : FnP Tryd.prog 10 [.agg [U64 (n : Int), I64 st, .s d], .s b] (· = B true) := by
  refine FnP.intro Tryd.tabOK Tryd.wide_ Tryd.func10 rfl (by decide) rfl (fun X => ?_)
  repeat (first | refine sc rfl ?_ | refine so rfl ?_ | refine sb rfl ?_)
  refine O_call (ours35_p (n : Int) st d) (by rfl) (by rfl) (by rfl) (by rfl) (fun r hr => ?_)
  subst hr
  repeat (first | refine sc rfl ?_ | refine so rfl ?_ | refine sb rfl ?_)
  refine O_call (rPut_p n st d hn hd) (by rfl) (by rfl) (by rfl) (by rfl) (fun r hr => ?_)
  subst hr
  repeat (first | refine sc rfl ?_ | refine so rfl ?_ | refine sb rfl ?_)
  have hc := rput_cases n st d
  have hT : rputE n st d = 0 → tkR (rputL n st d) = some (n, st.toNat, d) := take_of_put hn
  have hst0 : rputE n st d = 0 → 0 ≤ st ∧ st ≤ 1048576 := fun h => let ⟨h1, h2, _⟩ := rput_ok h; ⟨h1, h2⟩
  have hLl : (rputL n st d).length ≤ 1028 := by
    rcases hc with h | ⟨_, h, _⟩ | ⟨_, h, _⟩
    · obtain ⟨_, _, _, h2⟩ := rput_ok h
      rw [h2]
      have := padL_le (rp n st d)
      simp only [List.length_append, List.length_cons, List.length_nil]
      omega
    · rw [h]; simp
    · rw [h]; simp
  obtain ⟨A, hA⟩ : ∃ A, rputL n st d = A := ⟨_, rfl⟩
  obtain ⟨E, hE⟩ : ∃ A, rputE n st d = A := ⟨_, rfl⟩
  rw [hA, hE] at hc hT ⊢
  rw [hE] at hst0
  rw [hA] at hLl
  refine O_call (rTake_p A (by omega)) (by rfl) (by rfl) (by rfl) (by rfl) (fun r hr => ?_)
  subst hr
  rcases hc with hc | ⟨hc, hc2, hc3⟩ | ⟨hc, hc2, hc3⟩
  case' inl =>
    subst hc
    obtain ⟨s1, s2⟩ := hst0 rfl
    rw [hT rfl]
    have e1 : rA (some (n, st.toNat, d)) = .tup [.agg [U64 (n : Nat), I64 st, .s d], I64 0] := by
      show AV.tup [.agg [U64 (n : Nat), I64 ((st.toNat : Nat) : Int), .s d], I64 0] = _
      rw [show ((st.toNat : Nat) : Int) = st by omega]
    rw [e1]
    repeat (first | refine sc rfl ?_ | refine so rfl ?_ | refine sb rfl ?_)
    refine C_drawD rfl (by kernel_rfl) ?_
    repeat (first | refine sd rfl ?_)
    refine D_call (ours35_p (n : Int) st d) rfl rfl rfl rfl ?_
    refine D_ne35 rfl rfl rfl rfl ?_
    repeat (first | refine sd rfl ?_)
    repeat (first | refine sc rfl ?_ | refine so rfl ?_ | refine sb rfl ?_)
    refine C_false rfl rfl ?_
    repeat (first | refine sc rfl ?_ | refine so rfl ?_ | refine sb rfl ?_)
    refine O_join ⟨[(1, .s b), (2, .bp 2 0), (6, I64 0), (9, B (decide (0 ≤ st ∧ st ≤ 1048576)))], [.box 2 33 [U64 (n : Int), I64 st, .s d]]⟩ ?_ (fun s' h' => C_le _ h' ?_)
    · have fin : ∀ x : Bool, x = decide (0 ≤ st ∧ st ≤ 1048576) → some (B x) = some (B (decide (0 ≤ st ∧ st ≤ 1048576))) := fun x hb => by rw [hb]
      refine O_case 50 rfl (fun h5 => ?_) (fun h5 => ?_) <;> simp only [decide_eq_true_eq, decide_eq_false_iff_not] at h5 <;> repeat (first | refine sc rfl ?_ | refine so rfl ?_ | refine sb rfl ?_)
      · exact Le.sub [2] ⟨rfl, rfl, rfl, fin _ (by rw [Bool.eq_iff_iff]; simp only [decide_eq_true_eq]; omega), trivial⟩ rfl
      · exact Le.sub [2] ⟨rfl, rfl, rfl, fin _ (by rw [Bool.eq_iff_iff]; simp only [decide_eq_true_eq, Bool.false_eq_true, false_iff]; omega), trivial⟩ rfl
    repeat (first | refine sc rfl ?_ | refine so rfl ?_ | refine sb rfl ?_)
    refine O_join ⟨[(1, .s b), (2, .bp 2 0), (9, B (decide (0 ≤ st ∧ st ≤ 1048576))), (79, B false)], [.box 2 33 [U64 (n : Int), I64 st, .s d]]⟩ ?_ (fun s' h' => C_le _ h' ?_)
    · refine O_false 57 rfl (by rw [decide_eq_true ⟨s1, s2⟩]; rfl) ?_
      repeat (first | refine sc rfl ?_ | refine so rfl ?_ | refine sb rfl ?_)
      refine O_true 63 rfl (decide_eq_true ⟨s1, s2⟩) ?_
      repeat (first | refine sc rfl ?_ | refine so rfl ?_ | refine sb rfl ?_)
      refine O_case 68 rfl (fun h5 => ?_) (fun h5 => ?_) <;> repeat (first | refine sc rfl ?_ | refine so rfl ?_ | refine sb rfl ?_)
      · refine O_call (Long_p d.length) (by rfl) (by rfl) (by rfl) (by rfl) (fun r hr => ?_)
        subst hr
        repeat (first | refine sc rfl ?_ | refine so rfl ?_ | refine sb rfl ?_)
        refine O_case 75 rfl (fun h6 => ?_) (fun h6 => ?_) <;> repeat (first | refine sc rfl ?_ | refine so rfl ?_ | refine sb rfl ?_)
        · exact Le.sub [2] ⟨rfl, rfl, rfl, rfl, trivial⟩ rfl
        · exact Le.sub [2] ⟨rfl, rfl, rfl, rfl, trivial⟩ rfl
      · exact Le.sub [2] ⟨rfl, rfl, rfl, rfl, trivial⟩ rfl
  case' inr.inl =>
    subst hc hc2
    rw [tkR_nil]
    unfold rA
    repeat (first | refine sc rfl ?_ | refine so rfl ?_ | refine sb rfl ?_)
    refine C_drawD rfl (by kernel_rfl) ?_
    repeat (first | refine sd rfl ?_)
    repeat (first | refine sc rfl ?_ | refine so rfl ?_ | refine sb rfl ?_)
    refine C_false rfl rfl ?_
    repeat (first | refine sc rfl ?_ | refine so rfl ?_ | refine sb rfl ?_)
    refine O_join ⟨[(1, .s b), (2, .bp 2 0), (6, I64 1), (9, B (decide (0 ≤ st ∧ st ≤ 1048576)))], [.box 2 33 [U64 (n : Int), I64 st, .s d]]⟩ ?_ (fun s' h' => C_le _ h' ?_)
    · have fin : ∀ x : Bool, x = decide (0 ≤ st ∧ st ≤ 1048576) → some (B x) = some (B (decide (0 ≤ st ∧ st ≤ 1048576))) := fun x hb => by rw [hb]
      refine O_case 50 rfl (fun h5 => ?_) (fun h5 => ?_) <;> simp only [decide_eq_true_eq, decide_eq_false_iff_not] at h5 <;> repeat (first | refine sc rfl ?_ | refine so rfl ?_ | refine sb rfl ?_)
      · exact Le.sub [2] ⟨rfl, rfl, rfl, fin _ (by rw [Bool.eq_iff_iff]; simp only [decide_eq_true_eq]; omega), trivial⟩ rfl
      · exact Le.sub [2] ⟨rfl, rfl, rfl, fin _ (by rw [Bool.eq_iff_iff]; simp only [decide_eq_true_eq, Bool.false_eq_true, false_iff]; omega), trivial⟩ rfl
    repeat (first | refine sc rfl ?_ | refine so rfl ?_ | refine sb rfl ?_)
    refine O_join ⟨[(1, .s b), (2, .bp 2 0), (9, B (decide (0 ≤ st ∧ st ≤ 1048576))), (79, B false)], [.box 2 33 [U64 (n : Int), I64 st, .s d]]⟩ ?_ (fun s' h' => C_le _ h' ?_)
    · refine O_true 57 rfl (by rw [decide_eq_false hc3]; rfl) ?_
      repeat (first | refine sc rfl ?_ | refine so rfl ?_ | refine sb rfl ?_)
      refine O_false 63 rfl (decide_eq_false hc3) ?_
      repeat (first | refine sc rfl ?_ | refine so rfl ?_ | refine sb rfl ?_)
      exact Le.sub [2] ⟨rfl, rfl, rfl, rfl, trivial⟩ rfl
  case' inr.inr =>
    subst hc hc2
    rw [tkR_nil]
    unfold rA
    repeat (first | refine sc rfl ?_ | refine so rfl ?_ | refine sb rfl ?_)
    refine C_drawD rfl (by kernel_rfl) ?_
    repeat (first | refine sd rfl ?_)
    repeat (first | refine sc rfl ?_ | refine so rfl ?_ | refine sb rfl ?_)
    refine C_false rfl rfl ?_
    repeat (first | refine sc rfl ?_ | refine so rfl ?_ | refine sb rfl ?_)
    refine O_join ⟨[(1, .s b), (2, .bp 2 0), (6, I64 3), (9, B (decide (0 ≤ st ∧ st ≤ 1048576)))], [.box 2 33 [U64 (n : Int), I64 st, .s d]]⟩ ?_ (fun s' h' => C_le _ h' ?_)
    · have fin : ∀ x : Bool, x = decide (0 ≤ st ∧ st ≤ 1048576) → some (B x) = some (B (decide (0 ≤ st ∧ st ≤ 1048576))) := fun x hb => by rw [hb]
      refine O_case 50 rfl (fun h5 => ?_) (fun h5 => ?_) <;> simp only [decide_eq_true_eq, decide_eq_false_iff_not] at h5 <;> repeat (first | refine sc rfl ?_ | refine so rfl ?_ | refine sb rfl ?_)
      · exact Le.sub [2] ⟨rfl, rfl, rfl, fin _ (by rw [Bool.eq_iff_iff]; simp only [decide_eq_true_eq]; omega), trivial⟩ rfl
      · exact Le.sub [2] ⟨rfl, rfl, rfl, fin _ (by rw [Bool.eq_iff_iff]; simp only [decide_eq_true_eq, Bool.false_eq_true, false_iff]; omega), trivial⟩ rfl
    repeat (first | refine sc rfl ?_ | refine so rfl ?_ | refine sb rfl ?_)
    refine O_join ⟨[(1, .s b), (2, .bp 2 0), (9, B (decide (0 ≤ st ∧ st ≤ 1048576))), (79, B false)], [.box 2 33 [U64 (n : Int), I64 st, .s d]]⟩ ?_ (fun s' h' => C_le _ h' ?_)
    · have s12 : 0 ≤ st ∧ st ≤ 1048576 := ⟨hc3.1, hc3.2.1⟩
      refine O_false 57 rfl (by rw [decide_eq_true s12]; rfl) ?_
      repeat (first | refine sc rfl ?_ | refine so rfl ?_ | refine sb rfl ?_)
      refine O_true 63 rfl (decide_eq_true s12) ?_
      repeat (first | refine sc rfl ?_ | refine so rfl ?_ | refine sb rfl ?_)
      refine O_case 68 rfl (fun h5 => ?_) (fun h5 => ?_) <;> repeat (first | refine sc rfl ?_ | refine so rfl ?_ | refine sb rfl ?_)
      · refine O_call (Long_p d.length) (by rfl) (by rfl) (by rfl) (by rfl) (fun r hr => ?_)
        subst hr
        repeat (first | refine sc rfl ?_ | refine so rfl ?_ | refine sb rfl ?_)
        have h7 : 1011 < (d.length : Int) := by
          refine Int.not_le.1 fun h8 => hc3.2.2 ?_
          have l2 := vput_len10 hn
          have h9 : st < 128 := of_decide_eq_true h5
          rw [rp_len, vput_lt (by omega)]
          simp only [List.length_cons, List.length_nil]
          omega
        refine O_false 75 rfl (by rw [decide_eq_true h7]; rfl) ?_
        repeat (first | refine sc rfl ?_ | refine so rfl ?_ | refine sb rfl ?_)
        exact Le.sub [2] ⟨rfl, rfl, rfl, rfl, trivial⟩ rfl
      · exact Le.sub [2] ⟨rfl, rfl, rfl, rfl, trivial⟩ rfl
  all_goals
    clear hT hst0 hLl hA hE
    refine C_false rfl rfl ?_
    repeat (first | refine sc rfl ?_ | refine so rfl ?_ | refine sb rfl ?_)
    refine O_call (rTake_p b (by omega)) (by rfl) (by rfl) (by rfl) (by rfl) (fun r hr => ?_)
    subst hr
    rw [rA_eq]
    have hrp := @rer_put b
    have hdl := rdat_len b
    obtain ⟨Y, hY⟩ : ∃ Y, tkR b = Y := ⟨_, rfl⟩
    rw [hY] at hrp hdl ⊢
    repeat (first | refine sc rfl ?_ | refine so rfl ?_ | refine sb rfl ?_)
    refine C_ifJ ⟨[(2, .bp 2 0), (9, B (decide (0 ≤ st ∧ st ≤ 1048576)))], [.box 2 33 [U64 (n : Int), I64 st, .s d]]⟩ rfl (fun h1 => ?_) (fun h1 => ?_) (fun s' h' => C_le _ h' ?_)
    · obtain ⟨g1, g2, g3⟩ := hrp (by simpa using h1)
      repeat (first | refine sc rfl ?_ | refine so rfl ?_ | refine sb rfl ?_)
      refine O_call (rPut_p (rid Y) (rst Y : Nat) (rdat Y) g1 (by omega)) (by rfl) (by rfl) (by rfl) (by rfl) (fun r hr => ?_)
      subst hr
      rw [g2, g3]
      repeat (first | refine sc rfl ?_ | refine so rfl ?_ | refine sb rfl ?_)
      refine O_false 95 rfl (by simp) ?_
      repeat (first | refine sc rfl ?_ | refine so rfl ?_ | refine sb rfl ?_)
      refine C_false rfl rfl ?_
      repeat (first | refine sc rfl ?_ | refine so rfl ?_ | refine sb rfl ?_)
      exact Le.sub [2] ⟨rfl, rfl, trivial⟩ rfl
    · repeat (first | refine sc rfl ?_ | refine so rfl ?_ | refine sb rfl ?_)
      exact Le.sub [2] ⟨rfl, rfl, trivial⟩ rfl
    repeat (first | refine sc rfl ?_ | refine so rfl ?_ | refine sb rfl ?_)
    refine O_call (rFail_p n st hn) (by rfl) (by rfl) (by rfl) (by rfl) (fun r hr => ?_)
    subst hr
    have hfl := rfail_len n st
    have hfo := fail_ok n st hn
    generalize rfail n st = F at *
    repeat (first | refine sc rfl ?_ | refine so rfl ?_ | refine sb rfl ?_)
    refine O_call (rTake_p F (by omega)) (by rfl) (by rfl) (by rfl) (by rfl) (fun r hr => ?_)
    subst hr
    obtain ⟨q, hq⟩ : ∃ q, (if 0 ≤ st ∧ st ≤ 1048576 then st else 1) = q := ⟨_, rfl⟩
    rw [hq] at hfo
    rw [hfo, show rA (some (n, q.toNat, [])) = AV.tup [.agg [U64 (n : Nat), I64 ((q.toNat : Nat) : Int), .s []], I64 0] from rfl]
    by_cases hm : 0 ≤ st ∧ st ≤ 1048576
    · rw [if_pos hm] at hq
      subst hq
      rw [show ((st.toNat : Nat) : Int) = st by omega]
      repeat (first | refine sc rfl ?_ | refine so rfl ?_ | refine sb rfl ?_)
      refine O_true 117 rfl (by simp) ?_
      repeat (first | refine sc rfl ?_ | refine so rfl ?_ | refine sb rfl ?_)
      refine O_true 128 rfl (by simp) ?_
      repeat (first | refine sc rfl ?_ | refine so rfl ?_ | refine sb rfl ?_)
      refine O_call awake35_p (by rfl) (by rfl) (by rfl) (by rfl) (fun r hr => ?_)
      subst hr
      repeat (first | refine sc rfl ?_ | refine so rfl ?_ | refine sb rfl ?_)
      exact ⟨_, rfl, rfl, rfl⟩
    · rw [if_neg hm] at hq
      subst hq
      repeat (first | refine sc rfl ?_ | refine so rfl ?_ | refine sb rfl ?_)
      refine O_true 117 rfl (by simp) ?_
      repeat (first | refine sc rfl ?_ | refine so rfl ?_ | refine sb rfl ?_)
      refine O_false 128 rfl (by simp; omega) ?_
      repeat (first | refine sc rfl ?_ | refine so rfl ?_ | refine sb rfl ?_)
      refine O_true 131 rfl (by rw [decide_eq_false hm]; rfl) ?_
      repeat (first | refine sc rfl ?_ | refine so rfl ?_ | refine sb rfl ?_)
      refine O_call awake35_p (by rfl) (by rfl) (by rfl) (by rfl) (fun r hr => ?_)
      subst hr
      repeat (first | refine sc rfl ?_ | refine so rfl ?_ | refine sb rfl ?_)
      exact ⟨_, rfl, rfl, rfl⟩
end Go.Proofs
