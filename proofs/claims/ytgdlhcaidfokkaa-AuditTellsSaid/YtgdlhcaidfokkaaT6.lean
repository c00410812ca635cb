/- Contracts, part five: the document's own Check. -/
import Derived.Test.YtgdlhcaidfokkaaT5
set_option linter.unusedSimpArgs false
set_option linter.unusedVariables false
namespace Go.Proofs
open Go.Sy

theorem refCheck_c (a b : Vw) : FnP Try.prog 20 [.agg a.cells, .agg b.cells] (· = SL 1 (fun x => [I64 x]) (chk a b)) := by
  refine FnP.intro Try.tabOK Try.wide_ Try.func20 rfl (by decide) rfl (fun X => ?_)
  repeat (first | refine sc rfl ?_ | refine so rfl ?_ | refine sb rfl ?_)
  refine O_join ⟨[(2, .bp 2 0), (3, .bp 3 0), (5, .v (.slice none 0 0)), (15, B (decide (a.q = 0 ∨ b.q = 0)))], [.box 3 37 b.cells, .box 2 37 a.cells]⟩ ?_ (fun s h => C_le _ h ?_)
  · refine O_case 10 rfl (fun h => ?_) (fun h => ?_) <;> simp at h
    · repeat (first | refine sc rfl ?_ | refine so rfl ?_ | refine sb rfl ?_)
      exact Le.sub [3, 2] ⟨rfl, rfl, rfl, congrArg (fun x => some (B x)) (by rw [Bool.eq_iff_iff]; simp; omega), trivial⟩ rfl
    · repeat (first | refine sc rfl ?_ | refine so rfl ?_ | refine sb rfl ?_)
      exact Le.sub [3, 2] ⟨rfl, rfl, rfl, congrArg (fun x => some (B x)) (by rw [Bool.eq_iff_iff]; simp; omega), trivial⟩ rfl
  repeat (first | refine sc rfl ?_ | refine so rfl ?_ | refine sb rfl ?_)
  refine C_if rfl (fun h2 => ?_) (fun h2 => ?_) <;> simp only [decide_eq_true_eq, decide_eq_false_iff_not] at h2
  · refine C_le _ (Le.conv 5 (y := SL 1 (fun x => [I64 x]) ([] : List Int)) rfl (fun e v h => Rep.nilsl h)) ?_
    repeat (first | refine sc rfl ?_ | refine so rfl ?_ | refine sb rfl ?_)
    exact ⟨_, rfl, rfl, by rw [chk, if_pos h2]⟩
  rw [show chk a b = chkU a b 9 by rw [chk, if_neg h2]]
  refine C_le _ (Le.nilvec (α := Int) (fun x => [I64 x]) 5 32 3 1 rfl rfl rfl) ?_
  have e1 : chkU a b 1 = if pas 1 a b = true then chkU a b 0 ++ [1] else chkU a b 0 := chkU_succ a b 0
  have l1 := chkU_len a b 0
  repeat (first | refine sc rfl ?_ | refine so rfl ?_ | refine sb rfl ?_)
  refine O_join ⟨[(2, .bp 2 0), (3, .bp 3 0), (5, .own 32), (29, B (pas 1 a b))], [.box 3 37 b.cells, .box 2 37 a.cells, VEC 32 3 1 (fun x => [I64 x]) (chkU a b 0)]⟩ ?_ (fun s h => C_le _ h ?_)
  · refine O_case 23 rfl (fun h => ?_) (fun h => ?_) <;> simp at h
    · repeat (first | refine sc rfl ?_ | refine so rfl ?_ | refine sb rfl ?_)
      exact Le.sub [3, 2, 32] ⟨rfl, rfl, rfl, congrArg (fun x => some (B x)) (by rw [Bool.eq_iff_iff]; simp [pas]; try omega), trivial⟩ rfl
    · repeat (first | refine sc rfl ?_ | refine so rfl ?_ | refine sb rfl ?_)
      exact Le.sub [3, 2, 32] ⟨rfl, rfl, rfl, congrArg (fun x => some (B x)) (by rw [Bool.eq_iff_iff]; simp [pas]; try omega), trivial⟩ rfl
  repeat (first | refine sc rfl ?_ | refine so rfl ?_ | refine sb rfl ?_)
  refine C_ifJ ⟨[(2, .bp 2 0), (3, .bp 3 0), (5, .own 32)], [.box 3 37 b.cells, .box 2 37 a.cells, VEC 32 3 1 (fun x => [I64 x]) (chkU a b 1)]⟩ rfl (fun h4 => ?_) (fun h4 => ?_) (fun s h => C_le _ h ?_)
  · rw [e1, if_pos h4]
    repeat (first | refine sc rfl ?_ | refine so rfl ?_ | refine sb rfl ?_)
    refine O_push (fun x => [I64 x]) (chkU a b 0) 1 [(2, .bp 2 0), (3, .bp 3 0)] rfl rfl rfl rfl rfl rfl rfl rfl rfl rfl ⟨rfl, rfl, trivial⟩ rfl rfl (by omega) (by simp only [maxLen]; omega) ?_
    repeat (first | refine sc rfl ?_ | refine so rfl ?_ | refine sb rfl ?_)
    exact Le.sub [3, 2, 32] ⟨rfl, rfl, rfl, trivial⟩ rfl
  · rw [e1, if_neg (by rw [h4]; decide)]
    repeat (first | refine sc rfl ?_ | refine so rfl ?_ | refine sb rfl ?_)
    exact Le.sub [3, 2, 32] ⟨rfl, rfl, rfl, trivial⟩ rfl
  have e2 : chkU a b 2 = if pas 2 a b = true then chkU a b 1 ++ [2] else chkU a b 1 := chkU_succ a b 1
  have l2 := chkU_len a b 1
  repeat (first | refine sc rfl ?_ | refine so rfl ?_ | refine sb rfl ?_)
  refine O_join ⟨[(2, .bp 2 0), (3, .bp 3 0), (5, .own 32), (45, B (pas 2 a b))], [.box 3 37 b.cells, .box 2 37 a.cells, VEC 32 3 1 (fun x => [I64 x]) (chkU a b 1)]⟩ ?_ (fun s h => C_le _ h ?_)
  · refine O_case 39 rfl (fun h => ?_) (fun h => ?_) <;> simp at h
    · repeat (first | refine sc rfl ?_ | refine so rfl ?_ | refine sb rfl ?_)
      exact Le.sub [3, 2, 32] ⟨rfl, rfl, rfl, congrArg (fun x => some (B x)) (by rw [Bool.eq_iff_iff]; simp [pas]; try omega), trivial⟩ rfl
    · repeat (first | refine sc rfl ?_ | refine so rfl ?_ | refine sb rfl ?_)
      exact Le.sub [3, 2, 32] ⟨rfl, rfl, rfl, congrArg (fun x => some (B x)) (by rw [Bool.eq_iff_iff]; simp [pas]; try omega), trivial⟩ rfl
  refine C_le _ (Le.rename (s2 := [(2, .bp 2 0), (3, .bp 3 0), (45, B (pas 2 a b))]) 5 48 rfl rfl ⟨rfl, rfl, rfl, trivial⟩ rfl rfl) ?_
  repeat (first | refine sc rfl ?_ | refine so rfl ?_ | refine sb rfl ?_)
  refine C_ifJ ⟨[(2, .bp 2 0), (3, .bp 3 0), (5, .own 48)], [.box 3 37 b.cells, .box 2 37 a.cells, VEC 48 3 1 (fun x => [I64 x]) (chkU a b 2)]⟩ rfl (fun h4 => ?_) (fun h4 => ?_) (fun s h => C_le _ h ?_)
  · rw [e2, if_pos h4]
    repeat (first | refine sc rfl ?_ | refine so rfl ?_ | refine sb rfl ?_)
    refine O_push (fun x => [I64 x]) (chkU a b 1) 2 [(2, .bp 2 0), (3, .bp 3 0)] rfl rfl rfl rfl rfl rfl rfl rfl rfl rfl ⟨rfl, rfl, trivial⟩ rfl rfl (by omega) (by simp only [maxLen]; omega) ?_
    repeat (first | refine sc rfl ?_ | refine so rfl ?_ | refine sb rfl ?_)
    exact Le.sub [3, 2, 48] ⟨rfl, rfl, rfl, trivial⟩ rfl
  · rw [e2, if_neg (by rw [h4]; decide)]
    repeat (first | refine sc rfl ?_ | refine so rfl ?_ | refine sb rfl ?_)
    exact Le.sub [3, 2, 48] ⟨rfl, rfl, rfl, trivial⟩ rfl
  have e3 : chkU a b 3 = if pas 3 a b = true then chkU a b 2 ++ [3] else chkU a b 2 := chkU_succ a b 2
  have l3 := chkU_len a b 2
  repeat (first | refine sc rfl ?_ | refine so rfl ?_ | refine sb rfl ?_)
  refine O_join ⟨[(2, .bp 2 0), (3, .bp 3 0), (5, .own 48), (61, B (pas 3 a b))], [.box 3 37 b.cells, .box 2 37 a.cells, VEC 48 3 1 (fun x => [I64 x]) (chkU a b 2)]⟩ ?_ (fun s h => C_le _ h ?_)
  · refine O_case 55 rfl (fun h => ?_) (fun h => ?_) <;> simp at h
    · repeat (first | refine sc rfl ?_ | refine so rfl ?_ | refine sb rfl ?_)
      exact Le.sub [3, 2, 48] ⟨rfl, rfl, rfl, congrArg (fun x => some (B x)) (by rw [Bool.eq_iff_iff]; simp [pas]; try omega), trivial⟩ rfl
    · repeat (first | refine sc rfl ?_ | refine so rfl ?_ | refine sb rfl ?_)
      exact Le.sub [3, 2, 48] ⟨rfl, rfl, rfl, congrArg (fun x => some (B x)) (by rw [Bool.eq_iff_iff]; simp [pas]; try omega), trivial⟩ rfl
  refine C_le _ (Le.rename (s2 := [(2, .bp 2 0), (3, .bp 3 0), (61, B (pas 3 a b))]) 5 64 rfl rfl ⟨rfl, rfl, rfl, trivial⟩ rfl rfl) ?_
  repeat (first | refine sc rfl ?_ | refine so rfl ?_ | refine sb rfl ?_)
  refine C_ifJ ⟨[(2, .bp 2 0), (3, .bp 3 0), (5, .own 64)], [.box 3 37 b.cells, .box 2 37 a.cells, VEC 64 3 1 (fun x => [I64 x]) (chkU a b 3)]⟩ rfl (fun h4 => ?_) (fun h4 => ?_) (fun s h => C_le _ h ?_)
  · rw [e3, if_pos h4]
    repeat (first | refine sc rfl ?_ | refine so rfl ?_ | refine sb rfl ?_)
    refine O_push (fun x => [I64 x]) (chkU a b 2) 3 [(2, .bp 2 0), (3, .bp 3 0)] rfl rfl rfl rfl rfl rfl rfl rfl rfl rfl ⟨rfl, rfl, trivial⟩ rfl rfl (by omega) (by simp only [maxLen]; omega) ?_
    repeat (first | refine sc rfl ?_ | refine so rfl ?_ | refine sb rfl ?_)
    exact Le.sub [3, 2, 64] ⟨rfl, rfl, rfl, trivial⟩ rfl
  · rw [e3, if_neg (by rw [h4]; decide)]
    repeat (first | refine sc rfl ?_ | refine so rfl ?_ | refine sb rfl ?_)
    exact Le.sub [3, 2, 64] ⟨rfl, rfl, rfl, trivial⟩ rfl
  have e4 : chkU a b 4 = if pas 4 a b = true then chkU a b 3 ++ [4] else chkU a b 3 := chkU_succ a b 3
  have l4 := chkU_len a b 3
  repeat (first | refine sc rfl ?_ | refine so rfl ?_ | refine sb rfl ?_)
  refine O_join ⟨[(2, .bp 2 0), (3, .bp 3 0), (5, .own 64), (77, B (pas 4 a b))], [.box 3 37 b.cells, .box 2 37 a.cells, VEC 64 3 1 (fun x => [I64 x]) (chkU a b 3)]⟩ ?_ (fun s h => C_le _ h ?_)
  · refine O_case 71 rfl (fun h => ?_) (fun h => ?_) <;> simp at h
    · repeat (first | refine sc rfl ?_ | refine so rfl ?_ | refine sb rfl ?_)
      exact Le.sub [3, 2, 64] ⟨rfl, rfl, rfl, congrArg (fun x => some (B x)) (by rw [Bool.eq_iff_iff]; simp [pas]; try omega), trivial⟩ rfl
    · repeat (first | refine sc rfl ?_ | refine so rfl ?_ | refine sb rfl ?_)
      exact Le.sub [3, 2, 64] ⟨rfl, rfl, rfl, congrArg (fun x => some (B x)) (by rw [Bool.eq_iff_iff]; simp [pas]; try omega), trivial⟩ rfl
  refine C_le _ (Le.rename (s2 := [(2, .bp 2 0), (3, .bp 3 0), (77, B (pas 4 a b))]) 5 80 rfl rfl ⟨rfl, rfl, rfl, trivial⟩ rfl rfl) ?_
  repeat (first | refine sc rfl ?_ | refine so rfl ?_ | refine sb rfl ?_)
  refine C_ifJ ⟨[(2, .bp 2 0), (3, .bp 3 0), (5, .own 80)], [.box 3 37 b.cells, .box 2 37 a.cells, VEC 80 3 1 (fun x => [I64 x]) (chkU a b 4)]⟩ rfl (fun h4 => ?_) (fun h4 => ?_) (fun s h => C_le _ h ?_)
  · rw [e4, if_pos h4]
    repeat (first | refine sc rfl ?_ | refine so rfl ?_ | refine sb rfl ?_)
    refine O_push (fun x => [I64 x]) (chkU a b 3) 4 [(2, .bp 2 0), (3, .bp 3 0)] rfl rfl rfl rfl rfl rfl rfl rfl rfl rfl ⟨rfl, rfl, trivial⟩ rfl rfl (by omega) (by simp only [maxLen]; omega) ?_
    repeat (first | refine sc rfl ?_ | refine so rfl ?_ | refine sb rfl ?_)
    exact Le.sub [3, 2, 80] ⟨rfl, rfl, rfl, trivial⟩ rfl
  · rw [e4, if_neg (by rw [h4]; decide)]
    repeat (first | refine sc rfl ?_ | refine so rfl ?_ | refine sb rfl ?_)
    exact Le.sub [3, 2, 80] ⟨rfl, rfl, rfl, trivial⟩ rfl
  have e5 : chkU a b 5 = if pas 5 a b = true then chkU a b 4 ++ [5] else chkU a b 4 := chkU_succ a b 4
  have l5 := chkU_len a b 4
  repeat (first | refine sc rfl ?_ | refine so rfl ?_ | refine sb rfl ?_)
  refine O_join ⟨[(2, .bp 2 0), (3, .bp 3 0), (5, .own 80), (93, B (pas 5 a b))], [.box 3 37 b.cells, .box 2 37 a.cells, VEC 80 3 1 (fun x => [I64 x]) (chkU a b 4)]⟩ ?_ (fun s h => C_le _ h ?_)
  · refine O_case 87 rfl (fun h => ?_) (fun h => ?_) <;> simp at h
    · repeat (first | refine sc rfl ?_ | refine so rfl ?_ | refine sb rfl ?_)
      exact Le.sub [3, 2, 80] ⟨rfl, rfl, rfl, congrArg (fun x => some (B x)) (by rw [Bool.eq_iff_iff]; simp [pas]; try omega), trivial⟩ rfl
    · repeat (first | refine sc rfl ?_ | refine so rfl ?_ | refine sb rfl ?_)
      exact Le.sub [3, 2, 80] ⟨rfl, rfl, rfl, congrArg (fun x => some (B x)) (by rw [Bool.eq_iff_iff]; simp [pas]; try omega), trivial⟩ rfl
  refine C_le _ (Le.rename (s2 := [(2, .bp 2 0), (3, .bp 3 0), (93, B (pas 5 a b))]) 5 96 rfl rfl ⟨rfl, rfl, rfl, trivial⟩ rfl rfl) ?_
  repeat (first | refine sc rfl ?_ | refine so rfl ?_ | refine sb rfl ?_)
  refine C_ifJ ⟨[(2, .bp 2 0), (3, .bp 3 0), (5, .own 96)], [.box 3 37 b.cells, .box 2 37 a.cells, VEC 96 3 1 (fun x => [I64 x]) (chkU a b 5)]⟩ rfl (fun h4 => ?_) (fun h4 => ?_) (fun s h => C_le _ h ?_)
  · rw [e5, if_pos h4]
    repeat (first | refine sc rfl ?_ | refine so rfl ?_ | refine sb rfl ?_)
    refine O_push (fun x => [I64 x]) (chkU a b 4) 5 [(2, .bp 2 0), (3, .bp 3 0)] rfl rfl rfl rfl rfl rfl rfl rfl rfl rfl ⟨rfl, rfl, trivial⟩ rfl rfl (by omega) (by simp only [maxLen]; omega) ?_
    repeat (first | refine sc rfl ?_ | refine so rfl ?_ | refine sb rfl ?_)
    exact Le.sub [3, 2, 96] ⟨rfl, rfl, rfl, trivial⟩ rfl
  · rw [e5, if_neg (by rw [h4]; decide)]
    repeat (first | refine sc rfl ?_ | refine so rfl ?_ | refine sb rfl ?_)
    exact Le.sub [3, 2, 96] ⟨rfl, rfl, rfl, trivial⟩ rfl
  have e6 : chkU a b 6 = if pas 6 a b = true then chkU a b 5 ++ [6] else chkU a b 5 := chkU_succ a b 5
  have l6 := chkU_len a b 5
  repeat (first | refine sc rfl ?_ | refine so rfl ?_ | refine sb rfl ?_)
  refine C_le ⟨[(2, .bp 2 0), (3, .bp 3 0), (5, .own 96), (99, B (pas 6 a b))], [.box 3 37 b.cells, .box 2 37 a.cells, VEC 96 3 1 (fun x => [I64 x]) (chkU a b 5)]⟩ (Le.sub [3, 2, 96] ⟨rfl, rfl, rfl, congrArg (fun x => some (B x)) (by rw [Bool.eq_iff_iff]; simp [pas]; try omega), trivial⟩ rfl) ?_
  refine C_le _ (Le.rename (s2 := [(2, .bp 2 0), (3, .bp 3 0), (99, B (pas 6 a b))]) 5 102 rfl rfl ⟨rfl, rfl, rfl, trivial⟩ rfl rfl) ?_
  repeat (first | refine sc rfl ?_ | refine so rfl ?_ | refine sb rfl ?_)
  refine C_ifJ ⟨[(2, .bp 2 0), (3, .bp 3 0), (5, .own 102)], [.box 3 37 b.cells, .box 2 37 a.cells, VEC 102 3 1 (fun x => [I64 x]) (chkU a b 6)]⟩ rfl (fun h4 => ?_) (fun h4 => ?_) (fun s h => C_le _ h ?_)
  · rw [e6, if_pos h4]
    repeat (first | refine sc rfl ?_ | refine so rfl ?_ | refine sb rfl ?_)
    refine O_push (fun x => [I64 x]) (chkU a b 5) 6 [(2, .bp 2 0), (3, .bp 3 0)] rfl rfl rfl rfl rfl rfl rfl rfl rfl rfl ⟨rfl, rfl, trivial⟩ rfl rfl (by omega) (by simp only [maxLen]; omega) ?_
    repeat (first | refine sc rfl ?_ | refine so rfl ?_ | refine sb rfl ?_)
    exact Le.sub [3, 2, 102] ⟨rfl, rfl, rfl, trivial⟩ rfl
  · rw [e6, if_neg (by rw [h4]; decide)]
    repeat (first | refine sc rfl ?_ | refine so rfl ?_ | refine sb rfl ?_)
    exact Le.sub [3, 2, 102] ⟨rfl, rfl, rfl, trivial⟩ rfl
  have e7 : chkU a b 7 = if pas 7 a b = true then chkU a b 6 ++ [7] else chkU a b 6 := chkU_succ a b 6
  have l7 := chkU_len a b 6
  repeat (first | refine sc rfl ?_ | refine so rfl ?_ | refine sb rfl ?_)
  refine C_le ⟨[(2, .bp 2 0), (3, .bp 3 0), (5, .own 102), (105, B (pas 7 a b))], [.box 3 37 b.cells, .box 2 37 a.cells, VEC 102 3 1 (fun x => [I64 x]) (chkU a b 6)]⟩ (Le.sub [3, 2, 102] ⟨rfl, rfl, rfl, congrArg (fun x => some (B x)) (by rw [Bool.eq_iff_iff]; simp [pas]; try omega), trivial⟩ rfl) ?_
  refine C_le _ (Le.rename (s2 := [(2, .bp 2 0), (3, .bp 3 0), (105, B (pas 7 a b))]) 5 108 rfl rfl ⟨rfl, rfl, rfl, trivial⟩ rfl rfl) ?_
  repeat (first | refine sc rfl ?_ | refine so rfl ?_ | refine sb rfl ?_)
  refine C_ifJ ⟨[(2, .bp 2 0), (3, .bp 3 0), (5, .own 108)], [.box 3 37 b.cells, .box 2 37 a.cells, VEC 108 3 1 (fun x => [I64 x]) (chkU a b 7)]⟩ rfl (fun h4 => ?_) (fun h4 => ?_) (fun s h => C_le _ h ?_)
  · rw [e7, if_pos h4]
    repeat (first | refine sc rfl ?_ | refine so rfl ?_ | refine sb rfl ?_)
    refine O_push (fun x => [I64 x]) (chkU a b 6) 7 [(2, .bp 2 0), (3, .bp 3 0)] rfl rfl rfl rfl rfl rfl rfl rfl rfl rfl ⟨rfl, rfl, trivial⟩ rfl rfl (by omega) (by simp only [maxLen]; omega) ?_
    repeat (first | refine sc rfl ?_ | refine so rfl ?_ | refine sb rfl ?_)
    exact Le.sub [3, 2, 108] ⟨rfl, rfl, rfl, trivial⟩ rfl
  · rw [e7, if_neg (by rw [h4]; decide)]
    repeat (first | refine sc rfl ?_ | refine so rfl ?_ | refine sb rfl ?_)
    exact Le.sub [3, 2, 108] ⟨rfl, rfl, rfl, trivial⟩ rfl
  have e8 : chkU a b 8 = if pas 8 a b = true then chkU a b 7 ++ [8] else chkU a b 7 := chkU_succ a b 7
  have l8 := chkU_len a b 7
  repeat (first | refine sc rfl ?_ | refine so rfl ?_ | refine sb rfl ?_)
  refine O_join ⟨[(2, .bp 2 0), (3, .bp 3 0), (5, .own 108), (119, B (pas 8 a b))], [.box 3 37 b.cells, .box 2 37 a.cells, VEC 108 3 1 (fun x => [I64 x]) (chkU a b 7)]⟩ ?_ (fun s h => C_le _ h ?_)
  · refine O_case 112 rfl (fun h => ?_) (fun h => ?_) <;> simp at h
    · repeat (first | refine sc rfl ?_ | refine so rfl ?_ | refine sb rfl ?_)
      exact Le.sub [3, 2, 108] ⟨rfl, rfl, rfl, congrArg (fun x => some (B x)) (by rw [Bool.eq_iff_iff]; simp [pas]; try omega), trivial⟩ rfl
    · repeat (first | refine sc rfl ?_ | refine so rfl ?_ | refine sb rfl ?_)
      exact Le.sub [3, 2, 108] ⟨rfl, rfl, rfl, congrArg (fun x => some (B x)) (by rw [Bool.eq_iff_iff]; simp [pas]; try omega), trivial⟩ rfl
  refine C_le _ (Le.rename (s2 := [(2, .bp 2 0), (3, .bp 3 0), (119, B (pas 8 a b))]) 5 122 rfl rfl ⟨rfl, rfl, rfl, trivial⟩ rfl rfl) ?_
  repeat (first | refine sc rfl ?_ | refine so rfl ?_ | refine sb rfl ?_)
  refine C_ifJ ⟨[(2, .bp 2 0), (3, .bp 3 0), (5, .own 122)], [.box 3 37 b.cells, .box 2 37 a.cells, VEC 122 3 1 (fun x => [I64 x]) (chkU a b 8)]⟩ rfl (fun h4 => ?_) (fun h4 => ?_) (fun s h => C_le _ h ?_)
  · rw [e8, if_pos h4]
    repeat (first | refine sc rfl ?_ | refine so rfl ?_ | refine sb rfl ?_)
    refine O_push (fun x => [I64 x]) (chkU a b 7) 8 [(2, .bp 2 0), (3, .bp 3 0)] rfl rfl rfl rfl rfl rfl rfl rfl rfl rfl ⟨rfl, rfl, trivial⟩ rfl rfl (by omega) (by simp only [maxLen]; omega) ?_
    repeat (first | refine sc rfl ?_ | refine so rfl ?_ | refine sb rfl ?_)
    exact Le.sub [3, 2, 122] ⟨rfl, rfl, rfl, trivial⟩ rfl
  · rw [e8, if_neg (by rw [h4]; decide)]
    repeat (first | refine sc rfl ?_ | refine so rfl ?_ | refine sb rfl ?_)
    exact Le.sub [3, 2, 122] ⟨rfl, rfl, rfl, trivial⟩ rfl
  have e9 : chkU a b 9 = if pas 9 a b = true then chkU a b 8 ++ [9] else chkU a b 8 := chkU_succ a b 8
  have l9 := chkU_len a b 8
  repeat (first | refine sc rfl ?_ | refine so rfl ?_ | refine sb rfl ?_)
  refine O_join ⟨[(2, .bp 2 0), (3, .bp 3 0), (5, .own 122), (134, B (pas 9 a b))], [.box 3 37 b.cells, .box 2 37 a.cells, VEC 122 3 1 (fun x => [I64 x]) (chkU a b 8)]⟩ ?_ (fun s h => C_le _ h ?_)
  · refine O_case 128 rfl (fun h => ?_) (fun h => ?_) <;> simp at h
    · repeat (first | refine sc rfl ?_ | refine so rfl ?_ | refine sb rfl ?_)
      exact Le.sub [3, 2, 122] ⟨rfl, rfl, rfl, congrArg (fun x => some (B x)) (by rw [Bool.eq_iff_iff]; simp [pas]; try omega), trivial⟩ rfl
    · repeat (first | refine sc rfl ?_ | refine so rfl ?_ | refine sb rfl ?_)
      exact Le.sub [3, 2, 122] ⟨rfl, rfl, rfl, congrArg (fun x => some (B x)) (by rw [Bool.eq_iff_iff]; simp [pas]; try omega), trivial⟩ rfl
  refine C_le _ (Le.rename (s2 := [(2, .bp 2 0), (3, .bp 3 0), (134, B (pas 9 a b))]) 5 137 rfl rfl ⟨rfl, rfl, rfl, trivial⟩ rfl rfl) ?_
  repeat (first | refine sc rfl ?_ | refine so rfl ?_ | refine sb rfl ?_)
  refine C_ifJ ⟨[(2, .bp 2 0), (3, .bp 3 0), (5, .own 137)], [.box 3 37 b.cells, .box 2 37 a.cells, VEC 137 3 1 (fun x => [I64 x]) (chkU a b 9)]⟩ rfl (fun h4 => ?_) (fun h4 => ?_) (fun s h => C_le _ h ?_)
  · rw [e9, if_pos h4]
    repeat (first | refine sc rfl ?_ | refine so rfl ?_ | refine sb rfl ?_)
    refine O_push (fun x => [I64 x]) (chkU a b 8) 9 [(2, .bp 2 0), (3, .bp 3 0)] rfl rfl rfl rfl rfl rfl rfl rfl rfl rfl ⟨rfl, rfl, trivial⟩ rfl rfl (by omega) (by simp only [maxLen]; omega) ?_
    repeat (first | refine sc rfl ?_ | refine so rfl ?_ | refine sb rfl ?_)
    exact Le.sub [3, 2, 137] ⟨rfl, rfl, rfl, trivial⟩ rfl
  · rw [e9, if_neg (by rw [h4]; decide)]
    repeat (first | refine sc rfl ?_ | refine so rfl ?_ | refine sb rfl ?_)
    exact Le.sub [3, 2, 137] ⟨rfl, rfl, rfl, trivial⟩ rfl
  refine C_le _ (Le.freezeL 5 rfl rfl) ?_
  repeat (first | refine sc rfl ?_ | refine so rfl ?_ | refine sb rfl ?_)
  exact ⟨_, rfl, rfl, rfl⟩
end Go.Proofs
