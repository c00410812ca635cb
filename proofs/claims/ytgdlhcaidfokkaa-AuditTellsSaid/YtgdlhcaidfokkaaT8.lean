/- Contracts, part seven: the document's Of. -/
import Derived.Test.YtgdlhcaidfokkaaT7
set_option linter.unusedSimpArgs false
set_option linter.unusedVariables false
namespace Go.Proofs
open Go.Sy

theorem refOf_c (o : Int) (l : List Vw) (hl : l.length ≤ 200) : FnP Try.prog 22 [I64 o, SL 19 Vw.cells l] (· = SL 3 fc (ofU o l (l.length - 1))) := by
  refine FnP.intro Try.tabOK Try.wide_ Try.func22 rfl (by decide) rfl (fun X => ?_)
  repeat (first | refine sc rfl ?_ | refine so rfl ?_ | refine sb rfl ?_)
  refine C_loop (fun k : Nat => ⟨[(0, I64 o), (1, SL 19 Vw.cells l), (5, .own 41), (6, I64 (k : Int))], [VEC 41 47 3 fc (ofU o l k)]⟩) (fun k => k ≤ l.length - 1) (fun k => l.length - 1 - k) 0 (Nat.zero_le _)
      ((Le.nilvec (α := F3) fc 5 41 47 3 rfl rfl rfl).trans (Le.sub [41] ⟨rfl, rfl, rfl, rfl, trivial⟩ rfl)) ?_
  intro k hk
  repeat (first | refine sc rfl ?_ | refine so rfl ?_ | refine sb rfl ?_)
  rw [w64 (x := (k : Int) + 1) (by omega) (by omega)]
  repeat (first | refine sc rfl ?_ | refine so rfl ?_ | refine sb rfl ?_)
  refine C_if rfl (fun h3 => ?_) (fun h3 => ?_) <;> simp only [decide_eq_true_eq, decide_eq_false_iff_not] at h3
  · repeat (first | refine sc rfl ?_ | refine so rfl ?_ | refine sb rfl ?_)
    refine C_drawD rfl (by kernel_rfl) ?_
    repeat (first | refine sd rfl ?_ | refine ⟨by omega, ?_⟩)
    rw [w64 (x := (k : Int) + 1) (by omega) (by omega)]
    repeat (first | refine sd rfl ?_ | refine ⟨by omega, ?_⟩)
    refine D_call (refCheck_c (l.getD k default) (l.getD (k + 1) default)) rfl rfl rfl rfl ?_
    repeat (first | refine sd rfl ?_)
    have hc9 := chk_len (l.getD k default) (l.getD (k + 1) default)
    have hrow : row48 o l k = (chk (l.getD k default) (l.getD (k + 1) default)).map (fun w => ((k : Int), o, w)) := rfl
    generalize chk (l.getD k default) (l.getD (k + 1) default) = c at *
    have hof := ofU_len o l k
    repeat (first | refine sc rfl ?_ | refine so rfl ?_ | refine sb rfl ?_)
    refine C_loop (fun j : Nat => ⟨[(0, I64 o), (1, SL 19 Vw.cells l), (5, .own 41), (6, I64 (k : Int)), (7, SL 1 (fun x => [I64 x]) c), (8, I64 (j : Int))], [VEC 41 47 3 fc (ofU o l k ++ (c.take j).map (fun w => ((k : Int), o, w)))]⟩) (fun j => j ≤ c.length) (fun j => c.length - j) 0 (Nat.zero_le _)
      (Le.sub [41] ⟨rfl, rfl, rfl, rfl, rfl, rfl, trivial⟩ (by simp only [List.take_zero, List.map_nil, List.append_nil]; rfl)) ?_
    intro j hj
    have hlj : ((c.take j).map (fun w => ((k : Int), o, w))).length ≤ 9 := by rw [List.length_map, List.length_take]; omega
    repeat (first | refine sc rfl ?_ | refine so rfl ?_ | refine sb rfl ?_)
    refine C_if rfl (fun h4 => ?_) (fun h4 => ?_) <;> simp only [decide_eq_true_eq, decide_eq_false_iff_not] at h4
    · repeat (first | refine sc rfl ?_ | refine so rfl ?_ | refine sb rfl ?_ | refine ⟨by omega, ?_⟩)
      refine O_push fc (ofU o l k ++ (c.take j).map (fun w => ((k : Int), o, w))) ((k : Int), o, c.getD j default) [(0, I64 o), (1, SL 19 Vw.cells l), (6, I64 (k : Int)), (7, SL 1 (fun x => [I64 x]) c), (8, I64 (j : Int))] rfl rfl rfl rfl rfl rfl rfl rfl rfl rfl ⟨rfl, rfl, rfl, rfl, rfl, trivial⟩ rfl rfl (by rw [List.length_append]; omega) (by rw [List.length_append]; simp only [maxLen]; omega) ?_
      repeat (first | refine sc rfl ?_ | refine so rfl ?_ | refine sb rfl ?_)
      rw [w64 (x := (j : Int) + 1) (by omega) (by omega)]
      exact ⟨j + 1, by omega, by omega, Le.sub [41] ⟨rfl, rfl, rfl, rfl, rfl, rfl, trivial⟩ (by rw [take_map_snoc _ c default j (by omega), ← List.append_assoc]; rfl)⟩
    · obtain rfl : j = c.length := by omega
      repeat (first | refine sc rfl ?_ | refine so rfl ?_ | refine sb rfl ?_)
      rw [w64 (x := (k : Int) + 1) (by omega) (by omega)]
      exact ⟨k + 1, by omega, by omega, Le.sub [41] ⟨rfl, rfl, rfl, rfl, trivial⟩ (by rw [ofU_succ, hrow, List.take_length]; rfl)⟩
  · obtain rfl : k = l.length - 1 := by omega
    refine C_le _ (Le.freezeL 5 rfl rfl) ?_
    repeat (first | refine sc rfl ?_ | refine so rfl ?_ | refine sb rfl ?_)
    exact ⟨_, rfl, rfl, rfl⟩
end Go.Proofs
