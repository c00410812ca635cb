/- Contracts, part six: Ints, Of. -/
import Derived.Test.YtgdlhcaidfokkaaT6
set_option linter.unusedSimpArgs false
set_option linter.unusedVariables false
namespace Go.Proofs
open Go.Sy

theorem Ints_c (l m : List Int) (hl : l.length ≤ 1000000) (hm : m.length ≤ 1000000) : FnP Try.prog 18 [SL 1 (fun x => [I64 x]) l, SL 1 (fun x => [I64 x]) m] (· = B (decide (l = m))) := by
  refine FnP.intro Try.tabOK Try.wide_ Try.func18 rfl (by decide) rfl (fun X => ?_)
  repeat (first | refine sc rfl ?_ | refine so rfl ?_ | refine sb rfl ?_)
  refine C_if rfl (fun h => ?_) (fun h => ?_)
  · repeat (first | refine sc rfl ?_ | refine so rfl ?_ | refine sb rfl ?_)
    refine ⟨_, rfl, rfl, congrArg B ?_⟩
    simp at h
    have : ¬ l = m := fun he => by subst he; exact h rfl
    simp [this]
  · have hlm : l.length = m.length := by simp at h; omega
    repeat (first | refine sc rfl ?_ | refine so rfl ?_ | refine sb rfl ?_)
    refine C_loop (fun k : Nat => ⟨[(0, SL 1 (fun x => [I64 x]) l), (1, SL 1 (fun x => [I64 x]) m), (5, I64 (k : Int))], []⟩) (fun k => k ≤ l.length ∧ l.take k = m.take k) (fun k => l.length - k) 0 ⟨Nat.zero_le _, rfl⟩
      (Le.sub [] ⟨rfl, rfl, rfl, trivial⟩ rfl) ?_
    rintro k ⟨hk, ht⟩
    repeat (first | refine sc rfl ?_ | refine so rfl ?_ | refine sb rfl ?_)
    refine C_if rfl (fun h3 => ?_) (fun h3 => ?_) <;> simp only [decide_eq_true_eq, decide_eq_false_iff_not] at h3
    · repeat (first | refine sc rfl ?_ | refine so rfl ?_ | refine sb rfl ?_)
      refine C_draw (by kernel_rfl) ?_
      repeat (first | refine sq rfl ?_ | refine ⟨by omega, ?_⟩ | refine sc rfl ?_)
      have g1 : l[k]? = some (l.getD k 0) := by rw [List.getD_eq_getElem?_getD, List.getElem?_eq_getElem (by omega)]; rfl
      have g2 : m[k]? = some (m.getD k 0) := by rw [List.getD_eq_getElem?_getD, List.getElem?_eq_getElem (by omega)]; rfl
      refine C_if rfl (fun h4 => ?_) (fun h4 => ?_)
      · repeat (first | refine sc rfl ?_ | refine so rfl ?_ | refine sb rfl ?_)
        refine ⟨_, rfl, rfl, congrArg B ?_⟩
        have h5 : ¬ l.getD k 0 = m.getD k 0 := by simpa using h4
        have : ¬ l = m := fun he => by subst he; exact h5 rfl
        simp [this]
      · repeat (first | refine sc rfl ?_ | refine so rfl ?_ | refine sb rfl ?_)
        have h5 : l.getD k 0 = m.getD k 0 := by simpa using h4
        rw [w64 (x := (k : Int) + 1) (by omega) (by omega)]
        exact ⟨k + 1, ⟨by omega, by rw [List.take_add_one, List.take_add_one, ht, g1, g2, h5]⟩, by omega, Le.sub [] ⟨rfl, rfl, rfl, trivial⟩ rfl⟩
    · repeat (first | refine sc rfl ?_ | refine so rfl ?_ | refine sb rfl ?_)
      refine ⟨_, rfl, rfl, congrArg B ?_⟩
      obtain rfl : k = l.length := by omega
      rw [List.take_length, hlm, List.take_length] at ht
      simp [ht]

abbrev F3 := Int × Int × Int
abbrev fc (p : F3) : List AV := [I64 p.1, I64 p.2.1, I64 p.2.2]
def row48 (o : Int) (l : List Vw) (i : Nat) : List F3 := (chk (l.getD i default) (l.getD (i + 1) default)).map (fun w => ((i : Int), o, w))
def ofU (o : Int) (l : List Vw) (n : Nat) : List F3 := (List.range n).flatMap (row48 o l)
theorem chk_len (a b : Vw) : (chk a b).length ≤ 9 := by
  unfold chk
  split
  · simp
  · exact chkU_len a b 9
theorem ofU_succ (o : Int) (l : List Vw) (n : Nat) : ofU o l (n + 1) = ofU o l n ++ row48 o l n := by
  unfold ofU
  rw [List.range_succ, List.flatMap_append]
  simp
theorem ofU_len (o : Int) (l : List Vw) (n : Nat) : (ofU o l n).length ≤ 9 * n := by
  induction n with
  | zero => simp [ofU]
  | succ n ih =>
    rw [ofU_succ, List.length_append]
    have : (row48 o l n).length ≤ 9 := by unfold row48; rw [List.length_map]; exact chk_len _ _
    omega

theorem take_map_snoc {α β : Type} (f : α → β) (l : List α) (d : α) (j : Nat) (h : j < l.length) : (l.take (j + 1)).map f = (l.take j).map f ++ [f (l.getD j d)] := by
  rw [List.take_add_one, List.map_append, List.getD_eq_getElem?_getD, List.getElem?_eq_getElem h]
  rfl

theorem Of_c (o : Int) (l : List Vw) (hl : l.length ≤ 200) : FnP Try.prog 21 [I64 o, SL 21 Vw.own l] (· = SL 3 fc (ofU o l (l.length - 1))) := by
  refine FnP.intro Try.tabOK Try.wide_ Try.func21 rfl (by decide) rfl (fun X => ?_)
  repeat (first | refine sc rfl ?_ | refine so rfl ?_ | refine sb rfl ?_)
  refine C_loop (fun k : Nat => ⟨[(0, I64 o), (1, SL 21 Vw.own l), (5, .own 37), (6, I64 ((k : Int) + 1))], [VEC 37 46 3 fc (ofU o l k)]⟩) (fun k => k ≤ l.length - 1) (fun k => l.length - 1 - k) 0 (Nat.zero_le _)
      ((Le.nilvec (α := F3) fc 5 37 46 3 rfl rfl rfl).trans (Le.sub [37] ⟨rfl, rfl, rfl, rfl, trivial⟩ rfl)) ?_
  intro k hk
  repeat (first | refine sc rfl ?_ | refine so rfl ?_ | refine sb rfl ?_)
  refine C_if rfl (fun h3 => ?_) (fun h3 => ?_) <;> simp only [decide_eq_true_eq, decide_eq_false_iff_not] at h3
  · repeat (first | refine sc rfl ?_ | refine so rfl ?_ | refine sb rfl ?_)
    refine C_drawD rfl (by kernel_rfl) ?_
    repeat (first | refine sd rfl ?_)
    rw [w64 (x := (k : Int) + 1 - 1) (by omega) (by omega), show (k : Int) + 1 - 1 = (k : Int) by omega]
    refine ⟨by omega, ?_⟩
    repeat (first | refine sd rfl ?_ | refine ⟨by omega, ?_⟩)
    refine D_call (Check_c (l.getD k default) (l.getD (k + 1) default)) rfl rfl rfl rfl ?_
    repeat (first | refine sd rfl ?_)
    have hc9 := chk_len (l.getD k default) (l.getD (k + 1) default)
    have hrow : row48 o l k = (chk (l.getD k default) (l.getD (k + 1) default)).map (fun w => ((k : Int), o, w)) := rfl
    generalize chk (l.getD k default) (l.getD (k + 1) default) = c at *
    have hof := ofU_len o l k
    repeat (first | refine sc rfl ?_ | refine so rfl ?_ | refine sb rfl ?_)
    refine C_loop (fun j : Nat => ⟨[(0, I64 o), (1, SL 21 Vw.own l), (5, .own 37), (6, I64 ((k : Int) + 1)), (24, SL 1 (fun x => [I64 x]) c), (25, I64 (c.length : Int)), (26, I64 (j : Int))], [VEC 37 46 3 fc (ofU o l k ++ (c.take j).map (fun w => ((k : Int), o, w)))]⟩) (fun j => j ≤ c.length) (fun j => c.length - j) 0 (Nat.zero_le _)
      (Le.sub [37] ⟨rfl, rfl, rfl, rfl, rfl, rfl, rfl, trivial⟩ (by simp only [List.take_zero, List.map_nil, List.append_nil]; rfl)) ?_
    intro j hj
    have hlj : ((c.take j).map (fun w => ((k : Int), o, w))).length ≤ 9 := by rw [List.length_map, List.length_take]; omega
    repeat (first | refine sc rfl ?_ | refine so rfl ?_ | refine sb rfl ?_)
    refine C_if rfl (fun h4 => ?_) (fun h4 => ?_) <;> simp only [decide_eq_true_eq, decide_eq_false_iff_not] at h4
    · repeat (first | refine sc rfl ?_ | refine so rfl ?_ | refine sb rfl ?_ | refine ⟨by omega, ?_⟩)
      rw [w64 (x := (k : Int) + 1 - 1) (by omega) (by omega), show (k : Int) + 1 - 1 = (k : Int) by omega]
      repeat (first | refine sc rfl ?_ | refine so rfl ?_ | refine sb rfl ?_)
      refine O_push fc (ofU o l k ++ (c.take j).map (fun w => ((k : Int), o, w))) ((k : Int), o, c.getD j default) [(0, I64 o), (1, SL 21 Vw.own l), (6, I64 ((k : Int) + 1)), (24, SL 1 (fun x => [I64 x]) c), (25, I64 (c.length : Int)), (26, I64 (j : Int))] rfl rfl rfl rfl rfl rfl rfl rfl rfl rfl ⟨rfl, rfl, rfl, rfl, rfl, rfl, trivial⟩ rfl rfl (by rw [List.length_append]; omega) (by rw [List.length_append]; simp only [maxLen]; omega) ?_
      repeat (first | refine sc rfl ?_ | refine so rfl ?_ | refine sb rfl ?_)
      rw [w64 (x := (j : Int) + 1) (by omega) (by omega)]
      exact ⟨j + 1, by omega, by omega, Le.sub [37] ⟨rfl, rfl, rfl, rfl, rfl, rfl, rfl, trivial⟩ (by rw [take_map_snoc _ c default j (by omega), ← List.append_assoc]; rfl)⟩
    · obtain rfl : j = c.length := by omega
      repeat (first | refine sc rfl ?_ | refine so rfl ?_ | refine sb rfl ?_)
      rw [w64 (x := (k : Int) + 1 + 1) (by omega) (by omega)]
      exact ⟨k + 1, by omega, by omega, Le.sub [37] ⟨rfl, rfl, rfl, rfl, trivial⟩ (by rw [ofU_succ, hrow, List.take_length]; rfl)⟩
  · obtain rfl : k = l.length - 1 := by omega
    refine C_le _ (Le.freezeL 5 rfl rfl) ?_
    repeat (first | refine sc rfl ?_ | refine so rfl ?_ | refine sb rfl ?_)
    exact ⟨_, rfl, rfl, rfl⟩
end Go.Proofs
