/- Contracts of the functions that the laws of this seat reach, part one. -/
import Derived.Test.YtgdlhcaidfokkaaTb
set_option linter.unusedSimpArgs false
set_option linter.unusedVariables false
namespace Go.Proofs
open Go.Sy
theorem Try.wide_ : Try.prog.follows .mixedOrders = true := by kernel_rfl

theorem within_c (n lo hi : Int) : FnP Try.prog 61 [I64 n, I64 lo, I64 hi] (· = I64 (max lo (min n hi))) := by
  refine FnP.intro Try.tabOK Try.wide_ Try.func61 rfl (by decide) rfl (fun X => ?_)
  repeat (first | refine sc rfl ?_ | refine so rfl ?_ | refine sb rfl ?_)
  exact ⟨_, rfl, rfl, rfl⟩

def round (q : Int) : Int := (max 1 (min q 1048576) + 1040) / 16
theorem round_bd (q : Int) : 65 ≤ round q ∧ round q ≤ 65601 := by unfold round; omega

theorem Round_c (q : Int) : FnP Try.prog 11 [I64 q] (· = I64 (round q)) := by
  refine FnP.intro Try.tabOK Try.wide_ Try.func11 rfl (by decide) rfl (fun X => ?_)
  repeat (first | refine sc rfl ?_ | refine so rfl ?_ | refine sb rfl ?_)
  refine O_call (within_c _ _ _) (by rfl) (by rfl) (by rfl) (by rfl) (fun r hr => ?_)
  subst hr
  repeat (first | refine sc rfl ?_ | refine so rfl ?_ | refine sb rfl ?_)
  refine ⟨by decide, ?_⟩
  repeat (first | refine sc rfl ?_ | refine so rfl ?_ | refine sb rfl ?_)
  refine ⟨_, rfl, rfl, ?_⟩
  rw [w64 (x := _ + 1040) (by omega) (by omega), quo64 (by omega) (by omega) (by omega)]
  rfl

def sumR (l : List Int) : Int := l.foldl (fun s x => s + round x) 0
theorem sumR_snoc (l : List Int) (x : Int) : sumR (l ++ [x]) = sumR l + round x := by simp [sumR]
theorem sumR_bd (l : List Int) : 0 ≤ sumR l ∧ sumR l ≤ 65601 * l.length := by
  have : ∀ (l : List Int) (s : Int), s ≤ l.foldl (fun s x => s + round x) s ∧ l.foldl (fun s x => s + round x) s ≤ s + 65601 * l.length := by
    intro l
    induction l with
    | nil => intro s; simp
    | cons x l ih => intro s; have := ih (s + round x); have := round_bd x; simp only [List.foldl_cons, List.length_cons]; omega
  have := this l 0
  unfold sumR; omega
def most (b q : Int) (all : List Int) : Int :=
  ((max 0 (min b 1048576) + max 1 (min q 1048576) - 1) / max 1 (min q 1048576) + 2) * sumR (all.take 8)

theorem Most_c (b q : Int) (l : List Int) : FnP Try.prog 13 [I64 b, I64 q, SL 1 (fun x => [I64 x]) l] (· = I64 (most b q l)) := by
  refine FnP.intro Try.tabOK Try.wide_ Try.func13 rfl (by decide) rfl (fun X => ?_)
  repeat (first | refine sc rfl ?_ | refine so rfl ?_ | refine sb rfl ?_)
  refine O_call (within_c _ _ _) (by rfl) (by rfl) (by rfl) (by rfl) (fun r hr => ?_)
  subst hr
  repeat (first | refine sc rfl ?_ | refine so rfl ?_ | refine sb rfl ?_)
  refine O_call (within_c _ _ _) (by rfl) (by rfl) (by rfl) (by rfl) (fun r hr => ?_)
  subst hr
  repeat (first | refine sc rfl ?_ | refine so rfl ?_ | refine sb rfl ?_)
  refine ⟨by omega, ?_⟩
  repeat (first | refine sc rfl ?_ | refine so rfl ?_ | refine sb rfl ?_)
  have hm : (min (l.length : Int) 8).toNat = (l.take 8).length := by rw [List.length_take]; omega
  refine C_loop (fun k : Nat => ⟨[(0, I64 (max 0 (min b 1048576))), (1, I64 (max 1 (min q 1048576))), (7, I64 (sumR (l.take k))),
    (18, .sl (min (l.length : Int) 8).toNat 1 fun i => [I64 (l.getD i default)]), (19, I64 ((min (l.length : Int) 8).toNat : Int)), (20, I64 k)], []⟩)
    (fun k => k ≤ (l.take 8).length) (fun k => (l.take 8).length - k) 0 (Nat.zero_le _) (Le.sub [] ⟨rfl, rfl, rfl, rfl, rfl, rfl, trivial⟩ rfl) ?_
  intro k hk
  have hl8 : (l.take 8).length ≤ 8 := List.length_take_le _ _
  refine sc rfl ?_
  repeat (first | refine sc rfl ?_ | refine so rfl ?_ | refine sb rfl ?_)
  refine C_if rfl (fun hlt => ?_) (fun hge => ?_)
  · simp only [decide_eq_true_eq] at hlt
    rw [hm] at hlt
    have hk8 : k < l.length := by rw [List.length_take] at hlt; omega
    repeat (first | refine sc rfl ?_ | refine so rfl ?_ | refine sb rfl ?_)
    refine ⟨⟨by omega, by rw [hm]; omega⟩, ?_⟩
    repeat (first | refine sc rfl ?_ | refine so rfl ?_ | refine sb rfl ?_)
    refine O_call (Round_c _) (by rfl) (by rfl) (by rfl) (by rfl) (fun r hr => ?_)
    subst hr
    repeat (first | refine sc rfl ?_ | refine so rfl ?_ | refine sb rfl ?_)
    have hs : sumR (l.take (k + 1)) = sumR (l.take k) + round (l.getD k default) := by
      rw [List.take_succ_eq_append_getElem hk8, sumR_snoc]; simp [List.getElem?_eq_getElem hk8]
    have hb1 := sumR_bd (l.take k)
    have hb2 := round_bd (l.getD k default)
    have hb3 : (l.take k).length ≤ 8 := by rw [List.length_take]; omega
    refine ⟨k + 1, by omega, by omega, ?_⟩
    refine Le.sub [] ⟨rfl, rfl, ?_, rfl, rfl, ?_, trivial⟩ rfl
    · show some (I64 (IntKind.i64.wrap (sumR (l.take k) + round (l.getD k default)))) = _
      rw [w64 (by omega) (by omega), hs]
    · show some (I64 _) = _
      rw [w64 (by omega) (by omega)]; rfl
  · simp only [decide_eq_false_iff_not] at hge
    rw [hm] at hge
    repeat (first | refine sc rfl ?_ | refine so rfl ?_ | refine sb rfl ?_)
    refine ⟨by omega, ?_⟩
    repeat (first | refine sc rfl ?_ | refine so rfl ?_ | refine sb rfl ?_)
    refine ⟨_, rfl, rfl, ?_⟩
    have hk' : k = (l.take 8).length := by omega
    subst hk'
    have ht : l.take (l.take 8).length = l.take 8 := by
      rw [List.length_take]
      rcases Nat.le_total 8 l.length with h | h
      · rw [Nat.min_eq_left h]
      · rw [Nat.min_eq_right h, List.take_length, List.take_of_length_le h]
    rw [ht]
    have hb1 := sumR_bd (l.take 8)
    have h1 : 0 ≤ (max 0 (min b 1048576) + max 1 (min q 1048576) - 1) / max 1 (min q 1048576) := Int.ediv_nonneg (by omega) (by omega)
    have h2 : (max 0 (min b 1048576) + max 1 (min q 1048576) - 1) / max 1 (min q 1048576) ≤ (max 0 (min b 1048576) + max 1 (min q 1048576) - 1) := Int.ediv_le_self _ (by omega)
    have h3 : 0 ≤ ((max 0 (min b 1048576) + max 1 (min q 1048576) - 1) / max 1 (min q 1048576) + 2) * sumR (l.take 8) := Int.mul_nonneg (by omega) (by omega)
    have h4 : ((max 0 (min b 1048576) + max 1 (min q 1048576) - 1) / max 1 (min q 1048576) + 2) * sumR (l.take 8) ≤ 4194304 * 524808 := Int.mul_le_mul (by omega) (by omega) (by omega) (by omega)
    rw [w64 (x := max 0 _ + _) (by omega) (by omega), w64 (x := _ - 1) (by omega) (by omega), quo64 (by omega) (by omega) (by omega), w64 (x := _ + 2) (by omega) (by omega), w64 (by omega) (by omega)]
    rfl

theorem quantum_c (q : Int) : FnP Try.prog 62 [I64 q] (· = I64 (max 1 (min q 1048576))) := by
  refine FnP.intro Try.tabOK Try.wide_ Try.func62 rfl (by decide) rfl (fun X => ?_)
  repeat (first | refine sc rfl ?_ | refine so rfl ?_ | refine sb rfl ?_)
  refine C_if rfl (fun h => ?_) (fun h => ?_) <;> simp only [decide_eq_true_eq, decide_eq_false_iff_not] at h
  · repeat (first | refine sc rfl ?_ | refine so rfl ?_ | refine sb rfl ?_)
    exact ⟨_, rfl, rfl, by rw [show max 1 (min q 1048576) = 1 by omega]⟩
  · repeat (first | refine sc rfl ?_ | refine so rfl ?_ | refine sb rfl ?_)
    refine C_if rfl (fun h => ?_) (fun h => ?_) <;> simp only [decide_eq_true_eq, decide_eq_false_iff_not] at h
    · repeat (first | refine sc rfl ?_ | refine so rfl ?_ | refine sb rfl ?_)
      exact ⟨_, rfl, rfl, by rw [show max 1 (min q 1048576) = 1048576 by omega]⟩
    · repeat (first | refine sc rfl ?_ | refine so rfl ?_ | refine sb rfl ?_)
      exact ⟨_, rfl, rfl, by rw [show max 1 (min q 1048576) = q by omega]⟩

theorem RoundR_c (q : Int) : FnP Try.prog 12 [I64 q] (· = I64 (round q)) := by
  refine FnP.intro Try.tabOK Try.wide_ Try.func12 rfl (by decide) rfl (fun X => ?_)
  repeat (first | refine sc rfl ?_ | refine so rfl ?_ | refine sb rfl ?_)
  refine O_call (quantum_c _) (by rfl) (by rfl) (by rfl) (by rfl) (fun r hr => ?_)
  subst hr
  repeat (first | refine sc rfl ?_ | refine so rfl ?_ | refine sb rfl ?_)
  refine ⟨by decide, ?_⟩
  repeat (first | refine sc rfl ?_ | refine so rfl ?_ | refine sb rfl ?_)
  refine ⟨_, rfl, rfl, ?_⟩
  rw [w64 (x := _ + 1040) (by omega) (by omega), quo64 (by omega) (by omega) (by omega)]
  rfl

/-- rounding up by another road -/
theorem ceil (b q : Int) (hb : 0 ≤ b) (hq : 1 ≤ q) : (b + q - 1) / q = if b / q * q < b then b / q + 1 else b / q := by
  have h1 : b / q * q ≤ b := Int.ediv_mul_le b (by omega)
  have h2 : b < (b / q + 1) * q := Int.lt_ediv_add_one_mul_self b (by omega)
  rw [Int.add_mul, Int.one_mul] at h2
  split
  · rename_i h
    have : b + q - 1 = (b - b / q * q - 1) + (b / q + 1) * q := by rw [Int.add_mul, Int.one_mul]; omega
    rw [this, Int.add_mul_ediv_right _ _ (by omega), Int.ediv_eq_zero_of_lt (by omega) (by omega)]; omega
  · rename_i h
    have : b + q - 1 = (b - b / q * q + q - 1) + b / q * q := by omega
    rw [this, Int.add_mul_ediv_right _ _ (by omega), Int.ediv_eq_zero_of_lt (by omega) (by omega)]; omega

theorem MostR_c (b q : Int) (l : List Int) (hl : l.length ≤ 9223372036854775807) : FnP Try.prog 14 [I64 b, I64 q, SL 1 (fun x => [I64 x]) l] (· = I64 (most b q l)) := by
  refine FnP.intro Try.tabOK Try.wide_ Try.func14 rfl (by decide) rfl (fun X => ?_)
  repeat (first | refine sc rfl ?_ | refine so rfl ?_ | refine sb rfl ?_)
  refine C_ifJ ⟨[(0, I64 (max 0 b)), (1, I64 q), (2, SL 1 (fun x => [I64 x]) l)], []⟩ rfl (fun h => ?_) (fun h => ?_) (fun s h => C_le _ h ?_)
  · simp only [decide_eq_true_eq] at h
    repeat (first | refine sc rfl ?_ | refine so rfl ?_ | refine sb rfl ?_)
    exact Le.sub [] ⟨by rw [Int.max_eq_left (by omega)]; rfl, rfl, rfl, trivial⟩ rfl
  · simp only [decide_eq_false_iff_not] at h
    repeat (first | refine sc rfl ?_ | refine so rfl ?_ | refine sb rfl ?_)
    exact Le.sub [] ⟨by rw [Int.max_eq_right (by omega)]; rfl, rfl, rfl, trivial⟩ rfl
  repeat (first | refine sc rfl ?_ | refine so rfl ?_ | refine sb rfl ?_)
  refine C_ifJ ⟨[(0, I64 (max 0 (min b 1048576))), (1, I64 q), (2, SL 1 (fun x => [I64 x]) l)], []⟩ rfl (fun h => ?_) (fun h => ?_) (fun s h => C_le _ h ?_)
  · simp only [decide_eq_true_eq] at h
    repeat (first | refine sc rfl ?_ | refine so rfl ?_ | refine sb rfl ?_)
    exact Le.sub [] ⟨by rw [show max 0 (min b 1048576) = 1048576 by omega]; rfl, rfl, rfl, trivial⟩ rfl
  · simp only [decide_eq_false_iff_not] at h
    repeat (first | refine sc rfl ?_ | refine so rfl ?_ | refine sb rfl ?_)
    exact Le.sub [] ⟨by rw [show max 0 (min b 1048576) = max 0 b by omega]; rfl, rfl, rfl, trivial⟩ rfl
  repeat (first | refine sc rfl ?_ | refine so rfl ?_ | refine sb rfl ?_)
  refine O_call (quantum_c _) (by rfl) (by rfl) (by rfl) (by rfl) (fun r hr => ?_)
  subst hr
  generalize hB : max 0 (min b 1048576) = b'
  generalize hQ : max 1 (min q 1048576) = q'
  repeat (first | refine sc rfl ?_ | refine so rfl ?_ | refine sb rfl ?_)
  refine ⟨by omega, ?_⟩
  rw [quo64 (by omega) (by omega) (by omega)]
  have d1 : 0 ≤ b' / q' := Int.ediv_nonneg (by omega) (by omega)
  have d2 : b' / q' ≤ b' := Int.ediv_le_self _ (by omega)
  have d3 : b' / q' * q' ≤ b' := Int.ediv_mul_le b' (by omega)
  have d4 : 0 ≤ b' / q' * q' := Int.mul_nonneg d1 (by omega)
  repeat (first | refine sc rfl ?_ | refine so rfl ?_ | refine sb rfl ?_)
  rw [w64 (x := _ * _) (by omega) (by omega)]
  have hc := ceil b' q' (by omega) (by omega)
  refine C_ifJ ⟨[(2, SL 1 (fun x => [I64 x]) l), (7, I64 ((b' + q' - 1) / q'))], []⟩ rfl (fun h => ?_) (fun h => ?_) (fun s h => C_le _ h ?_)
  · simp only [decide_eq_true_eq] at h
    repeat (first | refine sc rfl ?_ | refine so rfl ?_ | refine sb rfl ?_)
    rw [if_pos h] at hc
    exact Le.sub [] ⟨rfl, by rw [hc]; show some (I64 _) = _; rw [w64 (by omega) (by omega)], trivial⟩ rfl
  · simp only [decide_eq_false_iff_not] at h
    repeat (first | refine sc rfl ?_ | refine so rfl ?_ | refine sb rfl ?_)
    rw [if_neg h] at hc
    exact Le.sub [] ⟨rfl, by rw [hc]; rfl, trivial⟩ rfl
  have d5 : 0 ≤ (b' + q' - 1) / q' ∧ (b' + q' - 1) / q' ≤ 1048577 := by rw [hc]; split <;> omega
  have hmost : most b q l = ((b' + q' - 1) / q' + 2) * sumR (l.take 8) := by unfold most; rw [hB, hQ]
  rw [hmost]
  generalize (b' + q' - 1) / q' = rr at *
  repeat (first | refine sc rfl ?_ | refine so rfl ?_ | refine sb rfl ?_)
  refine C_loop (fun k : Nat => ⟨[(2, SL 1 (fun x => [I64 x]) l), (7, I64 rr), (8, I64 (sumR (l.take k))), (9, I64 k)], []⟩) (fun k => k ≤ (l.take 8).length) (fun k => (l.take 8).length - k) 0 (Nat.zero_le _)
    (Le.sub [] ⟨rfl, rfl, rfl, rfl, trivial⟩ rfl) ?_
  intro k hk
  have hl8 : (l.take 8).length ≤ 8 := List.length_take_le _ _
  rw [List.length_take] at hk hl8 ⊢
  repeat (first | refine sc rfl ?_ | refine so rfl ?_ | refine sb rfl ?_)
  have end_ : ¬ (k < l.length ∧ k < 8) → l.take k = l.take 8 := by
    intro h
    rcases Nat.le_total 8 l.length with h8 | h8
    · rw [show k = 8 by omega]
    · rw [List.take_of_length_le (by omega), List.take_of_length_le (by omega)]
  have hb1 := sumR_bd (l.take k)
  have hb3 : (l.take k).length ≤ 8 := by rw [List.length_take]; omega
  have fin : ¬ (k < l.length ∧ k < 8) → IntKind.i64.wrap (IntKind.i64.wrap (rr + 2) * sumR (l.take k)) = (rr + 2) * sumR (l.take 8) := by
    intro h
    rw [← end_ h]
    have h3 : 0 ≤ (rr + 2) * sumR (l.take k) := Int.mul_nonneg (by omega) (by omega)
    have h4 : (rr + 2) * sumR (l.take k) ≤ 4194304 * 524808 := Int.mul_le_mul (by omega) (by omega) (by omega) (by omega)
    rw [w64 (x := rr + 2) (by omega) (by omega), w64 (by omega) (by omega)]
  refine O_case 30 rfl (fun h => ?_) (fun h => ?_) <;> simp only [decide_eq_true_eq, decide_eq_false_iff_not] at h
  · repeat (first | refine sc rfl ?_ | refine so rfl ?_ | refine sb rfl ?_)
    refine C_if rfl (fun h2 => ?_) (fun h2 => ?_) <;> simp only [decide_eq_true_eq, decide_eq_false_iff_not] at h2
    · have hkl : k < l.length := by omega
      repeat (first | refine sc rfl ?_ | refine so rfl ?_ | refine sb rfl ?_)
      refine ⟨by omega, ?_⟩
      repeat (first | refine sc rfl ?_ | refine so rfl ?_ | refine sb rfl ?_)
      refine O_call (RoundR_c _) (by rfl) (by rfl) (by rfl) (by rfl) (fun r hr => ?_)
      subst hr
      repeat (first | refine sc rfl ?_ | refine so rfl ?_ | refine sb rfl ?_)
      have hs : sumR (l.take (k + 1)) = sumR (l.take k) + round (l.getD k default) := by
        rw [List.take_succ_eq_append_getElem hkl, sumR_snoc]; simp [List.getElem?_eq_getElem hkl]
      have hb2 := round_bd (l.getD k default)
      refine ⟨k + 1, by omega, by omega, ?_⟩
      refine Le.sub [] ⟨rfl, rfl, ?_, ?_, trivial⟩ rfl
      · show some (I64 (IntKind.i64.wrap (sumR (l.take k) + round (l.getD k default)))) = _
        rw [w64 (by omega) (by omega), hs]
      · show some (I64 _) = _
        rw [w64 (by omega) (by omega)]; rfl
    · repeat (first | refine sc rfl ?_ | refine so rfl ?_ | refine sb rfl ?_)
      exact ⟨_, rfl, rfl, by rw [fin (by omega)]⟩
  · repeat (first | refine sc rfl ?_ | refine so rfl ?_ | refine sb rfl ?_)
    refine C_if rfl (fun h2 => by cases h2) (fun _ => ?_)
    repeat (first | refine sc rfl ?_ | refine so rfl ?_ | refine sb rfl ?_)
    exact ⟨_, rfl, rfl, by rw [fin (by omega)]⟩
