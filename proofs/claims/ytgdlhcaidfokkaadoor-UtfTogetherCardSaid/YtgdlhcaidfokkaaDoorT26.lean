/- Contracts at the door seat, part six: the laws of utf. -/
import Derived.Test.YtgdlhcaidfokkaaDoorT25
set_option linter.unusedSimpArgs false
set_option linter.unusedVariables false
set_option maxRecDepth 100000
namespace Go.Proofs
open Go.Sy Go.Lib

theorem refName_p (l : List UInt8) (hl : l.length ≤ 9223372036854775000) : FnP Tryd.prog 18 [.s l] (· = B (nameL l)) := by
  refine FnP.intro Tryd.tabOK Tryd.wide_ Tryd.func18 rfl (by decide) rfl (fun X => ?_)
  repeat (first | refine sc rfl ?_ | refine so rfl ?_ | refine sb rfl ?_)
  refine O_join ⟨[(0, .s l), (13, B (decide (¬ (1 ≤ l.length ∧ l.length ≤ 16))))], []⟩ ?_ (fun s h => C_le _ h ?_)
  · have fin : ∀ b : Bool, b = decide (¬ (1 ≤ l.length ∧ l.length ≤ 16)) → some (B b) = some (B (decide (¬ (1 ≤ l.length ∧ l.length ≤ 16)))) := fun b hb => by rw [hb]
    refine O_case 9 rfl (fun h5 => ?_) (fun h5 => ?_) <;> simp only [decide_eq_true_eq, decide_eq_false_iff_not] at h5 <;> repeat (first | refine sc rfl ?_ | refine so rfl ?_ | refine sb rfl ?_)
    · exact Le.sub [] ⟨rfl, fin _ (by rw [Bool.eq_iff_iff]; simp only [decide_eq_true_eq, true_iff]; omega), trivial⟩ rfl
    · exact Le.sub [] ⟨rfl, fin _ (by rw [Bool.eq_iff_iff]; simp only [decide_eq_true_eq]; omega), trivial⟩ rfl
  refine C_if rfl (fun h => ?_) (fun h => ?_) <;> simp only [decide_eq_true_eq, decide_eq_false_iff_not, Decidable.not_not] at h
  · repeat (first | refine sc rfl ?_ | refine so rfl ?_ | refine sb rfl ?_)
    refine ⟨_, rfl, rfl, ?_⟩
    unfold nameL
    rw [decide_eq_false h, Bool.false_and]
  have hnm : nameL l = nameF l true := by unfold nameL; rw [decide_eq_true h, Bool.true_and]
  rw [hnm]
  repeat (first | refine sc rfl ?_ | refine so rfl ?_ | refine sb rfl ?_)
  refine C_loop (fun p : Nat => ⟨[(0, .s l), (3, I64 p)], []⟩) (fun p => p ≤ l.length ∧ nameF (l.drop p) (p == 0) = nameF l true) (fun p => l.length - p) 0 ⟨by omega, rfl⟩ (Le.sub [] ⟨rfl, rfl, trivial⟩ rfl) (fun p hp => ?_)
  repeat (first | refine sc rfl ?_ | refine so rfl ?_ | refine sb rfl ?_)
  refine C_if rfl (fun h' => ?_) (fun h' => ?_) <;> simp only [decide_eq_true_eq, decide_eq_false_iff_not] at h'
  · have hlt : p < l.length := by omega
    have h2 := nameF_drop hlt (p == 0)
    obtain ⟨c, hc⟩ : ∃ c, by_ l p = c := ⟨_, rfl⟩
    repeat (first | refine sc rfl ?_ | refine so rfl ?_ | refine sb rfl ?_ | refine ⟨by omega, ?_⟩)
    rw [Int.toNat_natCast, getD_by, hc]
    rw [hc] at h2
    repeat (first | refine sc rfl ?_ | refine so rfl ?_ | refine sb rfl ?_)
    refine O_join ⟨[(0, .s l), (3, I64 p), (4, .v (.int .u8 c)), (5, B (letB c))], []⟩ ?_ (fun s h => C_le _ h ?_)
    · have fin : ∀ b : Bool, b = letB c → some (B b) = some (B (letB c)) := fun b hb => by rw [hb]
      refine O_case 25 rfl (fun h1 => ?_) (fun h1 => ?_) <;> simp only [decide_eq_true_eq, decide_eq_false_iff_not] at h1 <;> repeat (first | refine sc rfl ?_ | refine so rfl ?_ | refine sb rfl ?_)
      · refine O_case 29 rfl (fun h2 => ?_) (fun h2 => ?_) <;> simp only [decide_eq_true_eq, decide_eq_false_iff_not] at h2 <;> repeat (first | refine sc rfl ?_ | refine so rfl ?_ | refine sb rfl ?_)
        · exact Le.sub [] ⟨rfl, rfl, rfl, fin _ (by unfold letB; rw [Bool.eq_iff_iff]; simp only [decide_eq_true_eq, true_iff, Bool.false_eq_true, false_iff]; omega), trivial⟩ rfl
        · refine O_case 32 rfl (fun h3 => ?_) (fun h3 => ?_) <;> simp only [decide_eq_true_eq, decide_eq_false_iff_not] at h3 <;> repeat (first | refine sc rfl ?_ | refine so rfl ?_ | refine sb rfl ?_)
          · exact Le.sub [] ⟨rfl, rfl, rfl, fin _ (by unfold letB; rw [Bool.eq_iff_iff]; simp only [decide_eq_true_eq, true_iff, Bool.false_eq_true, false_iff]; omega), trivial⟩ rfl
          · exact Le.sub [] ⟨rfl, rfl, rfl, fin _ (by unfold letB; rw [Bool.eq_iff_iff]; simp only [decide_eq_true_eq, true_iff, Bool.false_eq_true, false_iff]; omega), trivial⟩ rfl
      · refine O_case 32 rfl (fun h3 => ?_) (fun h3 => ?_) <;> simp only [decide_eq_true_eq, decide_eq_false_iff_not] at h3 <;> repeat (first | refine sc rfl ?_ | refine so rfl ?_ | refine sb rfl ?_)
        · exact Le.sub [] ⟨rfl, rfl, rfl, fin _ (by unfold letB; rw [Bool.eq_iff_iff]; simp only [decide_eq_true_eq, true_iff, Bool.false_eq_true, false_iff]; omega), trivial⟩ rfl
        · exact Le.sub [] ⟨rfl, rfl, rfl, fin _ (by unfold letB; rw [Bool.eq_iff_iff]; simp only [decide_eq_true_eq, true_iff, Bool.false_eq_true, false_iff]; omega), trivial⟩ rfl
    repeat (first | refine sc rfl ?_ | refine so rfl ?_ | refine sb rfl ?_)
    refine O_join ⟨[(0, .s l), (3, I64 p), (55, B (!(okB (c : Int) (p == 0))))], []⟩ ?_ (fun s h => C_le _ h ?_)
    · have fin : ∀ b : Bool, b = (!(okB (c : Int) (p == 0))) → some (B b) = some (B (!(okB (c : Int) (p == 0)))) := fun b hb => by rw [hb]
      have hp0 : ((p : Int) == 0) = (p == 0) := by rw [Bool.eq_iff_iff]; simp
      unfold okB at fin ⊢
      refine O_case 39 rfl (fun h3 => ?_) (fun h3 => ?_) <;> simp only [Bool.not_eq_true', Bool.not_eq_false'] at h3 <;> repeat (first | refine sc rfl ?_ | refine so rfl ?_ | refine sb rfl ?_)
      · refine O_case 42 rfl (fun h4 => ?_) (fun h4 => ?_) <;> repeat (first | refine sc rfl ?_ | refine so rfl ?_ | refine sb rfl ?_)
        · exact Le.sub [] ⟨rfl, rfl, fin _ (by rw [← hp0, h3, h4]; rfl), trivial⟩ rfl
        · refine O_case 45 rfl (fun h5 => ?_) (fun h5 => ?_) <;> simp at h5 <;> repeat (first | refine sc rfl ?_ | refine so rfl ?_ | refine sb rfl ?_)
          · refine O_case 48 rfl (fun h6 => ?_) (fun h6 => ?_) <;> simp at h6 <;> repeat (first | refine sc rfl ?_ | refine so rfl ?_ | refine sb rfl ?_)
            · exact Le.sub [] ⟨rfl, rfl, fin _ (by rw [← hp0, h3, h4, Bool.eq_iff_iff]; simp; omega), trivial⟩ rfl
            · exact Le.sub [] ⟨rfl, rfl, fin _ (by rw [← hp0, h3, h4, Bool.eq_iff_iff]; simp; omega), trivial⟩ rfl
          · exact Le.sub [] ⟨rfl, rfl, fin _ (by rw [← hp0, h3, h4, Bool.eq_iff_iff]; simp; omega), trivial⟩ rfl
      · exact Le.sub [] ⟨rfl, rfl, fin _ (by rw [h3]; rfl), trivial⟩ rfl
    refine C_if rfl (fun h3 => ?_) (fun h3 => ?_) <;> simp only [Bool.not_eq_true', Bool.not_eq_false'] at h3
    · rw [h3] at h2
      repeat (first | refine sc rfl ?_ | refine so rfl ?_ | refine sb rfl ?_)
      refine ⟨_, rfl, rfl, ?_⟩
      rw [← hp.2, h2, Bool.false_and]
    · rw [h3] at h2
      repeat (first | refine sc rfl ?_ | refine so rfl ?_ | refine sb rfl ?_)
      rw [w64 (by omega) (by omega)]
      repeat (first | refine sc rfl ?_ | refine so rfl ?_ | refine sb rfl ?_)
      refine ⟨p + 1, ⟨by omega, ?_⟩, by omega, Le.sub [] ⟨rfl, rfl, trivial⟩ rfl⟩
      rw [← hp.2, h2, Bool.true_and]
      rfl
  · repeat (first | refine sc rfl ?_ | refine so rfl ?_ | refine sb rfl ?_)
    refine ⟨_, rfl, rfl, ?_⟩
    rw [← hp.2, show l.drop p = [] from List.drop_eq_nil_of_le (by omega)]; rfl

theorem awake03_u : FnB Tryd.prog utfG 16 [] (· = B true) := by
  refine FnB.intro Tryd.tabOK Tryd.wide_ Tryd.func16 rfl (by decide) rfl (fun X hX => ?_)
  repeat (first | refine sc rfl ?_ | refine so rfl ?_ | refine sb rfl ?_)
  refine O_callB hX (Bad_u [97, 255] (by decide)) (by rfl) (by rfl) (by rfl) (by rfl) (fun r hr => ?_)
  subst hr
  rw [show badL [97, 255] = 1 by decide]
  repeat (first | refine sc rfl ?_ | refine so rfl ?_ | refine sb rfl ?_)
  refine O_callB hX (Valid_u [97, 195, 169] (by decide)) (by rfl) (by rfl) (by rfl) (by rfl) (fun r hr => ?_)
  subst hr
  rw [show badL [97, 195, 169] = -1 by decide]
  repeat (first | refine sc rfl ?_ | refine so rfl ?_ | refine sb rfl ?_)
  refine O_call (Name_p [97, 95, 49] (by decide)) (by rfl) (by rfl) (by rfl) (by rfl) (fun r hr => ?_)
  subst hr
  rw [show nameL [97, 95, 49] = true by decide]
  repeat (first | refine sc rfl ?_ | refine so rfl ?_ | refine sb rfl ?_)
  exact ⟨_, rfl, rfl, rfl⟩

theorem lawBad_u (l : List UInt8) (hl : l.length ≤ 9223372036854775000) : FnB Tryd.prog utfG 3 [.s l] (· = B true) := by
  refine FnB.intro Tryd.tabOK Tryd.wide_ Tryd.func3 rfl (by decide) rfl (fun X hX => ?_)
  repeat (first | refine sc rfl ?_ | refine so rfl ?_ | refine sb rfl ?_)
  refine O_callB hX (Bad_u l hl) (by rfl) (by rfl) (by rfl) (by rfl) (fun r hr => ?_)
  subst hr
  repeat (first | refine sc rfl ?_ | refine so rfl ?_ | refine sb rfl ?_)
  refine O_call (refBad_p l hl) (by rfl) (by rfl) (by rfl) (by rfl) (fun r hr => ?_)
  subst hr
  repeat (first | refine sc rfl ?_ | refine so rfl ?_ | refine sb rfl ?_)
  refine O_true 8 rfl (by simp) ?_
  repeat (first | refine sc rfl ?_ | refine so rfl ?_ | refine sb rfl ?_)
  refine O_callB hX (Valid_u l hl) (by rfl) (by rfl) (by rfl) (by rfl) (fun r hr => ?_)
  subst hr
  repeat (first | refine sc rfl ?_ | refine so rfl ?_ | refine sb rfl ?_)
  refine O_call (refBad_p l hl) (by rfl) (by rfl) (by rfl) (by rfl) (fun r hr => ?_)
  subst hr
  repeat (first | refine sc rfl ?_ | refine so rfl ?_ | refine sb rfl ?_)
  refine O_true 16 rfl (by simp) ?_
  repeat (first | refine sc rfl ?_ | refine so rfl ?_ | refine sb rfl ?_)
  refine O_callB hX (Count_u l hl) (by rfl) (by rfl) (by rfl) (by rfl) (fun r hr => ?_)
  subst hr
  repeat (first | refine sc rfl ?_ | refine so rfl ?_ | refine sb rfl ?_)
  refine O_call (refCount_p l hl) (by rfl) (by rfl) (by rfl) (by rfl) (fun r hr => ?_)
  subst hr
  repeat (first | refine sc rfl ?_ | refine so rfl ?_ | refine sb rfl ?_)
  refine O_true 23 rfl (by simp) ?_
  repeat (first | refine sc rfl ?_ | refine so rfl ?_ | refine sb rfl ?_)
  refine O_callB hX awake03_u (by rfl) (by rfl) (by rfl) (by rfl) (fun r hr => ?_)
  subst hr
  repeat (first | refine sc rfl ?_ | refine so rfl ?_ | refine sb rfl ?_)
  exact ⟨_, rfl, rfl, rfl⟩

theorem lawNames_u (l : List UInt8) (hl : l.length ≤ 9223372036854775000) : FnB Tryd.prog utfG 4 [.s l] (· = B true) := by
  refine FnB.intro Tryd.tabOK Tryd.wide_ Tryd.func4 rfl (by decide) rfl (fun X hX => ?_)
  repeat (first | refine sc rfl ?_ | refine so rfl ?_ | refine sb rfl ?_)
  refine O_call (Name_p l hl) (by rfl) (by rfl) (by rfl) (by rfl) (fun r hr => ?_)
  subst hr
  repeat (first | refine sc rfl ?_ | refine so rfl ?_ | refine sb rfl ?_)
  refine O_call (refName_p l hl) (by rfl) (by rfl) (by rfl) (by rfl) (fun r hr => ?_)
  subst hr
  repeat (first | refine sc rfl ?_ | refine so rfl ?_ | refine sb rfl ?_)
  refine O_true 8 rfl (by simp) ?_
  repeat (first | refine sc rfl ?_ | refine so rfl ?_ | refine sb rfl ?_)
  refine O_call (Name_p l hl) (by rfl) (by rfl) (by rfl) (by rfl) (fun r hr => ?_)
  subst hr
  repeat (first | refine sc rfl ?_ | refine so rfl ?_ | refine sb rfl ?_)
  refine O_case 12 rfl (fun h1 => ?_) (fun h1 => ?_) <;> simp only [Bool.not_eq_true', Bool.not_eq_false'] at h1 <;> repeat (first | refine sc rfl ?_ | refine so rfl ?_ | refine sb rfl ?_)
  · refine O_callB hX awake03_u (by rfl) (by rfl) (by rfl) (by rfl) (fun r hr => ?_)
    subst hr
    repeat (first | refine sc rfl ?_ | refine so rfl ?_ | refine sb rfl ?_)
    exact ⟨_, rfl, rfl, rfl⟩
  · obtain ⟨g1, g2⟩ := nameL_good h1
    refine O_callB hX (Valid_u l hl) (by rfl) (by rfl) (by rfl) (by rfl) (fun r hr => ?_)
    subst hr
    rw [decide_eq_true g1]
    repeat (first | refine sc rfl ?_ | refine so rfl ?_ | refine sb rfl ?_)
    refine O_callB hX (Count_u l hl) (by rfl) (by rfl) (by rfl) (by rfl) (fun r hr => ?_)
    subst hr
    rw [g2]
    repeat (first | refine sc rfl ?_ | refine so rfl ?_ | refine sb rfl ?_)
    simp only [beq_self_eq_true]
    repeat (first | refine sc rfl ?_ | refine so rfl ?_ | refine sb rfl ?_)
    refine O_callB hX awake03_u (by rfl) (by rfl) (by rfl) (by rfl) (fun r hr => ?_)
    subst hr
    repeat (first | refine sc rfl ?_ | refine so rfl ?_ | refine sb rfl ?_)
    exact ⟨_, rfl, rfl, rfl⟩

theorem lawTogether_u (a b : List UInt8) (hl : a.length + b.length ≤ 9223372036854775000) : FnB Tryd.prog utfG 5 [.s a, .s b] (· = B true) := by
  refine FnB.intro Tryd.tabOK Tryd.wide_ Tryd.func5 rfl (by decide) rfl (fun X hX => ?_)
  have hab : (a ++ b).length ≤ 9223372036854775000 := by rw [List.length_append]; omega
  have ba := badL_lt a
  have bb := badL_lt b
  have ca := cntL_le a
  have cb := cntL_le b
  repeat (first | refine sc rfl ?_ | refine so rfl ?_ | refine sb rfl ?_)
  refine O_callB hX (Bad_u a (by omega)) (by rfl) (by rfl) (by rfl) (by rfl) (fun r hr => ?_)
  subst hr
  repeat (first | refine sc rfl ?_ | refine so rfl ?_ | refine sb rfl ?_)
  refine O_callB hX (Bad_u b (by omega)) (by rfl) (by rfl) (by rfl) (by rfl) (fun r hr => ?_)
  subst hr
  repeat (first | refine sc rfl ?_ | refine so rfl ?_ | refine sb rfl ?_)
  refine O_join ⟨[(0, .s a), (1, .s b), (5, I64 (badL a)), (6, I64 (badL b)), (16, B (decide (badL a < 0 ∧ badL b < 0)))], []⟩ ?_ (fun s h => C_le _ h ?_)
  · have fin : ∀ x : Bool, x = decide (badL a < 0 ∧ badL b < 0) → some (B x) = some (B (decide (badL a < 0 ∧ badL b < 0))) := fun x hb => by rw [hb]
    refine O_case 13 rfl (fun h5 => ?_) (fun h5 => ?_) <;> simp only [decide_eq_true_eq, decide_eq_false_iff_not] at h5 <;> repeat (first | refine sc rfl ?_ | refine so rfl ?_ | refine sb rfl ?_)
    · exact Le.sub [] ⟨rfl, rfl, rfl, rfl, fin _ (by rw [Bool.eq_iff_iff]; simp only [decide_eq_true_eq]; omega), trivial⟩ rfl
    · exact Le.sub [] ⟨rfl, rfl, rfl, rfl, fin _ (by rw [Bool.eq_iff_iff]; simp only [decide_eq_true_eq, Bool.false_eq_true, false_iff]; omega), trivial⟩ rfl
  refine C_if rfl (fun h => ?_) (fun h => ?_) <;> simp only [decide_eq_true_eq, decide_eq_false_iff_not] at h
  · obtain ⟨g1, g2⟩ := together_good (b := b) h.1
    rw [if_pos h.2] at g1
    have g3 := g2 h.2
    repeat (first | refine sc rfl ?_ | refine so rfl ?_ | refine sb rfl ?_ | refine ⟨by omega, ?_⟩)
    refine O_callB hX (Bad_u (a ++ b) hab) (by rfl) (by rfl) (by rfl) (by rfl) (fun r hr => ?_)
    subst hr
    rw [g1]
    repeat (first | refine sc rfl ?_ | refine so rfl ?_ | refine sb rfl ?_ | refine ⟨by omega, ?_⟩)
    refine O_callB hX (Count_u (a ++ b) hab) (by rfl) (by rfl) (by rfl) (by rfl) (fun r hr => ?_)
    subst hr
    repeat (first | refine sc rfl ?_ | refine so rfl ?_ | refine sb rfl ?_ | refine ⟨by omega, ?_⟩)
    refine O_callB hX (Count_u a (by omega)) (by rfl) (by rfl) (by rfl) (by rfl) (fun r hr => ?_)
    subst hr
    repeat (first | refine sc rfl ?_ | refine so rfl ?_ | refine sb rfl ?_ | refine ⟨by omega, ?_⟩)
    refine O_callB hX (Count_u b (by omega)) (by rfl) (by rfl) (by rfl) (by rfl) (fun r hr => ?_)
    subst hr
    repeat (first | refine sc rfl ?_ | refine so rfl ?_ | refine sb rfl ?_ | refine ⟨by omega, ?_⟩)
    rw [w64 (by omega) (by omega), g3]
    refine O_true 34 rfl (by simp) ?_
    repeat (first | refine sc rfl ?_ | refine so rfl ?_ | refine sb rfl ?_ | refine ⟨by omega, ?_⟩)
    refine O_callB hX awake03_u (by rfl) (by rfl) (by rfl) (by rfl) (fun r hr => ?_)
    subst hr
    repeat (first | refine sc rfl ?_ | refine so rfl ?_ | refine sb rfl ?_)
    exact ⟨_, rfl, rfl, rfl⟩
  repeat (first | refine sc rfl ?_ | refine so rfl ?_ | refine sb rfl ?_)
  refine C_if rfl (fun h2 => ?_) (fun h2 => ?_) <;> simp only [decide_eq_true_eq, decide_eq_false_iff_not] at h2
  · obtain ⟨g1, g2⟩ := together_good (b := b) h2
    rw [if_neg (by omega)] at g1
    repeat (first | refine sc rfl ?_ | refine so rfl ?_ | refine sb rfl ?_ | refine ⟨by omega, ?_⟩)
    refine O_callB hX (Bad_u (a ++ b) hab) (by rfl) (by rfl) (by rfl) (by rfl) (fun r hr => ?_)
    subst hr
    rw [g1]
    repeat (first | refine sc rfl ?_ | refine so rfl ?_ | refine sb rfl ?_ | refine ⟨by omega, ?_⟩)
    refine O_true 48 rfl (by rw [w64 (by omega) (by omega)]; simp) ?_
    repeat (first | refine sc rfl ?_ | refine so rfl ?_ | refine sb rfl ?_ | refine ⟨by omega, ?_⟩)
    refine O_callB hX awake03_u (by rfl) (by rfl) (by rfl) (by rfl) (fun r hr => ?_)
    subst hr
    repeat (first | refine sc rfl ?_ | refine so rfl ?_ | refine sb rfl ?_)
    exact ⟨_, rfl, rfl, rfl⟩
  · have g1 := together_bad b h2
    have hc0 : cntL a = 0 := by unfold cntL; rw [if_neg h2]
    repeat (first | refine sc rfl ?_ | refine so rfl ?_ | refine sb rfl ?_ | refine ⟨by omega, ?_⟩)
    refine O_callB hX (Bad_u (a ++ b) hab) (by rfl) (by rfl) (by rfl) (by rfl) (fun r hr => ?_)
    subst hr
    repeat (first | refine sc rfl ?_ | refine so rfl ?_ | refine sb rfl ?_ | refine ⟨by omega, ?_⟩)
    refine O_case 57 rfl (fun h3 => ?_) (fun h3 => ?_) <;> repeat (first | refine sc rfl ?_ | refine so rfl ?_ | refine sb rfl ?_ | refine ⟨by omega, ?_⟩)
    · refine O_callB hX (Count_u a (by omega)) (by rfl) (by rfl) (by rfl) (by rfl) (fun r hr => ?_)
      subst hr
      rw [hc0]
      repeat (first | refine sc rfl ?_ | refine so rfl ?_ | refine sb rfl ?_ | refine ⟨by omega, ?_⟩)
      refine O_callB hX awake03_u (by rfl) (by rfl) (by rfl) (by rfl) (fun r hr => ?_)
      subst hr
      repeat (first | refine sc rfl ?_ | refine so rfl ?_ | refine sb rfl ?_)
      exact ⟨_, rfl, rfl, rfl⟩
    · rw [w64 (by omega) (by omega)]
      refine O_true 64 rfl (by
        rw [decide_eq_true_eq]
        refine Decidable.byContradiction fun hn => ?_
        rw [g1 hn] at h3
        simp at h3) ?_
      repeat (first | refine sc rfl ?_ | refine so rfl ?_ | refine sb rfl ?_ | refine ⟨by omega, ?_⟩)
      refine O_callB hX (Count_u a (by omega)) (by rfl) (by rfl) (by rfl) (by rfl) (fun r hr => ?_)
      subst hr
      rw [hc0]
      repeat (first | refine sc rfl ?_ | refine so rfl ?_ | refine sb rfl ?_ | refine ⟨by omega, ?_⟩)
      refine O_callB hX awake03_u (by rfl) (by rfl) (by rfl) (by rfl) (fun r hr => ?_)
      subst hr
      repeat (first | refine sc rfl ?_ | refine so rfl ?_ | refine sb rfl ?_)
      exact ⟨_, rfl, rfl, rfl⟩
end Go.Proofs
