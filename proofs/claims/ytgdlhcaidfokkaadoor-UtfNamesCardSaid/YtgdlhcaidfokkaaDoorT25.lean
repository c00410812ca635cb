/- Contracts at the door seat, part five: names. -/
import Derived.Test.YtgdlhcaidfokkaaDoorT24
set_option linter.unusedSimpArgs false
set_option linter.unusedVariables false
set_option maxRecDepth 100000
namespace Go.Proofs
open Go.Sy Go.Lib
abbrev I32 (n : Int) : AV := .v (.int .i32 n)

theorem letter_p (c : Int) : FnP Tryd.prog 33 [I32 c] (· = B (letB c)) := by
  refine FnP.intro Tryd.tabOK Tryd.wide_ Tryd.func33 rfl (by decide) rfl (fun X => ?_)
  have fin : ∀ b : Bool, b = letB c → B b = B (letB c) := fun b hb => by rw [hb]
  repeat (first | refine sc rfl ?_ | refine so rfl ?_ | refine sb rfl ?_)
  refine O_case 5 rfl (fun h1 => ?_) (fun h1 => ?_) <;> simp at h1 <;> repeat (first | refine sc rfl ?_ | refine so rfl ?_ | refine sb rfl ?_)
  · refine O_case 9 rfl (fun h2 => ?_) (fun h2 => ?_) <;> simp at h2 <;> repeat (first | refine sc rfl ?_ | refine so rfl ?_ | refine sb rfl ?_)
    · exact ⟨_, rfl, rfl, fin _ (by unfold letB; rw [Bool.eq_iff_iff]; simp; omega)⟩
    · refine O_case 12 rfl (fun h3 => ?_) (fun h3 => ?_) <;> simp at h3 <;> repeat (first | refine sc rfl ?_ | refine so rfl ?_ | refine sb rfl ?_)
      · exact ⟨_, rfl, rfl, fin _ (by unfold letB; rw [Bool.eq_iff_iff]; simp; omega)⟩
      · exact ⟨_, rfl, rfl, fin _ (by unfold letB; rw [Bool.eq_iff_iff]; simp; omega)⟩
  · refine O_case 12 rfl (fun h3 => ?_) (fun h3 => ?_) <;> simp at h3 <;> repeat (first | refine sc rfl ?_ | refine so rfl ?_ | refine sb rfl ?_)
    · exact ⟨_, rfl, rfl, fin _ (by unfold letB; rw [Bool.eq_iff_iff]; simp; omega)⟩
    · exact ⟨_, rfl, rfl, fin _ (by unfold letB; rw [Bool.eq_iff_iff]; simp; omega)⟩

theorem Name_p (l : List UInt8) (hl : l.length ≤ 9223372036854775000) : FnP Tryd.prog 17 [.s l] (· = B (nameL l)) := by
  refine FnP.intro Tryd.tabOK Tryd.wide_ Tryd.func17 rfl (by decide) rfl (fun X => ?_)
  repeat (first | refine sc rfl ?_ | refine so rfl ?_ | refine sb rfl ?_)
  refine O_range rfl rfl rfl rfl rfl rfl rfl ?_
  repeat (first | refine sc rfl ?_ | refine so rfl ?_ | refine sb rfl ?_)
  refine C_loop (fun p : Nat => ⟨[(0, .s l), (6, .bp 6 0)], [.obj 6 (.stringIter ⟨l.toArray⟩ p)]⟩) (fun p => p ≤ l.length ∧ nameF (l.drop p) (p == 0) = nameF l true) (fun p => l.length - p) 0 ⟨by omega, rfl⟩ (Le.sub [6] ⟨rfl, rfl, trivial⟩ rfl) (fun p hp => ?_)
  repeat (first | refine sc rfl ?_ | refine so rfl ?_ | refine sb rfl ?_)
  refine O_next rfl rfl rfl rfl (fun h => ?_) (fun h => ?_)
  · rw [dec_rn]
    have hne : l.drop p ≠ [] := fun he => by
      have := congrArg List.length he
      simp at this; omega
    have h1 := rn_pos (l.drop p)
    have h2 := nameF_drop h (p == 0)
    rw [← Nat.add_zero p, ← by_drop, Nat.add_zero, ← ok_rn] at h2
    obtain ⟨c, hc⟩ : ∃ c, (rn (l.drop p)).1 = c := ⟨_, rfl⟩
    rw [hc] at h2 ⊢
    repeat (first | refine sc rfl ?_ | refine so rfl ?_ | refine sb rfl ?_)
    refine C_true rfl rfl ?_
    repeat (first | refine sc rfl ?_ | refine so rfl ?_ | refine sb rfl ?_)
    refine O_call (letter_p (c : Int)) (by rfl) (by rfl) (by rfl) (by rfl) (fun r hr => ?_)
    subst hr
    repeat (first | refine sc rfl ?_ | refine so rfl ?_ | refine sb rfl ?_)
    refine O_join ⟨[(0, .s l), (6, .bp 6 0), (29, B (!(okB (c : Int) (p == 0))))], [.obj 6 (.stringIter ⟨l.toArray⟩ (p + (rn (l.drop p)).2))]⟩ ?_ (fun s h => C_le _ h ?_)
    · have fin : ∀ b : Bool, b = (!(okB (c : Int) (p == 0))) → some (B b) = some (B (!(okB (c : Int) (p == 0)))) := fun b hb => by rw [hb]
      have hp0 : ((p : Int) == 0) = (p == 0) := by rw [Bool.eq_iff_iff]; simp
      unfold okB at fin ⊢
      refine O_case 14 rfl (fun h3 => ?_) (fun h3 => ?_) <;> simp only [Bool.not_eq_true', Bool.not_eq_false'] at h3 <;> repeat (first | refine sc rfl ?_ | refine so rfl ?_ | refine sb rfl ?_)
      · refine O_case 17 rfl (fun h4 => ?_) (fun h4 => ?_) <;> repeat (first | refine sc rfl ?_ | refine so rfl ?_ | refine sb rfl ?_)
        · exact Le.sub [6] ⟨rfl, rfl, fin _ (by rw [← hp0, h3, h4]; rfl), trivial⟩ rfl
        · refine O_case 20 rfl (fun h5 => ?_) (fun h5 => ?_) <;> simp at h5 <;> repeat (first | refine sc rfl ?_ | refine so rfl ?_ | refine sb rfl ?_)
          · refine O_case 23 rfl (fun h6 => ?_) (fun h6 => ?_) <;> simp at h6 <;> repeat (first | refine sc rfl ?_ | refine so rfl ?_ | refine sb rfl ?_)
            · exact Le.sub [6] ⟨rfl, rfl, fin _ (by rw [← hp0, h3, h4, Bool.eq_iff_iff]; simp; omega), trivial⟩ rfl
            · exact Le.sub [6] ⟨rfl, rfl, fin _ (by rw [← hp0, h3, h4, Bool.eq_iff_iff]; simp; omega), trivial⟩ rfl
          · exact Le.sub [6] ⟨rfl, rfl, fin _ (by rw [← hp0, h3, h4, Bool.eq_iff_iff]; simp; omega), trivial⟩ rfl
      · exact Le.sub [6] ⟨rfl, rfl, fin _ (by rw [h3]; rfl), trivial⟩ rfl
    refine C_if rfl (fun h3 => ?_) (fun h3 => ?_) <;> simp only [Bool.not_eq_true', Bool.not_eq_false'] at h3
    · rw [h3] at h2
      repeat (first | refine sc rfl ?_ | refine so rfl ?_ | refine sb rfl ?_)
      refine ⟨_, rfl, rfl, ?_⟩
      unfold nameL
      rw [← hp.2, h2, Bool.false_and, Bool.and_false]
    · rw [h3] at h2
      have hw : (rn (l.drop p)).2 = 1 := ok_width (f := p == 0) (by rw [hc]; exact h3)
      rw [hw]
      repeat (first | refine sc rfl ?_ | refine so rfl ?_ | refine sb rfl ?_)
      refine ⟨p + 1, ⟨by omega, ?_⟩, by omega, Le.sub [6] ⟨rfl, rfl, trivial⟩ rfl⟩
      rw [← hp.2, h2, Bool.true_and]
      rfl
  · repeat (first | refine sc rfl ?_ | refine so rfl ?_ | refine sb rfl ?_)
    refine C_false rfl rfl ?_
    have hn : nameF l true = true := by
      rw [← hp.2, show l.drop p = [] from List.drop_eq_nil_of_le (by omega)]; rfl
    have fin : ∀ b : Bool, b = nameL l → B b = B (nameL l) := fun b hb => by rw [hb]
    repeat (first | refine sc rfl ?_ | refine so rfl ?_ | refine sb rfl ?_)
    refine O_case 32 rfl (fun h5 => ?_) (fun h5 => ?_) <;> simp at h5 <;> repeat (first | refine sc rfl ?_ | refine so rfl ?_ | refine sb rfl ?_)
    · have : 0 < l.length := List.length_pos_iff.2 h5
      exact ⟨_, rfl, rfl, fin _ (by unfold nameL; rw [hn, Bool.and_true, Bool.eq_iff_iff]; simp; omega)⟩
    · subst h5
      exact ⟨_, rfl, rfl, fin _ (by unfold nameL; rw [Bool.eq_iff_iff]; simp)⟩
end Go.Proofs
