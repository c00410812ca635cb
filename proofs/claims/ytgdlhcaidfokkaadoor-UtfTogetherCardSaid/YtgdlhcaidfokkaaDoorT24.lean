/- Contracts at the door seat, part four: the rest of utf. -/
import Derived.Test.YtgdlhcaidfokkaaDoorT23
import Derived.Test.YtgdlhcaidfokkaaDoorShd
set_option linter.unusedSimpArgs false
set_option linter.unusedVariables false
set_option maxRecDepth 100000
namespace Go.Proofs
open Go.Sy Go.Lib

theorem Bad_u (l : List UInt8) (hl : l.length ≤ 9223372036854775000) : FnB Tryd.prog utfG 11 [.s l] (· = I64 (badL l)) :=
  Bad_p (fun l h => Decode_p Tryd.utf8_DecodeRuneInString l h) l (by omega)

theorem refBad_p (l : List UInt8) (hl : l.length ≤ 9223372036854775000) : FnP Tryd.prog 12 [.s l] (· = I64 (badL l)) := by
  refine FnP.intro Tryd.tabOK Tryd.wide_ Tryd.func12 rfl (by decide) rfl (fun X => ?_)
  repeat (first | refine sc rfl ?_ | refine so rfl ?_ | refine sb rfl ?_)
  refine C_loop (fun p : Nat => ⟨[(0, .s l), (3, I64 p)], []⟩) (fun p => p ≤ l.length ∧ scan (l.drop p) p = badL l) (fun p => l.length - p) 0 ⟨by omega, rfl⟩ (Le.sub [] ⟨rfl, rfl, trivial⟩ rfl) (fun p hp => ?_)
  repeat (first | refine sc rfl ?_ | refine so rfl ?_ | refine sb rfl ?_)
  refine C_if rfl (fun h => ?_) (fun h => ?_) <;> simp only [decide_eq_true_eq, decide_eq_false_iff_not] at h
  · have h' : p < l.length := by omega
    have hne : l.drop p ≠ [] := fun he => by
      have := congrArg List.length he
      simp at this; omega
    have h2 := wd_len (l.drop p) hne
    rw [List.length_drop] at h2
    repeat (first | refine sc rfl ?_ | refine so rfl ?_ | refine sb rfl ?_)
    refine O_call (Rune_p l p h' hl) (by rfl) (by rfl) (by rfl) (by rfl) (fun r hr => ?_)
    subst hr
    repeat (first | refine sc rfl ?_ | refine so rfl ?_ | refine sb rfl ?_)
    refine C_if rfl (fun hc => ?_) (fun hc => ?_)
    · have hw : wd (l.drop p) = 0 := by simp at hc; omega
      repeat (first | refine sc rfl ?_ | refine so rfl ?_ | refine sb rfl ?_)
      refine ⟨_, rfl, rfl, ?_⟩
      rw [← hp.2, scan_bad hne hw]
    · have hw : wd (l.drop p) ≠ 0 := by simp at hc; omega
      repeat (first | refine sc rfl ?_ | refine so rfl ?_ | refine sb rfl ?_)
      rw [w64 (by omega) (by omega)]
      repeat (first | refine sc rfl ?_ | refine so rfl ?_ | refine sb rfl ?_)
      refine ⟨p + wd (l.drop p), ⟨by omega, ?_⟩, by omega, Le.sub [] ⟨rfl, congrArg (fun x => some (I64 x)) (by omega), trivial⟩ rfl⟩
      rw [← hp.2, scan_step hne hw, List.drop_drop]
  · repeat (first | refine sc rfl ?_ | refine so rfl ?_ | refine sb rfl ?_)
    refine ⟨_, rfl, rfl, ?_⟩
    rw [← hp.2, show l.drop p = [] from List.drop_eq_nil_of_le (by omega)]
    rfl

theorem Valid_u (l : List UInt8) (hl : l.length ≤ 9223372036854775000) : FnB Tryd.prog utfG 13 [.s l] (· = B (decide (badL l < 0))) := by
  refine FnB.intro Tryd.tabOK Tryd.wide_ Tryd.func13 rfl (by decide) rfl (fun X hX => ?_)
  repeat (first | refine sc rfl ?_ | refine so rfl ?_ | refine sb rfl ?_)
  refine O_callB hX (Bad_u l hl) (by rfl) (by rfl) (by rfl) (by rfl) (fun r hr => ?_)
  subst hr
  repeat (first | refine sc rfl ?_ | refine so rfl ?_ | refine sb rfl ?_)
  exact ⟨_, rfl, rfl, rfl⟩

theorem Count_u (l : List UInt8) (hl : l.length ≤ 9223372036854775000) : FnB Tryd.prog utfG 14 [.s l] (· = I64 (cntL l : Nat)) := by
  refine FnB.intro Tryd.tabOK Tryd.wide_ Tryd.func14 rfl (by decide) rfl (fun X hX => ?_)
  repeat (first | refine sc rfl ?_ | refine so rfl ?_ | refine sb rfl ?_)
  refine O_callB hX (Valid_u l hl) (by rfl) (by rfl) (by rfl) (by rfl) (fun r hr => ?_)
  subst hr
  repeat (first | refine sc rfl ?_ | refine so rfl ?_ | refine sb rfl ?_)
  have hle := cntL_le l
  refine C_if rfl (fun h => ?_) (fun h => ?_) <;> simp only [Bool.not_eq_true', Bool.not_eq_false', decide_eq_true_eq, decide_eq_false_iff_not] at h
  · repeat (first | refine sc rfl ?_ | refine so rfl ?_ | refine sb rfl ?_)
    exact ⟨_, rfl, rfl, by unfold cntL; rw [if_neg h]; rfl⟩
  have hcn : cntL l = cnt l := by unfold cntL; rw [if_pos h]; rfl
  repeat (first | refine sc rfl ?_ | refine so rfl ?_ | refine sb rfl ?_)
  refine O_range rfl rfl rfl rfl rfl rfl rfl ?_
  repeat (first | refine sc rfl ?_ | refine so rfl ?_ | refine sb rfl ?_)
  refine C_loop (fun q : Nat × Nat => ⟨[(0, .s l), (3, I64 q.2), (8, .bp 8 0)], [.obj 8 (.stringIter ⟨l.toArray⟩ q.1)]⟩) (fun q => q.1 ≤ l.length ∧ q.2 ≤ q.1 ∧ scan (l.drop q.1) q.1 < 0 ∧ q.2 + cnt (l.drop q.1) = cntL l) (fun q => l.length - q.1) (0, 0)
    ⟨by simp only []; omega, Nat.le_refl _, h, by simp only [List.drop_zero]; omega⟩ (Le.sub [8] ⟨rfl, rfl, rfl, trivial⟩ rfl) ?_
  rintro ⟨p, k⟩ ⟨hp, hk, hs, hc⟩
  simp only [] at hp hk hs hc
  repeat (first | refine sc rfl ?_ | refine so rfl ?_ | refine sb rfl ?_)
  refine O_next rfl rfl rfl rfl (fun h => ?_) (fun h => ?_)
  · rw [dec_rn]
    have hne : l.drop p ≠ [] := fun he => by
      have := congrArg List.length he
      simp at this; omega
    have h1 := rn_pos (l.drop p)
    have h2 := wd_len (l.drop p) hne
    rw [List.length_drop] at h2
    have hw0 : wd (l.drop p) ≠ 0 := fun hw => by rw [scan_bad hne hw] at hs; omega
    have hw : wd (l.drop p) = (rn (l.drop p)).2 := by
      have h3 : wd (l.drop p) = wdN (rn (l.drop p)) := rfl
      rw [h3] at hw0 ⊢
      unfold wdN at hw0 ⊢
      split
      · rename_i h4; rw [if_pos h4] at hw0; exact absurd rfl hw0
      · rfl
    rw [scan_step hne hw0, List.drop_drop, hw] at hs
    rw [cnt_step hne hw0, List.drop_drop, hw] at hc
    repeat (first | refine sc rfl ?_ | refine so rfl ?_ | refine sb rfl ?_)
    refine C_true rfl rfl ?_
    repeat (first | refine sc rfl ?_ | refine so rfl ?_ | refine sb rfl ?_)
    rw [w64 (by omega) (by omega)]
    repeat (first | refine sc rfl ?_ | refine so rfl ?_ | refine sb rfl ?_)
    exact ⟨(p + (rn (l.drop p)).2, k + 1), ⟨by simp only []; omega, by simp only []; omega, hs, by simp only []; omega⟩, by simp only []; omega, Le.sub [8] ⟨rfl, congrArg (fun x => some (I64 x)) (by simp only []; omega), rfl, trivial⟩ rfl⟩
  · repeat (first | refine sc rfl ?_ | refine so rfl ?_ | refine sb rfl ?_)
    refine C_false rfl rfl ?_
    repeat (first | refine sc rfl ?_ | refine so rfl ?_ | refine sb rfl ?_)
    refine ⟨_, rfl, rfl, ?_⟩
    rw [show l.drop p = [] from List.drop_eq_nil_of_le (by omega), cnt_nil] at hc
    rw [← hc]; rfl

theorem refCount_p (l : List UInt8) (hl : l.length ≤ 9223372036854775000) : FnP Tryd.prog 15 [.s l] (· = I64 (cntL l : Nat)) := by
  refine FnP.intro Tryd.tabOK Tryd.wide_ Tryd.func15 rfl (by decide) rfl (fun X => ?_)
  have hle := cntL_le l
  repeat (first | refine sc rfl ?_ | refine so rfl ?_ | refine sb rfl ?_)
  refine C_loop (fun q : Nat × Nat => ⟨[(0, .s l), (3, I64 q.2), (4, I64 q.1)], []⟩) (fun q => q.1 ≤ l.length ∧ q.2 ≤ q.1 ∧ scan (l.drop q.1) q.1 = badL l ∧ (badL l < 0 → q.2 + cnt (l.drop q.1) = cntL l)) (fun q => l.length - q.1) (0, 0)
    ⟨by simp only []; omega, Nat.le_refl _, rfl, fun h => by unfold cntL; rw [if_pos h]; simp only [List.drop_zero, Nat.zero_add]; rfl⟩ (Le.sub [] ⟨rfl, rfl, rfl, trivial⟩ rfl) ?_
  rintro ⟨p, k⟩ ⟨hp, hk, hs, hc⟩
  simp only [] at hp hk hs hc
  repeat (first | refine sc rfl ?_ | refine so rfl ?_ | refine sb rfl ?_)
  refine C_if rfl (fun h => ?_) (fun h => ?_) <;> simp only [decide_eq_true_eq, decide_eq_false_iff_not] at h
  · have h' : p < l.length := by omega
    have hne : l.drop p ≠ [] := fun he => by
      have := congrArg List.length he
      simp at this; omega
    have h2 := wd_len (l.drop p) hne
    rw [List.length_drop] at h2
    repeat (first | refine sc rfl ?_ | refine so rfl ?_ | refine sb rfl ?_)
    refine O_call (Rune_p l p h' hl) (by rfl) (by rfl) (by rfl) (by rfl) (fun r hr => ?_)
    subst hr
    repeat (first | refine sc rfl ?_ | refine so rfl ?_ | refine sb rfl ?_)
    refine C_if rfl (fun hc => ?_) (fun hc' => ?_)
    · have hw : wd (l.drop p) = 0 := by simp at hc; omega
      rw [scan_bad hne hw] at hs
      repeat (first | refine sc rfl ?_ | refine so rfl ?_ | refine sb rfl ?_)
      refine ⟨_, rfl, rfl, ?_⟩
      unfold cntL
      rw [if_neg (by omega)]
      rfl
    · have hw : wd (l.drop p) ≠ 0 := by simp at hc'; omega
      rw [scan_step hne hw, List.drop_drop] at hs
      rw [cnt_step hne hw, List.drop_drop] at hc
      repeat (first | refine sc rfl ?_ | refine so rfl ?_ | refine sb rfl ?_)
      rw [w64 (x := (p : Int) + ((wd (l.drop p) : Nat) : Int)) (by omega) (by omega), w64 (x := (k : Int) + 1) (by omega) (by omega)]
      repeat (first | refine sc rfl ?_ | refine so rfl ?_ | refine sb rfl ?_)
      exact ⟨(p + wd (l.drop p), k + 1), ⟨by simp only []; omega, by simp only []; omega, hs, fun hb => by have := hc hb; simp only []; omega⟩, by simp only []; omega, Le.sub [] ⟨rfl, congrArg (fun x => some (I64 x)) (by simp only []; omega), congrArg (fun x => some (I64 x)) (by simp only []; omega), trivial⟩ rfl⟩
  · have hd : l.drop p = [] := List.drop_eq_nil_of_le (by omega)
    rw [hd] at hs hc
    have hb : badL l < 0 := by rw [← hs, scan_nil]; decide
    have := hc hb
    rw [cnt_nil] at this
    repeat (first | refine sc rfl ?_ | refine so rfl ?_ | refine sb rfl ?_)
    refine ⟨_, rfl, rfl, ?_⟩
    rw [← this]; rfl
end Go.Proofs
