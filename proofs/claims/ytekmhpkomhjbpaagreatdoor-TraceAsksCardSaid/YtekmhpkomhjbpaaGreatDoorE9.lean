/- Contracts of the document's: numbers, configurations. -/
import Derived.Test.YtekmhpkomhjbpaaGreatDoorE8
import Derived.Test.YtekmhpkomhjbpaaGreatDoorE4
import Derived.Test.YtekmhpkomhjbpaaGreatDoorE5
import Derived.Test.YtekmhpkomhjbpaaGreatDoorE7
import Derived.Test.YtekmhpkomhjbpaaGreatDoorE3
set_option linter.unusedSimpArgs false
set_option linter.unusedVariables false
set_option maxRecDepth 100000
namespace Go.Proofs
open Go.Sy Go.Lib

/-- The document's number that is not too great. -/
def rInt (m : Nat) (l : List UInt8) : Int × Nat × Int := if (tk l).2.2 ≠ 0 then (0, 0, (tk l).2.2) else if m < (tk l).1 then (0, 0, 3) else ((tk l).1, (tk l).2.1, 0)
theorem rInt_c (m : Nat) (hm : m ≤ 9223372036854775807) (l : List UInt8) (hl : l.length ≤ 9223372036854775807) : FnP Tryz.prog 90 [.s l, I64 (m : Nat)] (· = .tup [I64 (rInt m l).1, I64 (((rInt m l).2.1 : Nat) : Int), I64 (rInt m l).2.2]) := by
  refine FnP.intro Tryz.tabOK Tryz.wide_ Tryz.func90 rfl (by decide) rfl (fun X => ?_)
  unfold rInt
  repeat (first | refine sc rfl ?_ | refine so rfl ?_ | refine sb rfl ?_)
  refine O_call (refTake01_p l hl) (by rfl) (by rfl) (by rfl) (by rfl) (fun r hr => ?_)
  subst hr
  obtain ⟨n, k, e, ht⟩ : ∃ n k e, tk l = (n, k, e) := ⟨_, _, _, rfl⟩
  rw [ht]
  simp only []
  repeat (first | refine sc rfl ?_ | refine so rfl ?_ | refine sb rfl ?_)
  refine C_if rfl (fun m1 => ?_) (fun m1 => ?_) <;> simp only [decide_eq_true_eq, decide_eq_false_iff_not, Bool.not_eq_true', Bool.not_eq_false', beq_iff_eq, beq_eq_false_iff_ne, bne_iff_ne, ne_eq, bne_eq_false_iff_eq, Decidable.not_not] at m1
  · rw [if_pos m1]
    repeat (first | refine sc rfl ?_ | refine so rfl ?_ | refine sb rfl ?_)
    exact ⟨_, rfl, rfl, rfl⟩
  rw [if_neg (fun h => h m1)]
  repeat (first | refine sc rfl ?_ | refine so rfl ?_ | refine sb rfl ?_)
  refine C_false rfl (decide_eq_false (by omega)) ?_
  repeat (first | refine sc rfl ?_ | refine so rfl ?_ | refine sb rfl ?_)
  rw [u64wrap (x := (m : Int)) (by omega) (by omega)]
  refine C_if rfl (fun m2 => ?_) (fun m2 => ?_) <;> simp only [decide_eq_true_eq, decide_eq_false_iff_not, Bool.not_eq_true', Bool.not_eq_false', beq_iff_eq, beq_eq_false_iff_ne, bne_iff_ne, ne_eq, bne_eq_false_iff_eq, Decidable.not_not] at m2
  · rw [if_pos (by omega)]
    repeat (first | refine sc rfl ?_ | refine so rfl ?_ | refine sb rfl ?_)
    exact ⟨_, rfl, rfl, rfl⟩
  · rw [if_neg (by omega)]
    repeat (first | refine sc rfl ?_ | refine so rfl ?_ | refine sb rfl ?_)
    rw [w64 (x := (n : Int)) (by omega) (by omega)]
    exact ⟨_, rfl, rfl, rfl⟩

abbrev mostL : List Int := [1048576, 1048576, 1048576, 1048576, 64, 64, 16, 1048576, 1048576]
def okR (l : List Int) (j : Nat) : Prop := 0 ≤ l.getD j 0 ∧ l.getD j 0 ≤ mostL.getD j 0
instance (l : List Int) (j : Nat) : Decidable (okR l j) := inferInstanceAs (Decidable (_ ∧ _))
abbrev zCF : Cf := ⟨0, 0, 0, 0, 0, 0, 0, 0, 0⟩
theorem L2_step (l : List Int) (h9 : l.length = 9) (i : Nat) (hi : i < 9) : ConfOfR_L2 l (i : Int) = if okR l i then some (.inl ((i + 1 : Nat) : Int)) else some (.inr (.inl (zCF, 1))) := by
  have hd : l.getD i default = l.getD i 0 := rfl
  have hd2 : mostL.getD i default = mostL.getD i 0 := rfl
  unfold ConfOfR_L2
  rw [show decide ((i : Int) < 9) = true from decide_eq_true (by omega)]
  simp only [cond_true, Int.toNat_natCast]
  rw [chk_pos (by omega)]
  by_cases h1 : l.getD i 0 < 0
  · rw [show decide (l.getD i default < 0) = true from decide_eq_true h1]
    rw [if_neg (fun h => by have := h.1; omega)]
    rfl
  · rw [show decide (l.getD i default < 0) = false from decide_eq_false h1]
    simp only [cond_false]
    rw [chk_pos (by omega), chk_pos (by simp; omega)]
    by_cases h2 : mostL.getD i 0 < l.getD i 0
    · rw [show decide (mostL.getD i default < l.getD i default) = true from decide_eq_true h2]
      rw [if_neg (fun h => by have := h.2; omega)]
      rfl
    · rw [show decide (mostL.getD i default < l.getD i default) = false from decide_eq_false h2]
      rw [if_pos ⟨by omega, by omega⟩]
      simp only [cond_false]
      rw [w64 (by omega) (by omega)]
      rfl
theorem L2_run (l : List Int) (h9 : l.length = 9) : ∀ (n i : Nat), i + n = 9 → ((∀ j, j < 9 → i ≤ j → okR l j) → Iter (ConfOfR_L2 l) (i : Int) = some (.inr ())) ∧ ((¬ ∀ j, j < 9 → i ≤ j → okR l j) → Iter (ConfOfR_L2 l) (i : Int) = some (.inl (zCF, 1)))
  | 0, i, h => by
    obtain rfl : i = 9 := by omega
    exact ⟨fun _ => Iter_end rfl, fun h3 => absurd (fun j h1 h2 => by omega) h3⟩
  | n + 1, i, h => by
    have hs := L2_step l h9 i (by omega)
    have ih := L2_run l h9 n (i + 1) (by omega)
    by_cases h1 : okR l i
    · rw [if_pos h1] at hs
      rw [Iter_next hs]
      refine ⟨fun h2 => ih.1 (fun j a b => h2 j a (by omega)), fun h2 => ih.2 (fun h3 => h2 (fun j a b => ?_))⟩
      by_cases e : j = i
      · subst e; exact h1
      · exact h3 j a (by omega)
    · rw [if_neg h1] at hs
      rw [Iter_end hs]
      exact ⟨fun h3 => absurd (h3 i (by omega) (Nat.le_refl _)) h1, fun _ => rfl⟩
theorem ck_iff (v : Nat → Int) : ckF (Cf.ofV v) = 0 ↔ (∀ j, j < 9 → 0 ≤ v j ∧ v j ≤ mostL.getD j 0) ∧ 1040 ≤ v 0 := by
  have hl : ∀ j, j < 9 → (Cf.ofV v).l.getD j 0 = v j := fun j hj => by
    rcases (by omega : j = 0 ∨ j = 1 ∨ j = 2 ∨ j = 3 ∨ j = 4 ∨ j = 5 ∨ j = 6 ∨ j = 7 ∨ j = 8) with rfl | rfl | rfl | rfl | rfl | rfl | rfl | rfl | rfl <;> rfl
  have hh : ∀ j, j < 9 → hiP j = mostL.getD j 0 := fun j hj => by
    rcases (by omega : j = 0 ∨ j = 1 ∨ j = 2 ∨ j = 3 ∨ j = 4 ∨ j = 5 ∨ j = 6 ∨ j = 7 ∨ j = 8) with rfl | rfl | rfl | rfl | rfl | rfl | rfl | rfl | rfl <;> rfl
  unfold ckF
  constructor
  · intro h
    have h1 : ∀ i : Fin 9, okAt (Cf.ofV v) i.val = true := by
      refine Classical.byContradiction (fun h2 => ?_)
      rw [if_neg h2] at h
      cases h
    have h2 : ∀ j, j < 9 → loP j ≤ v j ∧ v j ≤ mostL.getD j 0 := fun j hj => by
      have := h1 ⟨j, hj⟩
      unfold okAt at this
      simp only [Bool.and_eq_true, decide_eq_true_eq] at this
      rw [hl j hj, hh j hj] at this
      exact this
    refine ⟨fun j hj => ⟨?_, (h2 j hj).2⟩, ?_⟩
    · have := (h2 j hj).1
      unfold loP at this
      split at this <;> omega
    · have := (h2 0 (by decide)).1
      exact this
  · rintro ⟨h1, h2⟩
    rw [if_pos]
    intro i
    unfold okAt
    simp only [Bool.and_eq_true, decide_eq_true_eq]
    rw [hl _ i.isLt, hh _ i.isLt]
    refine ⟨?_, (h1 i.val i.isLt).2⟩
    unfold loP
    split
    · rename_i h; rw [h]; exact h2
    · exact (h1 i.val i.isLt).1
theorem ConfOfR_eq (l : List Int) : ConfOfR_F l = some (confOfF l) := by
  unfold ConfOfR_F confOfF
  by_cases h9 : l.length = 9
  · rw [if_pos h9, show ((l.length : Int) != 9) = false by simp; omega]
    simp only [cond_false]
    have hck := ck_iff (fun j => l.getD j 0)
    have hrun := L2_run l h9 9 0 rfl
    unfold confOfV
    by_cases h1 : ∀ j, j < 9 → 0 ≤ j → okR l j
    · have hr : Iter (ConfOfR_L2 l) 0 = some (.inr ()) := hrun.1 h1
      rw [hr]
      simp only [Option.bind_some, Sum.elim_inr]
      rw [chk_pos (by omega)]
      by_cases h2 : l.getD 0 0 < 1040
      · rw [show decide (l.getD (Int.toNat 0) default < 1040) = true from decide_eq_true h2, if_neg (fun h => by have := (hck.1 h).2; omega)]
        rfl
      · rw [show decide (l.getD (Int.toNat 0) default < 1040) = false from decide_eq_false h2, if_pos (hck.2 ⟨fun j hj => h1 j hj (Nat.zero_le _), by omega⟩)]
        simp only [cond_false]
        rw [chk_pos (by omega), chk_pos (by omega), chk_pos (by omega), chk_pos (by omega), chk_pos (by omega), chk_pos (by omega), chk_pos (by omega), chk_pos (by omega), chk_pos (by omega)]
        rfl
    · have hr : Iter (ConfOfR_L2 l) 0 = some (.inl (zCF, 1)) := hrun.2 h1
      rw [hr, if_neg (fun h => h1 (fun j hj _ => (hck.1 h).1 j hj))]
      rfl
  · rw [if_neg h9, show ((l.length : Int) != 9) = true by simp; omega]
    rfl
theorem confOfR_c (l : List Int) : FnP Tryz.prog 138 [SL 1 INTc l] (· = .tup [.agg (Cf.c (confOfF l).1), I64 (confOfF l).2]) := ConfOfR_w l _ (ConfOfR_eq l)

theorem ckR_c (x : Cf) : FnP Tryz.prog 193 [.agg (Cf.c x)] (· = I64 (ckF x)) := by
  have h0 : (confOfF x.l).2 = ckF x := by
    unfold confOfF
    rw [if_pos (show x.l.length = 9 from rfl)]
    have e : Cf.ofV (fun j => x.l.getD j 0) = x := rfl
    unfold confOfV
    rw [e]
    by_cases h : ckF x = 0
    · rw [if_pos h, h]
    · rw [if_neg h]
      unfold ckF at h ⊢
      split
      · rename_i h2; rw [if_pos h2] at h; exact absurd rfl h
      · rfl
  have h := ConfCheckR_w x (ckF x) (by
    unfold ConfCheckR_F
    rw [show ConfListR_F x = some x.l from rfl]
    simp only [Option.bind_some]
    rw [ConfOfR_eq]
    simp only [Option.bind_some]
    rw [h0])
  exact h
end Go.Proofs

/- The document's configuration of bytes, and bytes of one; both say the same. -/
set_option linter.unusedSimpArgs false
set_option linter.unusedVariables false
set_option maxRecDepth 100000
namespace Go.Proofs
open Go.Sy Go.Lib

def rRun : Nat → List UInt8 → Option (List Int × List UInt8)
  | 0, b => some ([], b)
  | n + 1, b => if (rInt 1048576 b).2.2 ≠ 0 then none else (rRun n (b.drop (rInt 1048576 b).2.1)).map fun r => ((rInt 1048576 b).1 :: r.1, r.2)
theorem rRun_len : ∀ {n : Nat} {b : List UInt8} {r : List Int × List UInt8}, rRun n b = some r → r.1.length = n
  | 0, b, r, h => by simp only [rRun, Option.some.injEq] at h; subst h; rfl
  | n + 1, b, r, h => by
    simp only [rRun] at h
    split at h
    · cases h
    · obtain ⟨q, h1, rfl⟩ := Option.map_eq_some_iff.1 h
      simp [rRun_len h1]
theorem rRun_succ (n : Nat) (b : List UInt8) : rRun (n + 1) b = if (rInt 1048576 b).2.2 ≠ 0 then none else (rRun n (b.drop (rInt 1048576 b).2.1)).map fun r => ((rInt 1048576 b).1 :: r.1, r.2) := rfl
theorem rRun_zero (b : List UInt8) : rRun 0 b = some ([], b) := rfl
def confTakeQ (q : Option (List Int × List UInt8)) : Cf × Int := match q with
  | none => (default, 1)
  | some r => if r.2 ≠ [] then (default, 1) else confOfF r.1
def confTakeR (b : List UInt8) : Cf × Int := confTakeQ (rRun 9 b)

/-- Both ways of taking a number say the same. -/
theorem rInt_intT (m : Nat) (hm : m ≤ 9223372036854775807) (l : List UInt8) : (rInt m l).2.2 = (intT m l).2.2 ∧ ((rInt m l).2.2 = 0 → rInt m l = intT m l ∧ (intT m l).1 = ((tk l).1 : Nat) ∧ (tk l).2.2 = 0) := by
  unfold rInt intT
  by_cases h1 : (tk l).2.2 = 0
  · rw [if_neg (fun h => h h1)]
    by_cases h2 : m < (tk l).1
    · rw [if_pos h2, if_pos ⟨h1, h2⟩]
      exact ⟨rfl, fun h => absurd h (show ¬((3 : Int) = 0) by decide)⟩
    · rw [if_neg h2, if_neg (fun h => h2 h.2)]
      refine ⟨h1.symm, fun _ => ⟨?_, w64 (by omega) (by omega), h1⟩⟩
      rw [w64 (by omega) (by omega), h1]
  · rw [if_pos h1, if_neg (fun h => h1 h.1)]
    exact ⟨rfl, fun h => absurd h h1⟩
theorem ctRun_err (b : List UInt8) : ∀ (n at_ : Nat) (e : Int), e ≠ 0 → (ctRun b n at_ e).2.2 ≠ 0
  | 0, _, e, h => h
  | n + 1, at_, e, h => by
    simp only [ctRun]
    refine ctRun_err b n _ _ ?_
    unfold rdE
    rw [if_pos h]; exact h
theorem run_run (b : List UInt8) : ∀ (n at_ : Nat), at_ ≤ b.length → (∀ r, rRun n (b.drop at_) = some r → ∃ a', a' ≤ b.length ∧ ctRun b n at_ 0 = (r.1, a', 0) ∧ r.2 = b.drop a') ∧ (rRun n (b.drop at_) = none → (ctRun b n at_ 0).2.2 ≠ 0)
  | 0, at_, h => ⟨fun r hr => by simp only [rRun, Option.some.injEq] at hr; subst hr; exact ⟨at_, h, rfl, rfl⟩, fun hr => by simp [rRun] at hr⟩
  | n + 1, at_, h => by
    obtain ⟨e1, e2⟩ := rInt_intT 1048576 (by decide) (b.drop at_)
    have hle := rdAt_le (e := 0) h 1048576
    by_cases h0 : (rInt 1048576 (b.drop at_)).2.2 = 0
    · obtain ⟨e3, e4, e5⟩ := e2 h0
      have hz : (intT 1048576 (b.drop at_)).2.2 = 0 := by rw [← e1]; exact h0
      have hat : rdAt at_ (intT 1048576 (b.drop at_)).2.1 0 (intT 1048576 (b.drop at_)).2.2 = at_ + (intT 1048576 (b.drop at_)).2.1 := by unfold rdAt; rw [if_neg (by decide), if_neg (fun hh => hh hz)]
      have hE : rdE 0 (intT 1048576 (b.drop at_)).2.2 = 0 := by unfold rdE; rw [if_neg (by decide)]; exact hz
      have hV : rdV 0 (intT 1048576 (b.drop at_)).1 0 (intT 1048576 (b.drop at_)).2.2 = (intT 1048576 (b.drop at_)).1 := by unfold rdV; rw [if_neg (by decide), if_neg (fun hh => hh hz)]
      rw [hat] at hle
      have ih := run_run b n (at_ + (intT 1048576 (b.drop at_)).2.1) hle
      simp only [rRun, ctRun]
      rw [if_neg (fun hh => hh h0), hat, hE, hV, e3, List.drop_drop]
      constructor
      · intro r hr
        obtain ⟨q, h1, rfl⟩ := Option.map_eq_some_iff.1 hr
        obtain ⟨a', g1, g2, g3⟩ := ih.1 q h1
        exact ⟨a', g1, by rw [g2], g3⟩
      · intro hr
        exact ih.2 (by simpa using hr)
    · simp only [rRun, ctRun]
      rw [if_pos h0]
      refine ⟨fun r hr => (by cases hr), fun _ => ctRun_err b n _ _ ?_⟩
      unfold rdE
      rw [if_neg (by decide), ← e1]; exact h0
theorem rdDone_bad (b : List UInt8) (at_ : Nat) (e : Int) (h : e ≠ 0) : rdDone b at_ e ≠ 0 := by
  unfold rdDone
  rw [if_pos h]; exact h
theorem rdDone_more (b : List UInt8) (at_ : Nat) (h : at_ < b.length) : rdDone b at_ 0 ≠ 0 := by
  unfold rdDone
  rw [if_neg (show ¬((0 : Int) ≠ 0) by decide), if_pos h]; decide
theorem rdDone_end (b : List UInt8) (at_ : Nat) (h : ¬at_ < b.length) : ¬rdDone b at_ 0 ≠ 0 := by
  unfold rdDone
  rw [if_neg (show ¬((0 : Int) ≠ 0) by decide), if_neg h]; decide
theorem confTake_same (b : List UInt8) : confTakeR b = confTakeF b := by
  have h := run_run b 9 0 (Nat.zero_le _)
  rw [List.drop_zero] at h
  unfold confTakeR confTakeQ confTakeF
  cases hr : rRun 9 b with
  | none =>
    rw [if_pos (rdDone_bad _ _ _ (h.2 hr))]
  | some r =>
    obtain ⟨a', g1, g2, g3⟩ := h.1 r hr
    rw [g2]
    by_cases h4 : a' < b.length
    · rw [if_pos (rdDone_more b a' h4)]
      show (if r.2 ≠ [] then _ else _) = _
      rw [if_pos (by rw [g3]; intro hh; have := congrArg List.length hh; simp at this; omega)]
    · rw [if_neg (rdDone_end b a' h4)]
      show (if r.2 ≠ [] then _ else _) = _
      rw [if_neg (fun hh => hh (by rw [g3, List.drop_eq_nil_iff]; omega))]

theorem confTakeR_c (b : List UInt8) (hb : b.length ≤ 9223372036854775807) : FnP Tryz.prog 91 [.s b] (· = .tup [.agg (Cf.c (confTakeF b).1), I64 (confTakeF b).2]) := by
  rw [← confTake_same]
  refine FnP.intro Tryz.tabOK Tryz.wide_ Tryz.func91 rfl (by decide) rfl (fun X => ?_)
  obtain ⟨q, hq⟩ : ∃ q, confTakeR b = q := ⟨_, rfl⟩
  rw [hq]
  unfold confTakeR at hq
  obtain ⟨Q, hQ⟩ : ∃ Q, rRun 9 b = Q := ⟨_, rfl⟩
  rw [hQ] at hq
  repeat (first | refine sc rfl ?_ | refine so rfl ?_ | refine sb rfl ?_)
  refine C_loop (fun s : Nat × List UInt8 × List Int => ⟨[(0, .s s.2.1), (3, I64 0), (2, .bp 2 0), (4, .own 25), (5, I64 (s.1 : Nat))], [.box 2 28 zCf, VEC 25 3 1 INTc s.2.2]⟩)
    (fun s => s.1 ≤ 9 ∧ s.2.1.length ≤ b.length ∧ s.2.2.length = s.1 ∧ ((rRun (9 - s.1) s.2.1).map fun r => (s.2.2 ++ r.1, r.2)) = Q) (fun s => 9 - s.1) (0, b, []) ⟨Nat.zero_le _, Nat.le_refl _, rfl, by show ((rRun 9 b).map fun r => (r.1, r.2)) = Q; rw [hQ]; cases Q <;> rfl⟩
    ((Le.nilvec (α := Int) INTc 4 25 3 1 rfl rfl rfl).trans (Le.sub [2, 25] ⟨rfl, rfl, rfl, rfl, rfl, trivial⟩ rfl)) ?_
  rintro ⟨i, s, l⟩ ⟨h1, h2, h3, h4⟩
  simp only [] at h1 h2 h3 h4
  repeat (first | refine sc rfl ?_ | refine so rfl ?_ | refine sb rfl ?_)
  refine C_if rfl (fun m1 => ?_) (fun m1 => ?_) <;> simp only [decide_eq_true_eq, decide_eq_false_iff_not, Bool.not_eq_true', Bool.not_eq_false', beq_iff_eq, beq_eq_false_iff_ne, bne_iff_ne, ne_eq, bne_eq_false_iff_eq, Decidable.not_not] at m1
  · have hi : i < 9 := by omega
    rw [show 9 - i = (9 - (i + 1)) + 1 by omega] at h4
    rw [rRun_succ] at h4
    have hR := rInt_intT 1048576 (by decide) s
    repeat (first | refine sc rfl ?_ | refine so rfl ?_ | refine sb rfl ?_)
    refine O_call (rInt_c 1048576 (by decide) s (by omega)) (by rfl) (by rfl) (by rfl) (by rfl) (fun r hr => ?_)
    subst hr
    obtain ⟨R, hRR⟩ : ∃ R, rInt 1048576 s = R := ⟨_, rfl⟩
    rw [hRR] at h4 hR ⊢
    repeat (first | refine sc rfl ?_ | refine so rfl ?_ | refine sb rfl ?_)
    refine C_if rfl (fun m2 => ?_) (fun m2 => ?_) <;> simp only [decide_eq_true_eq, decide_eq_false_iff_not, Bool.not_eq_true', Bool.not_eq_false', beq_iff_eq, beq_eq_false_iff_ne, bne_iff_ne, ne_eq, bne_eq_false_iff_eq, Decidable.not_not] at m2
    · rw [if_pos m2] at h4
      repeat (first | refine sc rfl ?_ | refine so rfl ?_ | refine sb rfl ?_)
      exact ⟨_, rfl, rfl, by rw [← hq, ← h4]; rfl⟩
    rw [if_neg (fun h => h m2)] at h4
    obtain ⟨e3, e4, e5⟩ := hR.2 m2
    have hk : R.2.1 ≤ s.length := by
      have := intT_end (m := 1048576) (l := s) (by rw [← e3]; exact m2)
      rw [← e3] at this; exact this
    repeat (first | refine sc rfl ?_ | refine so rfl ?_ | refine sb rfl ?_)
    refine O_push INTc l R.1 [(0, .s s), (3, I64 0), (2, .bp 2 0), (5, I64 (i : Nat)), (7, I64 ((R.2.1 : Nat) : Int))] rfl rfl rfl rfl rfl rfl rfl rfl rfl rfl ⟨rfl, rfl, rfl, rfl, rfl, trivial⟩ rfl rfl (by omega) (by simp only [maxLen]; omega) ?_
    repeat (first | refine sc rfl ?_ | refine so rfl ?_ | refine sb rfl ?_)
    refine ⟨by omega, ?_⟩
    rw [Int.toNat_natCast]
    repeat (first | refine sc rfl ?_ | refine so rfl ?_ | refine sb rfl ?_)
    rw [w64 (x := (i : Int) + 1) (by omega) (by omega)]
    refine ⟨(i + 1, s.drop R.2.1, l ++ [R.1]), ⟨by simp only []; omega, by simp; omega, by simp [h3], ?_⟩, by simp only []; omega, Le.sub [2, 25] ⟨rfl, rfl, rfl, rfl, rfl, trivial⟩ rfl⟩
    rw [← h4]
    show ((rRun (9 - (i + 1)) (s.drop R.2.1)).map fun r => ((l ++ [R.1]) ++ r.1, r.2)) = _
    cases rRun (9 - (i + 1)) (s.drop R.2.1) <;> simp
  · obtain rfl : i = 9 := by omega
    rw [Nat.sub_self, rRun_zero] at h4
    simp only [Option.map_some, List.append_nil] at h4
    rw [← h4] at hq
    simp only [confTakeQ] at hq
    repeat (first | refine sc rfl ?_ | refine so rfl ?_ | refine sb rfl ?_)
    refine C_if rfl (fun m2 => ?_) (fun m2 => ?_) <;> simp only [decide_eq_true_eq, decide_eq_false_iff_not, Bool.not_eq_true', Bool.not_eq_false', beq_iff_eq, beq_eq_false_iff_ne, bne_iff_ne, ne_eq, bne_eq_false_iff_eq, Decidable.not_not] at m2
    · rw [if_pos m2] at hq
      repeat (first | refine sc rfl ?_ | refine so rfl ?_ | refine sb rfl ?_)
      exact ⟨_, rfl, rfl, by rw [← hq]; rfl⟩
    · rw [if_neg (fun h => h m2)] at hq
      repeat (first | refine sc rfl ?_ | refine so rfl ?_ | refine sb rfl ?_)
      refine O_le _ (Le.freezeL 32 rfl rfl) ?_
      refine O_call (confOfR_c l) (by rfl) (by rfl) (by rfl) (by rfl) (fun r hr => ?_)
      subst hr
      rw [hq]
      repeat (first | refine sc rfl ?_ | refine so rfl ?_ | refine sb rfl ?_)
      exact ⟨_, rfl, rfl, rfl⟩
end Go.Proofs

/- The document's order as bytes, and its Put and Take. -/
set_option linter.unusedSimpArgs false
set_option linter.unusedVariables false
set_option maxRecDepth 100000
namespace Go.Proofs
open Go.Sy Go.Lib

theorem formF_bad {o : Ord} (h : o.op < 1 ∨ 6 < o.op ∨ o.owner < 1 ∨ 8 < o.owner) : formF o = 1 := if_pos h
theorem formF_good {o : Ord} (h : ¬(o.op < 1 ∨ 6 < o.op ∨ o.owner < 1 ∨ 8 < o.owner)) : formF o = if o.op = 1 ∨ o.op = 6 then ckF o.conf else 0 := if_neg h
theorem ConfCheckR_eq (x : Cf) : ConfCheckR_F x = some (ckF x) := by
  have h0 : (confOfF x.l).2 = ckF x := by
    unfold confOfF
    rw [if_pos (show x.l.length = 9 from rfl)]
    have e : Cf.ofV (fun j => x.l.getD j 0) = x := rfl
    unfold confOfV
    rw [e]
    by_cases h : ckF x = 0
    · rw [if_pos h, h]
    · rw [if_neg h]
      unfold ckF at h ⊢
      split
      · rename_i h2; rw [if_pos h2] at h; exact absurd rfl h
      · rfl
  unfold ConfCheckR_F
  rw [show ConfListR_F x = some x.l from rfl]
  simp only [Option.bind_some]
  rw [ConfOfR_eq]
  simp only [Option.bind_some]
  rw [h0]
theorem beqd (a b : Int) : (a == b) = decide (a = b) := rfl
theorem bned (a b : Int) : (a != b) = !decide (a = b) := rfl
theorem FormR_eq (o : Ord) : FormR_F o = some (decide (formF o = 0)) := by
  unfold FormR_F
  rw [ConfCheckR_eq]
  simp only [Option.bind_some, beqd, bned]
  by_cases h : o.op < 1 ∨ 6 < o.op ∨ o.owner < 1 ∨ 8 < o.owner
  · rw [formF_bad h]
    by_cases h1 : o.op < 1
    · rw [decide_eq_true h1]; rfl
    by_cases h2 : 6 < o.op
    · rw [decide_eq_false h1, decide_eq_true h2]; rfl
    by_cases h3 : o.owner < 1
    · rw [decide_eq_false h1, decide_eq_false h2, decide_eq_true h3]; rfl
    · rw [decide_eq_false h1, decide_eq_false h2, decide_eq_false h3, decide_eq_true (show 8 < o.owner by omega)]; rfl
  · rw [formF_good h]
    rw [decide_eq_false (show ¬o.op < 1 by omega), decide_eq_false (show ¬6 < o.op by omega), decide_eq_false (show ¬o.owner < 1 by omega), decide_eq_false (show ¬8 < o.owner by omega)]
    by_cases h5 : o.op = 1
    · rw [decide_eq_true h5, if_pos (Or.inl h5)]; rfl
    by_cases h6 : o.op = 6
    · rw [decide_eq_false h5, decide_eq_true h6, if_pos (Or.inr h6)]; rfl
    · rw [decide_eq_false h5, decide_eq_false h6, if_neg (by omega)]; rfl
theorem formR_c (o : Ord) : FnP Tryz.prog 139 [.agg (Ord.c o)] (· = B (decide (formF o = 0))) := FormR_w o _ (FormR_eq o)
theorem confListR_c (c : Cf) : FnP Tryz.prog 195 [.agg (Cf.c c)] (· = SL 1 INTc c.l) := ConfListR_w c _ rfl

theorem vput_le : ∀ (k n : Nat), n < 128 ^ (k + 1) → (vput n).length ≤ k + 1
  | 0, n, h => by rw [vput_lt (by omega)]; simp
  | k + 1, n, h => by
    by_cases h1 : n < 128
    · rw [vput_lt h1]; simp
    · rw [vput_ge h1, List.length_cons]
      have := vput_le k (n / 128) (by rw [Nat.div_lt_iff_lt_mul (by decide), ← Nat.pow_succ]; exact h)
      omega
theorem vput_10 {n : Nat} (h : n < 18446744073709551616) : (vput n).length ≤ 10 := vput_le 9 n (by omega)
def catV (l : List Int) : List UInt8 := l.flatMap fun x => vput x.toNat
theorem catV_le {l : List Int} (h : ∀ x ∈ l, 0 ≤ x ∧ x ≤ 9223372036854775807) : (catV l).length ≤ 10 * l.length := by
  induction l with
  | nil => exact Nat.zero_le _
  | cons a l ih =>
    have h1 := ih (fun x hx => h x (List.mem_cons_of_mem _ hx))
    have h2 := h a (List.mem_cons_self ..)
    have h3 := vput_10 (n := a.toNat) (by omega)
    simp only [catV, List.flatMap_cons, List.length_append, List.length_cons]
    unfold catV at h1
    omega
theorem catV_snoc (l : List Int) (n : Nat) : catV (l ++ [(n : Int)]) = catV l ++ vput n := by simp [catV]
def confPutF (c : Cf) : List UInt8 × Int := if ckF c ≠ 0 then ([], 1) else (catV c.l, 0)
theorem ck_nn {c : Cf} (h : ckF c = 0) : ∀ x ∈ c.l, 0 ≤ x ∧ x ≤ 9223372036854775807 := by
  have h1 := (ck_iff (fun j => c.l.getD j 0)).1 h
  intro x hx
  obtain ⟨i, hi, rfl⟩ := List.mem_iff_getElem.1 hx
  have h9 : c.l.length = 9 := rfl
  have := h1.1 i (by omega)
  simp only [List.getD_eq_getElem?_getD, List.getElem?_eq_getElem hi, Option.getD_some] at this
  refine ⟨this.1, Int.le_trans this.2 ?_⟩
  have hm : ∀ j : Fin 9, mostL.getD j.val 0 ≤ 9223372036854775807 := by decide
  simpa using hm ⟨i, by omega⟩
theorem confPut_c (c : Cf) : FnP Tryz.prog 141 [.agg (Cf.c c)] (· = .tup [.s (confPutF c).1, I64 (confPutF c).2]) := by
  refine FnP.intro Tryz.tabOK Tryz.wide_ Tryz.func141 rfl (by decide) rfl (fun X => ?_)
  obtain ⟨q, hq⟩ : ∃ q, confPutF c = q := ⟨_, rfl⟩
  rw [hq]
  unfold confPutF at hq
  repeat (first | refine sc rfl ?_ | refine so rfl ?_ | refine sb rfl ?_)
  refine O_call (ckR_c c) (by rfl) (by rfl) (by rfl) (by rfl) (fun r hr => ?_)
  subst hr
  repeat (first | refine sc rfl ?_ | refine so rfl ?_ | refine sb rfl ?_)
  refine C_if rfl (fun m1 => ?_) (fun m1 => ?_) <;> simp only [decide_eq_true_eq, decide_eq_false_iff_not, Bool.not_eq_true', Bool.not_eq_false', beq_iff_eq, beq_eq_false_iff_ne, bne_iff_ne, ne_eq, bne_eq_false_iff_eq, Decidable.not_not] at m1
  · rw [if_pos m1] at hq
    repeat (first | refine sc rfl ?_ | refine so rfl ?_ | refine sb rfl ?_)
    exact ⟨_, rfl, rfl, by rw [← hq]⟩
  rw [if_neg (fun h => h m1)] at hq
  have hnn := ck_nn (c := c) m1
  obtain ⟨L, hL⟩ : ∃ L, c.l = L := ⟨_, rfl⟩
  have h9 : L.length = 9 := by rw [← hL]; rfl
  rw [hL] at hnn hq
  repeat (first | refine sc rfl ?_ | refine so rfl ?_ | refine sb rfl ?_)
  refine O_call (confListR_c c) (by rfl) (by rfl) (by rfl) (by rfl) (fun r hr => ?_)
  subst hr
  rw [hL]
  repeat (first | refine sc rfl ?_ | refine so rfl ?_ | refine sb rfl ?_)
  refine C_loop (fun i : Nat => ⟨[(2, .s []), (3, I64 0), (4, SL 1 INTc L), (5, .s (catV (L.take i))), (6, I64 (i : Nat))], []⟩)
    (fun i => i ≤ 9) (fun i => 9 - i) 0 (by decide)
    (Le.sub [] ⟨rfl, rfl, rfl, rfl, rfl, trivial⟩ rfl) ?_
  intro i h1
  repeat (first | refine sc rfl ?_ | refine so rfl ?_ | refine sb rfl ?_)
  refine C_if rfl (fun m2 => ?_) (fun m2 => ?_) <;> simp only [decide_eq_true_eq, decide_eq_false_iff_not, Bool.not_eq_true', Bool.not_eq_false', beq_iff_eq, beq_eq_false_iff_ne, bne_iff_ne, ne_eq, bne_eq_false_iff_eq, Decidable.not_not] at m2
  · have hi : i < L.length := by omega
    have hx := hnn L[i] (List.getElem_mem hi)
    have hg : L.getD i default = L[i] := by simp [List.getD_eq_getElem?_getD, List.getElem?_eq_getElem hi]
    repeat (first | refine sc rfl ?_ | refine so rfl ?_ | refine sb rfl ?_)
    refine ⟨by omega, ?_⟩
    simp only [Int.toNat_natCast, hg]
    repeat (first | refine sc rfl ?_ | refine so rfl ?_ | refine sb rfl ?_)
    obtain ⟨n, hn⟩ : ∃ n : Nat, L[i] = (n : Int) := ⟨L[i].toNat, by omega⟩
    rw [hn] at hx
    have hw : IntKind.u64.wrap (n : Int) = (n : Int) := u64wrap (by omega) (by omega)
    rw [hn, hw]
    repeat (first | refine sc rfl ?_ | refine so rfl ?_ | refine sb rfl ?_)
    refine O_call (refPut01_p n (by omega)) (by rfl) (by rfl) (by rfl) (by rfl) (fun r hr => ?_)
    subst hr
    repeat (first | refine sc rfl ?_ | refine so rfl ?_ | refine sb rfl ?_)
    have hc : (catV (L.take i)).length ≤ 10 * i := by
      have := catV_le (l := L.take i) (fun x hx => hnn x (List.mem_of_mem_take hx))
      rw [List.length_take] at this
      omega
    have hv := vput_10 (n := n) (by omega)
    refine ⟨by omega, ?_⟩
    rw [← catV_snoc, ← hn, show L.take i ++ [L[i]] = L.take (i + 1) from List.take_append_getElem hi]
    repeat (first | refine sc rfl ?_ | refine so rfl ?_ | refine sb rfl ?_)
    rw [w64 (x := (i : Int) + 1) (by omega) (by omega)]
    exact ⟨i + 1, by omega, by omega, Le.sub [] ⟨rfl, rfl, rfl, rfl, rfl, trivial⟩ rfl⟩
  · obtain rfl : i = 9 := by omega
    rw [List.take_of_length_le (by omega)]
    repeat (first | refine sc rfl ?_ | refine so rfl ?_ | refine sb rfl ?_)
    exact ⟨_, rfl, rfl, by rw [← hq]⟩
end Go.Proofs

/- The document's order as bytes, and its Put. -/
set_option linter.unusedSimpArgs false
set_option linter.unusedVariables false
set_option maxRecDepth 100000
namespace Go.Proofs
open Go.Sy Go.Lib

def ordHead (o : Ord) : List UInt8 := vput o.id.toNat ++ vput o.op.toNat ++ vput o.owner.toNat
def ordPutF (o : Ord) : List UInt8 × Int := if formF o ≠ 0 then ([], 1) else (if o.op = 1 ∨ o.op = 6 then ordHead o ++ (confPutF o.conf).1 else ordHead o, 0)
theorem confPut_le (c : Cf) : (confPutF c).1.length ≤ 90 := by
  unfold confPutF
  split
  · simp
  · rename_i h
    exact catV_le (l := c.l) (ck_nn (Decidable.not_not.1 h))
theorem ordPut_c (o : Ord) (h0 : 0 ≤ o.id) (h1 : o.id < 18446744073709551616) : FnP Tryz.prog 92 [.agg (Ord.c o)] (· = .tup [.s (ordPutF o).1, I64 (ordPutF o).2]) := by
  refine FnP.intro Tryz.tabOK Tryz.wide_ Tryz.func92 rfl (by decide) rfl (fun X => ?_)
  obtain ⟨q, hq⟩ : ∃ q, ordPutF o = q := ⟨_, rfl⟩
  rw [hq]
  unfold ordPutF at hq
  repeat (first | refine sc rfl ?_ | refine so rfl ?_ | refine sb rfl ?_)
  refine O_call (formR_c o) (by rfl) (by rfl) (by rfl) (by rfl) (fun r hr => ?_)
  subst hr
  repeat (first | refine sc rfl ?_ | refine so rfl ?_ | refine sb rfl ?_)
  refine C_if rfl (fun m1 => ?_) (fun m1 => ?_) <;> simp only [decide_eq_true_eq, decide_eq_false_iff_not, Bool.not_eq_true', Bool.not_eq_false', beq_iff_eq, beq_eq_false_iff_ne, bne_iff_ne, ne_eq, bne_eq_false_iff_eq, Decidable.not_not] at m1
  · rw [if_pos m1] at hq
    repeat (first | refine sc rfl ?_ | refine so rfl ?_ | refine sb rfl ?_)
    exact ⟨_, rfl, rfl, by rw [← hq]⟩
  rw [if_neg (fun h => h m1)] at hq
  have hf : ¬(o.op < 1 ∨ 6 < o.op ∨ o.owner < 1 ∨ 8 < o.owner) := fun h => by rw [formF_bad h] at m1; cases m1
  obtain ⟨id, hid⟩ : ∃ n : Nat, o.id = (n : Int) := ⟨o.id.toNat, by omega⟩
  obtain ⟨op, hop⟩ : ∃ n : Nat, o.op = (n : Int) := ⟨o.op.toNat, by omega⟩
  obtain ⟨ow, how⟩ : ∃ n : Nat, o.owner = (n : Int) := ⟨o.owner.toNat, by omega⟩
  have e0 : ordHead o = vput id ++ vput op ++ vput ow := by unfold ordHead; rw [hid, hop, how]; rfl
  obtain ⟨H, hH⟩ : ∃ H, ordHead o = H := ⟨_, rfl⟩
  rw [e0] at hH
  rw [e0, hH] at hq
  have l1 := vput_10 (n := id) (by omega)
  have l2 := vput_10 (n := op) (by omega)
  have l3 := vput_10 (n := ow) (by omega)
  have l4 := confPut_le o.conf
  have l5 : H.length ≤ 30 := by rw [← hH]; simp only [List.length_append]; omega
  repeat (first | refine sc rfl ?_ | refine so rfl ?_ | refine sb rfl ?_)
  rw [hid, hop, how]
  refine C_drawD rfl (by kernel_rfl) ?_
  repeat (first | refine sd rfl ?_ | refine sdb rfl ?_ | refine sds rfl ?_)
  refine D_call (refPut01_p id (by omega)) rfl rfl rfl rfl ?_
  repeat (first | refine sd rfl ?_ | refine sdb rfl ?_ | refine sds rfl ?_)
  rw [u64wrap (x := (op : Int)) (by omega) (by omega)]
  refine D_call (refPut01_p op (by omega)) rfl rfl rfl rfl ?_
  repeat (first | refine sd rfl ?_ | refine sdb rfl ?_ | refine sds rfl ?_)
  refine ⟨by omega, ?_⟩
  repeat (first | refine sd rfl ?_ | refine sdb rfl ?_ | refine sds rfl ?_)
  rw [u64wrap (x := (ow : Int)) (by omega) (by omega)]
  refine D_call (refPut01_p ow (by omega)) rfl rfl rfl rfl ?_
  repeat (first | refine sd rfl ?_ | refine sdb rfl ?_ | refine sds rfl ?_)
  refine ⟨by simp only [List.length_append]; omega, ?_⟩
  rw [hH]
  repeat (first | refine sd rfl ?_ | refine sdb rfl ?_ | refine sds rfl ?_)
  repeat (first | refine sc rfl ?_ | refine so rfl ?_ | refine sb rfl ?_)
  rw [hop] at hq
  have fin : ∀ C : List UInt8 × Int, confPutF o.conf = C → (op : Int) = 1 ∨ (op : Int) = 6 → (H ++ C.1, (0 : Int)) = q := fun C hC h => by rw [← hq, if_pos h, hC]
  refine O_case 26 rfl (fun m2 => ?_) (fun m2 => ?_) <;> simp only [decide_eq_true_eq, decide_eq_false_iff_not, Bool.not_eq_true', Bool.not_eq_false', beq_iff_eq, beq_eq_false_iff_ne, bne_iff_ne, ne_eq, bne_eq_false_iff_eq, Decidable.not_not] at m2
  · repeat (first | refine sc rfl ?_ | refine so rfl ?_ | refine sb rfl ?_)
    refine C_true rfl rfl ?_
    repeat (first | refine sc rfl ?_ | refine so rfl ?_ | refine sb rfl ?_)
    refine O_call (confPut_c o.conf) (by rfl) (by rfl) (by rfl) (by rfl) (fun r hr => ?_)
    subst hr
    obtain ⟨C, hC⟩ : ∃ C, confPutF o.conf = C := ⟨_, rfl⟩
    rw [hC] at l4 ⊢
    repeat (first | refine sc rfl ?_ | refine so rfl ?_ | refine sb rfl ?_)
    refine ⟨by omega, ?_⟩
    repeat (first | refine sc rfl ?_ | refine so rfl ?_ | refine sb rfl ?_)
    exact ⟨_, rfl, rfl, by rw [← fin C hC (Or.inl m2)]⟩
  repeat (first | refine sc rfl ?_ | refine so rfl ?_ | refine sb rfl ?_)
  refine C_if rfl (fun m3 => ?_) (fun m3 => ?_) <;> simp only [decide_eq_true_eq, decide_eq_false_iff_not, Bool.not_eq_true', Bool.not_eq_false', beq_iff_eq, beq_eq_false_iff_ne, bne_iff_ne, ne_eq, bne_eq_false_iff_eq, Decidable.not_not] at m3
  · repeat (first | refine sc rfl ?_ | refine so rfl ?_ | refine sb rfl ?_)
    refine O_call (confPut_c o.conf) (by rfl) (by rfl) (by rfl) (by rfl) (fun r hr => ?_)
    subst hr
    obtain ⟨C, hC⟩ : ∃ C, confPutF o.conf = C := ⟨_, rfl⟩
    rw [hC] at l4 ⊢
    repeat (first | refine sc rfl ?_ | refine so rfl ?_ | refine sb rfl ?_)
    refine ⟨by omega, ?_⟩
    repeat (first | refine sc rfl ?_ | refine so rfl ?_ | refine sb rfl ?_)
    exact ⟨_, rfl, rfl, by rw [← fin C hC (Or.inr m3)]⟩
  · repeat (first | refine sc rfl ?_ | refine so rfl ?_ | refine sb rfl ?_)
    exact ⟨_, rfl, rfl, by rw [← hq, if_neg (by omega)]⟩
theorem rInt_good {m : Nat} {b : List UInt8} (h : (rInt m b).2.2 = 0) : ∃ n k, tk b = (n, k, 0) ∧ n ≤ m ∧ rInt m b = ((n : Int), k, 0) := by
  unfold rInt at h ⊢
  generalize tk b = t at h ⊢
  obtain ⟨n, k, e⟩ := t
  simp only [] at h ⊢
  by_cases h1 : e = 0
  · subst h1
    rw [if_neg (by decide)] at h ⊢
    by_cases h2 : m < n
    · rw [if_pos h2] at h; exact absurd h (by decide)
    · rw [if_neg h2]; exact ⟨n, k, rfl, by omega, rfl⟩
  · rw [if_pos h1] at h; exact absurd h h1
theorem rInt_at {m n k : Nat} {b : List UInt8} (h : tk b = (n, k, 0)) (hn : n ≤ m) : rInt m b = ((n : Int), k, 0) := by
  unfold rInt; rw [h]; simp only []
  rw [if_neg (show ¬((0 : Int) ≠ 0) by decide), if_neg (by omega)]
theorem intT_at {m n k : Nat} {b : List UInt8} (hm : m ≤ 9223372036854775807) (h : tk b = (n, k, 0)) (hn : n ≤ m) : intT m b = ((n : Int), k, 0) := by
  have h1 := rInt_at h hn
  rw [← ((rInt_intT m hm b).2 (by rw [h1])).1, h1]
/-- What a table of bytes says is put back as it was. -/
theorem rRun_put : ∀ {n : Nat} {b : List UInt8} {r : List Int × List UInt8}, rRun n b = some r → b = catV r.1 ++ r.2
  | 0, b, r, h => by simp only [rRun, Option.some.injEq] at h; subst h; rfl
  | n + 1, b, r, h => by
    rw [rRun_succ] at h
    split at h
    · cases h
    · rename_i h0
      obtain ⟨q, h1, rfl⟩ := Option.map_eq_some_iff.1 h
      have h2 := rRun_put h1
      obtain ⟨m, k, e1, e2, e3⟩ := rInt_good (Decidable.not_not.1 h0)
      rw [e3] at h2 ⊢
      have h3 := (tk_take e1).1
      show b = (vput m ++ catV q.1) ++ q.2
      rw [List.append_assoc, ← h2, ← h3, List.take_append_drop]
theorem rdAt_0 (a k : Nat) : rdAt a k 0 0 = a + k := by unfold rdAt; rw [if_neg (by decide), if_neg (by decide)]
theorem rdE_0 (e : Int) : rdE 0 e = e := by unfold rdE; rw [if_neg (by decide)]
theorem rdE_b {e : Int} (h : e ≠ 0) (x : Int) : rdE e x = e := by unfold rdE; rw [if_pos h]
theorem rdV_0 {α : Type} (d v : α) : rdV d v 0 0 = v := by unfold rdV; rw [if_neg (by decide), if_neg (by decide)]

def ordFin (b : List UInt8) (o : Ord) : Ord × Int := if (ordPutF o).2 ≠ 0 ∨ (ordPutF o).1 ≠ b then (default, 1) else (o, 0)
def ordTakeF (b : List UInt8) : Ord × Int :=
  if (tk b).2.2 ≠ 0 then (default, 1) else
  if (rInt 6 (b.drop (tk b).2.1)).2.2 ≠ 0 then (default, 1) else
  if (rInt 8 (b.drop ((tk b).2.1 + (rInt 6 (b.drop (tk b).2.1)).2.1))).2.2 ≠ 0 then (default, 1) else
  let T1 := tk b
  let T2 := rInt 6 (b.drop T1.2.1)
  let T3 := rInt 8 (b.drop (T1.2.1 + T2.2.1))
  let rest := b.drop (T1.2.1 + T2.2.1 + T3.2.1)
  if T2.1 = 1 ∨ T2.1 = 6 then
    if (confTakeF rest).2 ≠ 0 then (default, 1) else ordFin b ⟨(T1.1 : Nat), T2.1, T3.1, (confTakeF rest).1⟩
  else ordFin b ⟨(T1.1 : Nat), T2.1, T3.1, default⟩
theorem ordPut_err (o : Ord) : (ordPutF o).2 ≠ 0 ↔ formF o ≠ 0 := by
  unfold ordPutF
  by_cases h : formF o ≠ 0
  · rw [if_pos h]; exact ⟨fun _ => h, fun _ => by decide⟩
  · rw [if_neg h]; exact ⟨fun h2 => absurd rfl h2, fun h2 => absurd h2 h⟩
theorem confTake_put {b : List UInt8} (h : ¬(confTakeF b).2 ≠ 0) : confPutF (confTakeF b).1 = (b, 0) := by
  rw [← confTake_same] at h ⊢
  unfold confTakeR at h ⊢
  cases hr : rRun 9 b with
  | none => rw [hr] at h; exact absurd (show (1 : Int) ≠ 0 by decide) h
  | some r =>
    rw [hr] at h
    simp only [confTakeQ] at h ⊢
    by_cases h2 : r.2 ≠ []
    · rw [if_pos h2] at h; exact absurd (show (1 : Int) ≠ 0 by decide) h
    · rw [if_neg h2] at h ⊢
      have h3 := Decidable.not_not.1 h2
      have h4 := rRun_put hr
      have h5 := rRun_len hr
      rw [h3, List.append_nil] at h4
      unfold confOfF at h ⊢
      rw [if_pos h5] at h ⊢
      unfold confOfV at h ⊢
      by_cases h6 : ckF (Cf.ofV fun j => r.1.getD j 0) = 0
      · rw [if_pos h6]
        show confPutF (Cf.ofV fun j => r.1.getD j 0) = _
        unfold confPutF
        rw [if_neg (fun h => h h6)]
        have h7 : (Cf.ofV fun j => r.1.getD j 0).l = r.1 := by
          obtain ⟨l, r2⟩ := r
          simp only [] at h5
          match l, h5 with
          | [a0, a1, a2, a3, a4, a5, a6, a7, a8], _ => rfl
        rw [h7, h4]
      · rw [if_neg h6] at h; exact absurd (show (1 : Int) ≠ 0 by decide) h
theorem adTake_b1 {b : List UInt8} (h : (tk b).2.2 ≠ 0) : adTakeF b = (default, 1) := by
  unfold adTakeF
  refine if_pos (rdDone_bad _ _ _ ?_)
  rw [rdE_0, rdE_b h, rdE_b h, rdE_b h]; exact h
theorem adTake_b2 {b : List UInt8} {n1 k1 : Nat} (h1 : tk b = (n1, k1, 0)) (h : (rInt 6 (b.drop k1)).2.2 ≠ 0) : adTakeF b = (default, 1) := by
  rw [(rInt_intT 6 (by decide) (b.drop k1)).1] at h
  unfold adTakeF
  rw [h1]
  simp only [rdAt_0, rdE_0, rdV_0, Nat.zero_add]
  refine if_pos (rdDone_bad _ _ _ ?_)
  rw [rdE_b h, rdE_b h]; exact h
theorem adTake_b3 {b : List UInt8} {n1 k1 n2 k2 : Nat} (h1 : tk b = (n1, k1, 0)) (h2 : tk (b.drop k1) = (n2, k2, 0)) (l2 : n2 ≤ 6) (h : (rInt 8 (b.drop (k1 + k2))).2.2 ≠ 0) : adTakeF b = (default, 1) := by
  rw [(rInt_intT 8 (by decide) (b.drop (k1 + k2))).1] at h
  unfold adTakeF
  rw [h1]
  simp only [rdAt_0, rdE_0, rdV_0, Nat.zero_add]
  rw [intT_at (by decide) h2 l2]
  simp only [rdAt_0, rdE_0, rdV_0, Nat.zero_add]
  refine if_pos (rdDone_bad _ _ _ ?_)
  rw [rdE_b h]; exact h
theorem ordFin_bad {b : List UInt8} {o : Ord} (h : formF o ≠ 0) : ordFin b o = (default, 1) := if_pos (Or.inl ((ordPut_err o).2 h))
theorem ordFin_eq {b : List UInt8} {o : Ord} (h : ¬formF o ≠ 0) (h2 : (ordPutF o).1 = b) : ordFin b o = (o, 0) := if_neg (fun h3 => h3.elim (fun h4 => h ((ordPut_err o).1 h4)) (fun h4 => h4 h2))
theorem ordFin_ne {b : List UInt8} {o : Ord} (h2 : (ordPutF o).1 ≠ b) : ordFin b o = (default, 1) := if_pos (Or.inr h2)
theorem ordTake_same (b : List UInt8) : ordTakeF b = adTakeF b := by
  by_cases h1 : (tk b).2.2 ≠ 0
  · rw [adTake_b1 h1]; exact if_pos h1
  obtain ⟨n1, k1, t1⟩ : ∃ n1 k1, tk b = (n1, k1, 0) := ⟨(tk b).1, (tk b).2.1, by rw [← Decidable.not_not.1 h1]⟩
  by_cases h2 : (rInt 6 (b.drop k1)).2.2 ≠ 0
  · rw [adTake_b2 t1 h2]
    unfold ordTakeF
    rw [if_neg h1, t1]
    exact if_pos h2
  obtain ⟨n2, k2, t2, l2, r2⟩ := rInt_good (Decidable.not_not.1 h2)
  by_cases h3 : (rInt 8 (b.drop (k1 + k2))).2.2 ≠ 0
  · rw [adTake_b3 t1 t2 l2 h3]
    unfold ordTakeF
    rw [if_neg h1, t1]
    simp only []
    rw [if_neg h2, r2]
    exact if_pos h3
  obtain ⟨n3, k3, t3, l3, r3⟩ := rInt_good (Decidable.not_not.1 h3)
  obtain ⟨p1, q1, s1, u1⟩ := tk_take t1
  obtain ⟨p2, q2, s2, u2⟩ := tk_take t2
  obtain ⟨p3, q3, s3, u3⟩ := tk_take t3
  simp only [List.length_drop] at s2 s3
  unfold ordTakeF adTakeF
  rw [if_neg h1, t1]
  simp only [rdAt_0, rdE_0, rdV_0, Nat.zero_add]
  rw [if_neg h2, r2, intT_at (by decide) t2 l2]
  simp only [rdAt_0, rdE_0, rdV_0, Nat.zero_add]
  rw [if_neg h3, r3, intT_at (by decide) t3 l3]
  simp only [rdAt_0, rdE_0, rdV_0, Nat.zero_add]
  rw [if_neg (rdDone_end b _ (by omega))]
  obtain ⟨rest, hrest⟩ : ∃ rest, b.drop (k1 + k2 + k3) = rest := ⟨_, rfl⟩
  have hb : b = (vput n1 ++ vput n2 ++ vput n3) ++ rest := by
    rw [← hrest, ← p1, ← p2, ← p3, ← List.take_add, ← List.take_add, List.take_append_drop]
  rw [hrest]
  by_cases h4 : (n2 : Int) = 1 ∨ (n2 : Int) = 6
  · rw [if_pos h4, if_pos h4]
    by_cases h5 : (confTakeF rest).2 ≠ 0
    · rw [if_pos h5, if_pos h5]
    · rw [if_neg h5, if_neg h5]
      by_cases h6 : formF ⟨(n1 : Int), (n2 : Int), (n3 : Int), (confTakeF rest).1⟩ ≠ 0
      · rw [if_pos h6, ordFin_bad h6]
      · rw [if_neg h6, ordFin_eq h6]
        unfold ordPutF
        rw [if_neg h6]
        simp only []
        rw [if_pos h4, confTake_put h5]
        exact hb.symm
  · rw [if_neg h4, if_neg h4]
    by_cases h6 : formF ⟨(n1 : Int), (n2 : Int), (n3 : Int), default⟩ ≠ 0
    · rw [ordFin_bad h6]
      split
      · rfl
      · rfl
    · have hp : (ordPutF ⟨(n1 : Int), (n2 : Int), (n3 : Int), default⟩).1 = vput n1 ++ vput n2 ++ vput n3 := by
        unfold ordPutF
        rw [if_neg h6]
        simp only []
        rw [if_neg h4]
        rfl
      by_cases h7 : rest ≠ []
      · rw [if_pos h7, ordFin_ne]
        rw [hp, hb]
        intro h8
        exact h7 (List.self_eq_append_right.1 h8)
      · rw [if_neg h7, if_neg h6, ordFin_eq h6]
        rw [hp, hb, Decidable.not_not.1 h7, List.append_nil]
end Go.Proofs

/- The document's order of bytes, and what was done. -/
set_option linter.unusedSimpArgs false
set_option linter.unusedVariables false
set_option maxRecDepth 100000
namespace Go.Proofs
open Go.Sy Go.Lib

theorem ordTake_c (b : List UInt8) (hb : b.length ≤ 9223372036854775807) : FnP Tryz.prog 34 [.s b] (· = .tup [.agg (Ord.c (adTakeF b).1), I64 (adTakeF b).2]) := by
  rw [← ordTake_same]
  refine FnP.intro Tryz.tabOK Tryz.wide_ Tryz.func34 rfl (by decide) rfl (fun X => ?_)
  obtain ⟨q, hq⟩ : ∃ q, ordTakeF b = q := ⟨_, rfl⟩
  rw [hq]
  unfold ordTakeF at hq
  repeat (first | refine sc rfl ?_ | refine so rfl ?_ | refine sb rfl ?_)
  refine O_call (refTake01_p b hb) (by rfl) (by rfl) (by rfl) (by rfl) (fun r hr => ?_)
  subst hr
  repeat (first | refine sc rfl ?_ | refine so rfl ?_ | refine sb rfl ?_)
  refine C_if rfl (fun m1 => ?_) (fun m1 => ?_) <;> simp only [decide_eq_true_eq, decide_eq_false_iff_not, Bool.not_eq_true', Bool.not_eq_false', beq_iff_eq, beq_eq_false_iff_ne, bne_iff_ne, ne_eq, bne_eq_false_iff_eq, Decidable.not_not] at m1
  · rw [if_pos m1] at hq
    repeat (first | refine sc rfl ?_ | refine so rfl ?_ | refine sb rfl ?_)
    exact ⟨_, rfl, rfl, by rw [← hq]; rfl⟩
  rw [if_neg (fun h => h m1)] at hq
  obtain ⟨n1, k1, t1⟩ : ∃ n1 k1, tk b = (n1, k1, 0) := ⟨(tk b).1, (tk b).2.1, by rw [← m1]⟩
  obtain ⟨p1, q1, s1, u1⟩ := tk_take t1
  rw [t1] at hq ⊢
  simp only [] at hq ⊢
  repeat (first | refine sc rfl ?_ | refine so rfl ?_ | refine sb rfl ?_)
  refine ⟨by omega, ?_⟩
  rw [Int.toNat_natCast]
  repeat (first | refine sc rfl ?_ | refine so rfl ?_ | refine sb rfl ?_)
  refine O_call (rInt_c 6 (by decide) (b.drop k1) (by simp; omega)) (by rfl) (by rfl) (by rfl) (by rfl) (fun r hr => ?_)
  subst hr
  repeat (first | refine sc rfl ?_ | refine so rfl ?_ | refine sb rfl ?_)
  refine C_if rfl (fun m2 => ?_) (fun m2 => ?_) <;> simp only [decide_eq_true_eq, decide_eq_false_iff_not, Bool.not_eq_true', Bool.not_eq_false', beq_iff_eq, beq_eq_false_iff_ne, bne_iff_ne, ne_eq, bne_eq_false_iff_eq, Decidable.not_not] at m2
  · rw [if_pos m2] at hq
    repeat (first | refine sc rfl ?_ | refine so rfl ?_ | refine sb rfl ?_)
    exact ⟨_, rfl, rfl, by rw [← hq]; rfl⟩
  rw [if_neg (fun h => h m2)] at hq
  obtain ⟨n2, k2, t2, l2, r2⟩ := rInt_good m2
  obtain ⟨p2, q2, s2, u2⟩ := tk_take t2
  rw [r2] at hq ⊢
  simp only [] at hq ⊢
  simp only [List.length_drop] at s2
  repeat (first | refine sc rfl ?_ | refine so rfl ?_ | refine sb rfl ?_)
  rw [w64 (x := (k1 : Int) + (k2 : Int)) (by omega) (by omega)]
  repeat (first | refine sc rfl ?_ | refine so rfl ?_ | refine sb rfl ?_)
  refine ⟨by omega, ?_⟩
  rw [show ((k1 : Int) + (k2 : Int)).toNat = k1 + k2 by omega]
  repeat (first | refine sc rfl ?_ | refine so rfl ?_ | refine sb rfl ?_)
  refine O_call (rInt_c 8 (by decide) (b.drop (k1 + k2)) (by simp; omega)) (by rfl) (by rfl) (by rfl) (by rfl) (fun r hr => ?_)
  subst hr
  repeat (first | refine sc rfl ?_ | refine so rfl ?_ | refine sb rfl ?_)
  refine C_if rfl (fun m3 => ?_) (fun m3 => ?_) <;> simp only [decide_eq_true_eq, decide_eq_false_iff_not, Bool.not_eq_true', Bool.not_eq_false', beq_iff_eq, beq_eq_false_iff_ne, bne_iff_ne, ne_eq, bne_eq_false_iff_eq, Decidable.not_not] at m3
  · rw [if_pos m3] at hq
    repeat (first | refine sc rfl ?_ | refine so rfl ?_ | refine sb rfl ?_)
    exact ⟨_, rfl, rfl, by rw [← hq]; rfl⟩
  rw [if_neg (fun h => h m3)] at hq
  obtain ⟨n3, k3, t3, l3, r3⟩ := rInt_good m3
  obtain ⟨p3, q3, s3, u3⟩ := tk_take t3
  rw [r3] at hq ⊢
  simp only [] at hq ⊢
  simp only [List.length_drop] at s3
  obtain ⟨rest, hrest⟩ : ∃ rest, b.drop (k1 + k2 + k3) = rest := ⟨_, rfl⟩
  have hrl : rest.length ≤ 9223372036854775807 := by rw [← hrest]; simp; omega
  rw [hrest] at hq
  obtain ⟨K, hK⟩ : ∃ K, confTakeF rest = K := ⟨_, rfl⟩
  rw [hK] at hq
  have z12 : ∃ z : List AV, z = [AV.v (.int .u64 0), I64 0, I64 0, I64 0, I64 0, I64 0, I64 0, I64 0, I64 0, I64 0, I64 0, I64 0] := ⟨_, rfl⟩
  repeat (first | refine sc rfl ?_ | refine so rfl ?_ | refine sb rfl ?_)
  refine O_join ⟨[(0, .s b), (2, .bp 2 0), (11, .bp 11 0), (5, I64 (k1 : Nat)), (8, I64 (k2 : Nat)), (10, I64 (k3 : Nat)), (57, B (decide ((n2 : Int) = 1 ∨ (n2 : Int) = 6)))], [.box 11 38 (Ord.c ⟨(n1 : Int), (n2 : Int), (n3 : Int), default⟩), .box 2 38 (Ord.c default)]⟩ ?_ (fun s h => C_le _ h ?_)
  · refine O_case 54 rfl (fun h5 => ?_) (fun h5 => ?_) <;> simp only [decide_eq_true_eq, decide_eq_false_iff_not, Bool.not_eq_true', Bool.not_eq_false', beq_iff_eq, beq_eq_false_iff_ne, bne_iff_ne, ne_eq, bne_eq_false_iff_eq, Decidable.not_not] at h5
    · repeat (first | refine sc rfl ?_ | refine so rfl ?_ | refine sb rfl ?_)
      exact Le.sub [11, 2] ⟨rfl, rfl, rfl, rfl, rfl, rfl, congrArg (fun x => some (B x)) (by rw [Bool.eq_iff_iff]; simp; omega), trivial⟩ rfl
    · repeat (first | refine sc rfl ?_ | refine so rfl ?_ | refine sb rfl ?_)
      exact Le.sub [11, 2] ⟨rfl, rfl, rfl, rfl, rfl, rfl, congrArg (fun x => some (B x)) (by rw [Bool.eq_iff_iff]; simp; omega), trivial⟩ rfl
  obtain ⟨o, ho, hfin⟩ : ∃ o : Ord, o = ⟨(n1 : Int), (n2 : Int), (n3 : Int), if (n2 : Int) = 1 ∨ (n2 : Int) = 6 then K.1 else default⟩ ∧ (¬((n2 : Int) = 1 ∨ (n2 : Int) = 6) ∨ K.2 = 0 → ordFin b o = q) := by
    refine ⟨_, rfl, fun h => ?_⟩
    by_cases h4 : (n2 : Int) = 1 ∨ (n2 : Int) = 6
    · rw [if_pos h4] at hq ⊢
      rw [if_neg (fun h5 => h.elim (fun h6 => h6 h4) (fun h6 => h5 h6))] at hq
      exact hq
    · rw [if_neg h4] at hq ⊢
      exact hq
  refine C_joinP ⟨[(0, .s b), (2, .bp 2 0), (11, .bp 11 0)], [.box 11 38 (Ord.c o), .box 2 38 (Ord.c default)]⟩ (¬((n2 : Int) = 1 ∨ (n2 : Int) = 6) ∨ K.2 = 0) ?_ (fun s hs hp => ?_)
  · refine C_if rfl (fun m4 => ?_) (fun m4 => ?_) <;> simp only [decide_eq_true_eq, decide_eq_false_iff_not, Bool.not_eq_true', Bool.not_eq_false', beq_iff_eq, beq_eq_false_iff_ne, bne_iff_ne, ne_eq, bne_eq_false_iff_eq, Decidable.not_not] at m4
    · rw [if_pos m4] at hq ho
      repeat (first | refine sc rfl ?_ | refine so rfl ?_ | refine sb rfl ?_)
      rw [w64 (x := (k1 : Int) + (k2 : Int)) (by omega) (by omega)]
      repeat (first | refine sc rfl ?_ | refine so rfl ?_ | refine sb rfl ?_)
      rw [w64 (x := (k1 : Int) + (k2 : Int) + (k3 : Int)) (by omega) (by omega)]
      repeat (first | refine sc rfl ?_ | refine so rfl ?_ | refine sb rfl ?_)
      refine ⟨by omega, ?_⟩
      rw [show ((k1 : Int) + (k2 : Int) + (k3 : Int)).toNat = k1 + k2 + k3 by omega, hrest]
      repeat (first | refine sc rfl ?_ | refine so rfl ?_ | refine sb rfl ?_)
      refine O_call (confTakeR_c rest hrl) (by rfl) (by rfl) (by rfl) (by rfl) (fun r hr => ?_)
      subst hr
      rw [hK]
      repeat (first | refine sc rfl ?_ | refine so rfl ?_ | refine sb rfl ?_)
      refine C_if rfl (fun m5 => ?_) (fun m5 => ?_) <;> simp only [decide_eq_true_eq, decide_eq_false_iff_not, Bool.not_eq_true', Bool.not_eq_false', beq_iff_eq, beq_eq_false_iff_ne, bne_iff_ne, ne_eq, bne_eq_false_iff_eq, Decidable.not_not] at m5
      · rw [if_pos m5] at hq
        repeat (first | refine sc rfl ?_ | refine so rfl ?_ | refine sb rfl ?_)
        exact ⟨_, rfl, rfl, by rw [← hq]; rfl⟩
      · repeat (first | refine sc rfl ?_ | refine so rfl ?_ | refine sb rfl ?_)
        refine ⟨?_, Or.inr m5⟩
        rw [ho]
        exact Le.sub [11, 2] ⟨rfl, rfl, rfl, trivial⟩ rfl
    · rw [if_neg m4] at ho
      repeat (first | refine sc rfl ?_ | refine so rfl ?_ | refine sb rfl ?_)
      refine ⟨?_, Or.inl m4⟩
      rw [ho]
      exact Le.sub [11, 2] ⟨rfl, rfl, rfl, trivial⟩ rfl
  refine C_le _ hs ?_
  have hq2 := hfin hp
  unfold ordFin at hq2
  have hid : o.id = (n1 : Int) := by rw [ho]
  obtain ⟨U, hU⟩ : ∃ U, ordPutF o = U := ⟨_, rfl⟩
  rw [hU] at hq2
  repeat (first | refine sc rfl ?_ | refine so rfl ?_ | refine sb rfl ?_)
  refine O_call (ordPut_c o (by omega) (by omega)) (by rfl) (by rfl) (by rfl) (by rfl) (fun r hr => ?_)
  subst hr
  rw [hU]
  repeat (first | refine sc rfl ?_ | refine so rfl ?_ | refine sb rfl ?_)
  refine O_case 81 rfl (fun m6 => ?_) (fun m6 => ?_) <;> simp only [decide_eq_true_eq, decide_eq_false_iff_not, Bool.not_eq_true', Bool.not_eq_false', beq_iff_eq, beq_eq_false_iff_ne, bne_iff_ne, ne_eq, bne_eq_false_iff_eq, Decidable.not_not] at m6
  · rw [if_pos (Or.inl m6)] at hq2
    repeat (first | refine sc rfl ?_ | refine so rfl ?_ | refine sb rfl ?_)
    refine C_true rfl rfl ?_
    repeat (first | refine sc rfl ?_ | refine so rfl ?_ | refine sb rfl ?_)
    exact ⟨_, rfl, rfl, by rw [← hq2]; rfl⟩
  repeat (first | refine sc rfl ?_ | refine so rfl ?_ | refine sb rfl ?_)
  refine C_if rfl (fun m7 => ?_) (fun m7 => ?_) <;> simp only [decide_eq_true_eq, decide_eq_false_iff_not, Bool.not_eq_true', Bool.not_eq_false', beq_iff_eq, beq_eq_false_iff_ne, bne_iff_ne, ne_eq, bne_eq_false_iff_eq, Decidable.not_not] at m7
  · rw [if_pos (Or.inr m7)] at hq2
    repeat (first | refine sc rfl ?_ | refine so rfl ?_ | refine sb rfl ?_)
    exact ⟨_, rfl, rfl, by rw [← hq2]; rfl⟩
  · rw [if_neg (fun h => h.elim (fun h => h m6) (fun h => h m7))] at hq2
    repeat (first | refine sc rfl ?_ | refine so rfl ?_ | refine sb rfl ?_)
    exact ⟨_, rfl, rfl, by rw [← hq2]; rfl⟩

theorem refDone_c (x : Rw) (hb : x.note.body.length ≤ 9223372036854775807) : FnP Tryz.prog 8 [.agg (Rw.c x)] (· = .tup [.agg (Ord.c (trDoneF x).1), B (trDoneF x).2]) := by
  refine FnP.intro Tryz.tabOK Tryz.wide_ Tryz.func8 rfl (by decide) rfl (fun X => ?_)
  obtain ⟨q, hq⟩ : ∃ q, trDoneF x = q := ⟨_, rfl⟩
  rw [hq]
  unfold trDoneF at hq
  repeat (first | refine sc rfl ?_ | refine so rfl ?_ | refine sb rfl ?_)
  refine O_case 9 rfl (fun c1 => ?_) (fun c1 => ?_) <;> simp only [decide_eq_true_eq, decide_eq_false_iff_not, Bool.not_eq_true', Bool.not_eq_false', beq_iff_eq, beq_eq_false_iff_ne, bne_iff_ne, ne_eq, bne_eq_false_iff_eq, Decidable.not_not] at c1
  · repeat (first | refine sc rfl ?_ | refine so rfl ?_ | refine sb rfl ?_)
    refine C_true rfl rfl ?_
    repeat (first | refine sc rfl ?_ | refine so rfl ?_ | refine sb rfl ?_)
    exact ⟨_, rfl, rfl, by rw [← hq, if_pos (by omega)]; rfl⟩
  repeat (first | refine sc rfl ?_ | refine so rfl ?_ | refine sb rfl ?_)
  refine O_case 15 rfl (fun c2 => ?_) (fun c2 => ?_) <;> simp only [decide_eq_true_eq, decide_eq_false_iff_not, Bool.not_eq_true', Bool.not_eq_false', beq_iff_eq, beq_eq_false_iff_ne, bne_iff_ne, ne_eq, bne_eq_false_iff_eq, Decidable.not_not] at c2
  · repeat (first | refine sc rfl ?_ | refine so rfl ?_ | refine sb rfl ?_)
    refine C_true rfl rfl ?_
    repeat (first | refine sc rfl ?_ | refine so rfl ?_ | refine sb rfl ?_)
    exact ⟨_, rfl, rfl, by rw [← hq, if_pos (by omega)]; rfl⟩
  repeat (first | refine sc rfl ?_ | refine so rfl ?_ | refine sb rfl ?_)
  refine O_case 21 rfl (fun c3 => ?_) (fun c3 => ?_) <;> simp only [decide_eq_true_eq, decide_eq_false_iff_not, Bool.not_eq_true', Bool.not_eq_false', beq_iff_eq, beq_eq_false_iff_ne, bne_iff_ne, ne_eq, bne_eq_false_iff_eq, Decidable.not_not] at c3
  · repeat (first | refine sc rfl ?_ | refine so rfl ?_ | refine sb rfl ?_)
    refine C_true rfl rfl ?_
    repeat (first | refine sc rfl ?_ | refine so rfl ?_ | refine sb rfl ?_)
    exact ⟨_, rfl, rfl, by rw [← hq, if_pos (by omega)]; rfl⟩
  repeat (first | refine sc rfl ?_ | refine so rfl ?_ | refine sb rfl ?_)
  refine C_if rfl (fun c4 => ?_) (fun c4 => ?_) <;> simp only [decide_eq_true_eq, decide_eq_false_iff_not, Bool.not_eq_true', Bool.not_eq_false', beq_iff_eq, beq_eq_false_iff_ne, bne_iff_ne, ne_eq, bne_eq_false_iff_eq, Decidable.not_not] at c4
  · repeat (first | refine sc rfl ?_ | refine so rfl ?_ | refine sb rfl ?_)
    exact ⟨_, rfl, rfl, by rw [← hq, if_pos (by omega)]; rfl⟩
  rw [if_neg (by omega)] at hq
  repeat (first | refine sc rfl ?_ | refine so rfl ?_ | refine sb rfl ?_)
  refine O_call (ordTake_c x.note.body hb) (by rfl) (by rfl) (by rfl) (by rfl) (fun r hr => ?_)
  subst hr
  repeat (first | refine sc rfl ?_ | refine so rfl ?_ | refine sb rfl ?_)
  exact ⟨_, rfl, rfl, by rw [← hq]; rfl⟩
end Go.Proofs

/- The symbolic walk, part 70: contracts of functions that may throw. -/
set_option linter.unusedSimpArgs false
set_option linter.unusedVariables false
namespace Go.Sy
open Go.RowKit

section
variable {P : Program} {T : Tab} {X : Ctx P T} {n : Nat} {e : Env} {st : St} {a : Act} {w : World} {ops : Array Oper} {K : St → Prop}

/-! ### Calls that throw -/
/-- Nothing is so. -/
def voidRP : RP := { R := fun _ _ => False, mono := fun _ _ h => h, one := fun h => h.elim }
abbrev VOID : AV := .p voidRP

/-! ### Interface values -/
end
end Go.Sy

/- The symbolic walk, part 71: calls as steps of drawn regions of effects; interface values called; maps of which the lookups are known. -/
set_option linter.unusedSimpArgs false
set_option linter.unusedVariables false
namespace Go.Sy
open Go.RowKit
section
variable {P : Program} {T : Tab} {X : Ctx P T} {n : Nat} {e : Env} {st : St} {a : Act} {w : World} {ops : Array Oper} {K : St → Prop}

/-- A call that reads memory at known addresses, in one way. -/
theorem X_callK (is : List Nat) {p : Pl} {f : FuncId} {dst : Nat} {args : Array Operand} {tys : Array TypeId} {ty : TypeId} {pos : String} {aft : Array Edge} {gd : Option (Nat × Bool)} {j : Nat} {avs : List AV} {cs : List Abs} {cr : List Ch} {x : AV}
    {Si : List (Nat × AV)} {c : List Ch} (hf : FnA P f avs cs (fun r cs' => r = x ∧ cs' = cs)) (hg : guardA ops ⟨Si, c⟩ ⟨some dst, .call ⟨.value (.func f), args, tys⟩, ty, pos, aft, gd⟩ = some true) (ha : opds Si args.toList = some avs) (himm : AV.imm.immL avs = true)
    (hp : pickA is c = some (cs, cr)) (hd : Nat.blt dst n = true) :
    StepX X n ops p Si c c j ⟨some dst, .call ⟨.value (.func f), args, tys⟩, ty, pos, aft, gd⟩ x :=
  (X_callA is hf hg ha himm hp hd).perm (pickA_perm hp).symm

/-- A call that needs no memory, in one way. -/
theorem X_callP {p : Pl} {f : FuncId} {dst : Nat} {args : Array Operand} {tys : Array TypeId} {ty : TypeId} {pos : String} {aft : Array Edge} {gd : Option (Nat × Bool)} {j : Nat} {avs : List AV} {x : AV}
    {Si : List (Nat × AV)} {c : List Ch} (hf : FnP P f avs (· = x)) (hg : guardA ops ⟨Si, c⟩ ⟨some dst, .call ⟨.value (.func f), args, tys⟩, ty, pos, aft, gd⟩ = some true) (ha : opds Si args.toList = some avs) (himm : AV.imm.immL avs = true) (hd : Nat.blt dst n = true) :
    StepX X n ops p Si c c j ⟨some dst, .call ⟨.value (.func f), args, tys⟩, ty, pos, aft, gd⟩ x :=
  X_callK [] (hf.toA []) hg ha himm rfl hd

/-! ### Calls through interface values -/

end
end Go.Sy

/- TraceAsks: which rows are picked. -/
set_option linter.unusedSimpArgs false
set_option linter.unusedVariables false
set_option maxRecDepth 100000
namespace Go.Proofs
open Go.Sy Go.Lib

noncomputable def asks (k : Int) : Bool := (AsksB_F k).getD false
theorem asks_some (k : Int) : AsksB_F k = some (asks k) := by
  unfold asks AsksB_F
  cases (k == 2) <;> cases (k == 3) <;> cases (k == 4) <;> cases (k == 6) <;> cases (k == 7) <;> rfl
theorem asks_c (k : Int) : FnP Tryz.prog 44 [I64 k] (· = B (asks k)) := AsksB_w k _ (asks_some k)
noncomputable def cameB (o : Int) (x : Rw) : Bool := (x.act == 1) && ((x.note.owner == o) && ((x.note.err == 0) && asks x.note.kind))
def servedB (o : Int) (x : Rw) : Bool := (x.act == 2) && (x.note.owner == o)
theorem served1_c (o : Int) (x : Rw) : FnP Tryz.prog 46 [.agg (Rw.c x), .cp [I64 o]] (· = .tup [.agg (Nte.c x.note), B (servedB o x)]) := by
  refine FnP.intro Tryz.tabOK Tryz.wide_ Tryz.func46 rfl (by decide) rfl (fun X => ?_)
  repeat (first | refine sc rfl ?_ | refine so rfl ?_ | refine sb rfl ?_)
  refine C_le _ (Le.freezebox 2 rfl rfl rfl) ?_
  unfold servedB
  cases hb1 : (x.act == 2) with
  | false =>
    refine C_drawM (⟨[[], [], [], [], [], [], [], [], [], [], [], [], [], []], [12], [], []⟩ : Pl) (fun L => ([.box 3 35 (bif L 12 then (Nte.c x.note) else [I64 0, I64 0, I64 0, .s [], I64 0, .s []])] : List Ch)) rfl (by kernel_rfl) (fun L L' h => by show ([.box 3 35 (bif L 12 then (Nte.c x.note) else [I64 0, I64 0, I64 0, .s [], I64 0, .s []])] : List Ch) = ([.box 3 35 (bif L' 12 then (Nte.c x.note) else [I64 0, I64 0, I64 0, .s [], I64 0, .s []])] : List Ch); rw [h 12 (by decide)]) rfl ?_
    refine sm rfl ⟨trivial, ?_⟩
    refine sm rfl ⟨trivial, ?_⟩
    refine sm rfl ⟨trivial, ?_⟩
    refine sm rfl ⟨trivial, ?_⟩
    refine sm rfl ⟨trivial, ?_⟩
    rw [hb1]
    refine sm rfl ⟨trivial, ?_⟩
    refine SM (.tup []) rfl (fun L h1 h2 h3 => X_none rfl rfl) ?_
    refine SM (.tup []) rfl (fun L h1 h2 h3 => X_none rfl rfl) ?_
    refine SM (.tup []) rfl (fun L h1 h2 h3 => X_none rfl rfl) ?_
    refine SM (.tup []) rfl (fun L h1 h2 h3 => X_none rfl rfl) ?_
    refine SM (.tup []) rfl (fun L h1 h2 h3 => X_none rfl rfl) ?_
    refine sm rfl ⟨trivial, ?_⟩
    refine SM .bad rfl (fun L h1 h2 h3 => ?_) ?_
    · show StepX _ _ _ _ _ ([.box 3 35 (bif L 12 then (Nte.c x.note) else [I64 0, I64 0, I64 0, .s [], I64 0, .s []])] : List Ch) ([.box 3 35 (Nte.c x.note)] : List Ch) _ _ _
      rw [show L 12 = false from h3]
      exact X_storeK rfl rfl rfl rfl rfl rfl rfl rfl rfl
    refine sm rfl ⟨trivial, ?_⟩
    refine sm rfl ?_
    show SymC _ _ _ ⟨_, ([.box 3 35 (Nte.c x.note)] : List Ch)⟩ _
    repeat (first | refine sc rfl ?_ | refine so rfl ?_ | refine sb rfl ?_)
    exact ⟨_, rfl, rfl, rfl⟩
  | true =>
    cases hb2 : (x.note.owner == o) with
    | false =>
      refine C_drawM (⟨[[], [], [], [], [], [], [], [], [], [], [], [], [], []], [12], [], []⟩ : Pl) (fun L => ([.box 3 35 (bif L 12 then (Nte.c x.note) else [I64 0, I64 0, I64 0, .s [], I64 0, .s []])] : List Ch)) rfl (by kernel_rfl) (fun L L' h => by show ([.box 3 35 (bif L 12 then (Nte.c x.note) else [I64 0, I64 0, I64 0, .s [], I64 0, .s []])] : List Ch) = ([.box 3 35 (bif L' 12 then (Nte.c x.note) else [I64 0, I64 0, I64 0, .s [], I64 0, .s []])] : List Ch); rw [h 12 (by decide)]) rfl ?_
      refine sm rfl ⟨trivial, ?_⟩
      refine sm rfl ⟨trivial, ?_⟩
      refine sm rfl ⟨trivial, ?_⟩
      refine sm rfl ⟨trivial, ?_⟩
      refine sm rfl ⟨trivial, ?_⟩
      rw [hb1]
      refine sm rfl ⟨trivial, ?_⟩
      refine sm rfl ⟨trivial, ?_⟩
      refine sm rfl ⟨trivial, ?_⟩
      refine sm rfl ⟨trivial, ?_⟩
      refine sm rfl ⟨trivial, ?_⟩
      refine sm rfl ⟨trivial, ?_⟩
      rw [hb2]
      refine sm rfl ⟨trivial, ?_⟩
      refine SM .bad rfl (fun L h1 h2 h3 => ?_) ?_
      · show StepX _ _ _ _ _ ([.box 3 35 (bif L 12 then (Nte.c x.note) else [I64 0, I64 0, I64 0, .s [], I64 0, .s []])] : List Ch) ([.box 3 35 (Nte.c x.note)] : List Ch) _ _ _
        rw [show L 12 = false from h3]
        exact X_storeK rfl rfl rfl rfl rfl rfl rfl rfl rfl
      refine sm rfl ⟨trivial, ?_⟩
      refine sm rfl ?_
      show SymC _ _ _ ⟨_, ([.box 3 35 (Nte.c x.note)] : List Ch)⟩ _
      repeat (first | refine sc rfl ?_ | refine so rfl ?_ | refine sb rfl ?_)
      exact ⟨_, rfl, rfl, rfl⟩
    | true =>
      refine C_drawM (⟨[[], [], [], [], [], [], [], [], [], [], [], [], [], []], [12], [], []⟩ : Pl) (fun L => ([.box 3 35 (bif L 12 then (Nte.c x.note) else [I64 0, I64 0, I64 0, .s [], I64 0, .s []])] : List Ch)) rfl (by kernel_rfl) (fun L L' h => by show ([.box 3 35 (bif L 12 then (Nte.c x.note) else [I64 0, I64 0, I64 0, .s [], I64 0, .s []])] : List Ch) = ([.box 3 35 (bif L' 12 then (Nte.c x.note) else [I64 0, I64 0, I64 0, .s [], I64 0, .s []])] : List Ch); rw [h 12 (by decide)]) rfl ?_
      refine sm rfl ⟨trivial, ?_⟩
      refine sm rfl ⟨trivial, ?_⟩
      refine sm rfl ⟨trivial, ?_⟩
      refine sm rfl ⟨trivial, ?_⟩
      refine sm rfl ⟨trivial, ?_⟩
      rw [hb1]
      refine sm rfl ⟨trivial, ?_⟩
      refine sm rfl ⟨trivial, ?_⟩
      refine sm rfl ⟨trivial, ?_⟩
      refine sm rfl ⟨trivial, ?_⟩
      refine sm rfl ⟨trivial, ?_⟩
      refine sm rfl ⟨trivial, ?_⟩
      rw [hb2]
      refine sm rfl ⟨trivial, ?_⟩
      refine SM .bad rfl (fun L h1 h2 h3 => ?_) ?_
      · show StepX _ _ _ _ _ ([.box 3 35 (bif L 12 then (Nte.c x.note) else [I64 0, I64 0, I64 0, .s [], I64 0, .s []])] : List Ch) ([.box 3 35 (Nte.c x.note)] : List Ch) _ _ _
        rw [show L 12 = false from h3]
        exact X_storeK rfl rfl rfl rfl rfl rfl rfl rfl rfl
      refine sm rfl ⟨trivial, ?_⟩
      refine sm rfl ?_
      show SymC _ _ _ ⟨_, ([.box 3 35 (Nte.c x.note)] : List Ch)⟩ _
      repeat (first | refine sc rfl ?_ | refine so rfl ?_ | refine sb rfl ?_)
      exact ⟨_, rfl, rfl, rfl⟩
theorem came1_c (o : Int) (x : Rw) : FnP Tryz.prog 43 [.agg (Rw.c x), .cp [I64 o]] (· = .tup [.agg (Nte.c x.note), B (cameB o x)]) := by
  refine FnP.intro Tryz.tabOK Tryz.wide_ Tryz.func43 rfl (by decide) rfl (fun X => ?_)
  repeat (first | refine sc rfl ?_ | refine so rfl ?_ | refine sb rfl ?_)
  refine C_le _ (Le.freezebox 2 rfl rfl rfl) ?_
  unfold cameB
  cases hb1 : (x.act == 1) with
  | false =>
    refine C_drawM (⟨[[], [], [], [], [], [], [], [], [], [], [], [], [], [], [], [], [], [], [], [], [], [], [], [], [], []], [24], [], []⟩ : Pl) (fun L => ([.box 3 35 (bif L 24 then (Nte.c x.note) else [I64 0, I64 0, I64 0, .s [], I64 0, .s []])] : List Ch)) rfl (by kernel_rfl) (fun L L' h => by show ([.box 3 35 (bif L 24 then (Nte.c x.note) else [I64 0, I64 0, I64 0, .s [], I64 0, .s []])] : List Ch) = ([.box 3 35 (bif L' 24 then (Nte.c x.note) else [I64 0, I64 0, I64 0, .s [], I64 0, .s []])] : List Ch); rw [h 24 (by decide)]) rfl ?_
    refine sm rfl ⟨trivial, ?_⟩
    refine sm rfl ⟨trivial, ?_⟩
    refine sm rfl ⟨trivial, ?_⟩
    refine sm rfl ⟨trivial, ?_⟩
    refine sm rfl ⟨trivial, ?_⟩
    rw [hb1]
    refine sm rfl ⟨trivial, ?_⟩
    refine SM (.tup []) rfl (fun L h1 h2 h3 => X_none rfl rfl) ?_
    refine SM (.tup []) rfl (fun L h1 h2 h3 => X_none rfl rfl) ?_
    refine SM (.tup []) rfl (fun L h1 h2 h3 => X_none rfl rfl) ?_
    refine SM (.tup []) rfl (fun L h1 h2 h3 => X_none rfl rfl) ?_
    refine SM (.tup []) rfl (fun L h1 h2 h3 => X_none rfl rfl) ?_
    refine sm rfl ⟨trivial, ?_⟩
    refine sm rfl ⟨trivial, ?_⟩
    refine SM (.tup []) rfl (fun L h1 h2 h3 => X_none rfl rfl) ?_
    refine SM (.tup []) rfl (fun L h1 h2 h3 => X_none rfl rfl) ?_
    refine SM (.tup []) rfl (fun L h1 h2 h3 => X_none rfl rfl) ?_
    refine SM (.tup []) rfl (fun L h1 h2 h3 => X_none rfl rfl) ?_
    refine sm rfl ⟨trivial, ?_⟩
    refine sm rfl ⟨trivial, ?_⟩
    refine SM (.tup []) rfl (fun L h1 h2 h3 => X_none rfl rfl) ?_
    refine SM (.tup []) rfl (fun L h1 h2 h3 => X_none rfl rfl) ?_
    refine SM (.tup []) rfl (fun L h1 h2 h3 => X_none rfl rfl) ?_
    refine SM (.tup []) rfl (fun L h1 h2 h3 => X_none rfl rfl) ?_
    refine sm rfl ⟨trivial, ?_⟩
    refine SM .bad rfl (fun L h1 h2 h3 => ?_) ?_
    · show StepX _ _ _ _ _ ([.box 3 35 (bif L 24 then (Nte.c x.note) else [I64 0, I64 0, I64 0, .s [], I64 0, .s []])] : List Ch) ([.box 3 35 (Nte.c x.note)] : List Ch) _ _ _
      rw [show L 24 = false from h3]
      exact X_storeK rfl rfl rfl rfl rfl rfl rfl rfl rfl
    refine sm rfl ⟨trivial, ?_⟩
    refine sm rfl ?_
    show SymC _ _ _ ⟨_, ([.box 3 35 (Nte.c x.note)] : List Ch)⟩ _
    repeat (first | refine sc rfl ?_ | refine so rfl ?_ | refine sb rfl ?_)
    exact ⟨_, rfl, rfl, rfl⟩
  | true =>
    cases hb2 : (x.note.owner == o) with
    | false =>
      refine C_drawM (⟨[[], [], [], [], [], [], [], [], [], [], [], [], [], [], [], [], [], [], [], [], [], [], [], [], [], []], [24], [], []⟩ : Pl) (fun L => ([.box 3 35 (bif L 24 then (Nte.c x.note) else [I64 0, I64 0, I64 0, .s [], I64 0, .s []])] : List Ch)) rfl (by kernel_rfl) (fun L L' h => by show ([.box 3 35 (bif L 24 then (Nte.c x.note) else [I64 0, I64 0, I64 0, .s [], I64 0, .s []])] : List Ch) = ([.box 3 35 (bif L' 24 then (Nte.c x.note) else [I64 0, I64 0, I64 0, .s [], I64 0, .s []])] : List Ch); rw [h 24 (by decide)]) rfl ?_
      refine sm rfl ⟨trivial, ?_⟩
      refine sm rfl ⟨trivial, ?_⟩
      refine sm rfl ⟨trivial, ?_⟩
      refine sm rfl ⟨trivial, ?_⟩
      refine sm rfl ⟨trivial, ?_⟩
      rw [hb1]
      refine sm rfl ⟨trivial, ?_⟩
      refine sm rfl ⟨trivial, ?_⟩
      refine sm rfl ⟨trivial, ?_⟩
      refine sm rfl ⟨trivial, ?_⟩
      refine sm rfl ⟨trivial, ?_⟩
      refine sm rfl ⟨trivial, ?_⟩
      rw [hb2]
      refine sm rfl ⟨trivial, ?_⟩
      refine sm rfl ⟨trivial, ?_⟩
      refine SM (.tup []) rfl (fun L h1 h2 h3 => X_none rfl rfl) ?_
      refine SM (.tup []) rfl (fun L h1 h2 h3 => X_none rfl rfl) ?_
      refine SM (.tup []) rfl (fun L h1 h2 h3 => X_none rfl rfl) ?_
      refine SM (.tup []) rfl (fun L h1 h2 h3 => X_none rfl rfl) ?_
      refine sm rfl ⟨trivial, ?_⟩
      refine sm rfl ⟨trivial, ?_⟩
      refine SM (.tup []) rfl (fun L h1 h2 h3 => X_none rfl rfl) ?_
      refine SM (.tup []) rfl (fun L h1 h2 h3 => X_none rfl rfl) ?_
      refine SM (.tup []) rfl (fun L h1 h2 h3 => X_none rfl rfl) ?_
      refine SM (.tup []) rfl (fun L h1 h2 h3 => X_none rfl rfl) ?_
      refine sm rfl ⟨trivial, ?_⟩
      refine SM .bad rfl (fun L h1 h2 h3 => ?_) ?_
      · show StepX _ _ _ _ _ ([.box 3 35 (bif L 24 then (Nte.c x.note) else [I64 0, I64 0, I64 0, .s [], I64 0, .s []])] : List Ch) ([.box 3 35 (Nte.c x.note)] : List Ch) _ _ _
        rw [show L 24 = false from h3]
        exact X_storeK rfl rfl rfl rfl rfl rfl rfl rfl rfl
      refine sm rfl ⟨trivial, ?_⟩
      refine sm rfl ?_
      show SymC _ _ _ ⟨_, ([.box 3 35 (Nte.c x.note)] : List Ch)⟩ _
      repeat (first | refine sc rfl ?_ | refine so rfl ?_ | refine sb rfl ?_)
      exact ⟨_, rfl, rfl, rfl⟩
    | true =>
      cases hb3 : (x.note.err == 0) with
      | false =>
        refine C_drawM (⟨[[], [], [], [], [], [], [], [], [], [], [], [], [], [], [], [], [], [], [], [], [], [], [], [], [], []], [24], [], []⟩ : Pl) (fun L => ([.box 3 35 (bif L 24 then (Nte.c x.note) else [I64 0, I64 0, I64 0, .s [], I64 0, .s []])] : List Ch)) rfl (by kernel_rfl) (fun L L' h => by show ([.box 3 35 (bif L 24 then (Nte.c x.note) else [I64 0, I64 0, I64 0, .s [], I64 0, .s []])] : List Ch) = ([.box 3 35 (bif L' 24 then (Nte.c x.note) else [I64 0, I64 0, I64 0, .s [], I64 0, .s []])] : List Ch); rw [h 24 (by decide)]) rfl ?_
        refine sm rfl ⟨trivial, ?_⟩
        refine sm rfl ⟨trivial, ?_⟩
        refine sm rfl ⟨trivial, ?_⟩
        refine sm rfl ⟨trivial, ?_⟩
        refine sm rfl ⟨trivial, ?_⟩
        rw [hb1]
        refine sm rfl ⟨trivial, ?_⟩
        refine sm rfl ⟨trivial, ?_⟩
        refine sm rfl ⟨trivial, ?_⟩
        refine sm rfl ⟨trivial, ?_⟩
        refine sm rfl ⟨trivial, ?_⟩
        refine sm rfl ⟨trivial, ?_⟩
        rw [hb2]
        refine sm rfl ⟨trivial, ?_⟩
        refine sm rfl ⟨trivial, ?_⟩
        refine sm rfl ⟨trivial, ?_⟩
        refine sm rfl ⟨trivial, ?_⟩
        refine sm rfl ⟨trivial, ?_⟩
        refine sm rfl ⟨trivial, ?_⟩
        rw [hb3]
        refine sm rfl ⟨trivial, ?_⟩
        refine sm rfl ⟨trivial, ?_⟩
        refine SM (.tup []) rfl (fun L h1 h2 h3 => X_none rfl rfl) ?_
        refine SM (.tup []) rfl (fun L h1 h2 h3 => X_none rfl rfl) ?_
        refine SM (.tup []) rfl (fun L h1 h2 h3 => X_none rfl rfl) ?_
        refine SM (.tup []) rfl (fun L h1 h2 h3 => X_none rfl rfl) ?_
        refine sm rfl ⟨trivial, ?_⟩
        refine SM .bad rfl (fun L h1 h2 h3 => ?_) ?_
        · show StepX _ _ _ _ _ ([.box 3 35 (bif L 24 then (Nte.c x.note) else [I64 0, I64 0, I64 0, .s [], I64 0, .s []])] : List Ch) ([.box 3 35 (Nte.c x.note)] : List Ch) _ _ _
          rw [show L 24 = false from h3]
          exact X_storeK rfl rfl rfl rfl rfl rfl rfl rfl rfl
        refine sm rfl ⟨trivial, ?_⟩
        refine sm rfl ?_
        show SymC _ _ _ ⟨_, ([.box 3 35 (Nte.c x.note)] : List Ch)⟩ _
        repeat (first | refine sc rfl ?_ | refine so rfl ?_ | refine sb rfl ?_)
        exact ⟨_, rfl, rfl, rfl⟩
      | true =>
        refine C_drawM (⟨[[], [], [], [], [], [], [], [], [], [], [], [], [], [], [], [], [], [], [], [], [], [], [], [], [], []], [24], [], []⟩ : Pl) (fun L => ([.box 3 35 (bif L 24 then (Nte.c x.note) else [I64 0, I64 0, I64 0, .s [], I64 0, .s []])] : List Ch)) rfl (by kernel_rfl) (fun L L' h => by show ([.box 3 35 (bif L 24 then (Nte.c x.note) else [I64 0, I64 0, I64 0, .s [], I64 0, .s []])] : List Ch) = ([.box 3 35 (bif L' 24 then (Nte.c x.note) else [I64 0, I64 0, I64 0, .s [], I64 0, .s []])] : List Ch); rw [h 24 (by decide)]) rfl ?_
        refine sm rfl ⟨trivial, ?_⟩
        refine sm rfl ⟨trivial, ?_⟩
        refine sm rfl ⟨trivial, ?_⟩
        refine sm rfl ⟨trivial, ?_⟩
        refine sm rfl ⟨trivial, ?_⟩
        rw [hb1]
        refine sm rfl ⟨trivial, ?_⟩
        refine sm rfl ⟨trivial, ?_⟩
        refine sm rfl ⟨trivial, ?_⟩
        refine sm rfl ⟨trivial, ?_⟩
        refine sm rfl ⟨trivial, ?_⟩
        refine sm rfl ⟨trivial, ?_⟩
        rw [hb2]
        refine sm rfl ⟨trivial, ?_⟩
        refine sm rfl ⟨trivial, ?_⟩
        refine sm rfl ⟨trivial, ?_⟩
        refine sm rfl ⟨trivial, ?_⟩
        refine sm rfl ⟨trivial, ?_⟩
        refine sm rfl ⟨trivial, ?_⟩
        rw [hb3]
        refine sm rfl ⟨trivial, ?_⟩
        refine sm rfl ⟨trivial, ?_⟩
        refine sm rfl ⟨trivial, ?_⟩
        refine sm rfl ⟨trivial, ?_⟩
        refine sm rfl ⟨trivial, ?_⟩
        refine SM (B (asks x.note.kind)) rfl (fun L h1 h2 h3 => X_callP (asks_c x.note.kind) rfl rfl rfl rfl) ?_
        refine sm rfl ⟨trivial, ?_⟩
        refine SM .bad rfl (fun L h1 h2 h3 => ?_) ?_
        · show StepX _ _ _ _ _ ([.box 3 35 (bif L 24 then (Nte.c x.note) else [I64 0, I64 0, I64 0, .s [], I64 0, .s []])] : List Ch) ([.box 3 35 (Nte.c x.note)] : List Ch) _ _ _
          rw [show L 24 = false from h3]
          exact X_storeK rfl rfl rfl rfl rfl rfl rfl rfl rfl
        refine sm rfl ⟨trivial, ?_⟩
        refine sm rfl ?_
        show SymC _ _ _ ⟨_, ([.box 3 35 (Nte.c x.note)] : List Ch)⟩ _
        repeat (first | refine sc rfl ?_ | refine so rfl ?_ | refine sb rfl ?_)
        exact ⟨_, rfl, rfl, rfl⟩
end Go.Proofs

/- TraceAsks: what is picked. -/
set_option linter.unusedSimpArgs false
set_option linter.unusedVariables false
set_option maxRecDepth 100000
namespace Go.Proofs
open Go.Sy Go.Lib

def pickF (p : Rw → Bool) (l : List Rw) : List Nte := (l.filter p).map (·.note)
theorem pickF_snoc (p : Rw → Bool) (l : List Rw) (x : Rw) : pickF p (l ++ [x]) = pickF p l ++ (if p x = true then [x.note] else []) := by
  unfold pickF
  cases h : p x <;> simp [h]
theorem pickF_len (p : Rw → Bool) (l : List Rw) : (pickF p l).length ≤ l.length := by
  unfold pickF
  rw [List.length_map]
  exact List.length_filter_le _ _
theorem pick_c (g : FuncId) (o : Int) (p : Rw → Bool) (l : List Rw) (hl : l.length ≤ 300) (hg : ∀ x, FnP Tryz.prog g ([.agg (Rw.c x)] ++ [.cp [I64 o]]) (· = .tup [.agg (Nte.c x.note), B (p x)])) :
    FnP Tryz.prog 42 [SL 8 Rw.c l, .p (cloRP g [.cp [I64 o]])] (· = SL 6 Nte.c (pickF p l)) := by
  refine FnP.intro Tryz.tabOK Tryz.wide_ Tryz.func42 rfl (by decide) rfl (fun X => ?_)
  repeat (first | refine sc rfl ?_ | refine so rfl ?_ | refine sb rfl ?_)
  refine C_le _ (Le.nilvec Nte.c 5 26 35 6 rfl rfl rfl) ?_
  refine C_loop (fun i : Nat => ⟨[(1, .p (cloRP g [.cp [I64 o]])), (5, .own 26), (10, SL 8 Rw.c l), (11, I64 (l.length : Nat)), (12, I64 (i : Nat))], [VEC 26 35 6 Nte.c (pickF p (l.take i))]⟩) (fun i => i ≤ l.length) (fun i => l.length - i) 0 (Nat.zero_le _) (Le.sub [26] ⟨rfl, rfl, rfl, rfl, rfl, trivial⟩ rfl) ?_
  intro i hi
  repeat (first | refine sc rfl ?_ | refine so rfl ?_ | refine sb rfl ?_)
  refine C_if rfl (fun m1 => ?_) (fun m1 => ?_) <;> simp only [decide_eq_true_eq, decide_eq_false_iff_not, Bool.not_eq_true', Bool.not_eq_false', beq_iff_eq, beq_eq_false_iff_ne, bne_iff_ne, ne_eq, bne_eq_false_iff_eq, Decidable.not_not] at m1
  · have hil : i < l.length := by omega
    have htk : l.take (i + 1) = l.take i ++ [l.getD i default] := by rw [List.take_succ_eq_append_getElem hil, getD_at45 hil]
    have hx := pickF_snoc p (l.take i) (l.getD i default)
    rw [← htk] at hx
    have hlen := pickF_len p (l.take i)
    rw [List.length_take] at hlen
    repeat (first | refine sc rfl ?_ | refine so rfl ?_ | refine sb rfl ?_)
    refine ⟨by omega, ?_⟩
    rw [Int.toNat_natCast]
    repeat (first | refine sc rfl ?_ | refine so rfl ?_ | refine sb rfl ?_)
    refine O_callAV (isClo_p g _) rfl (FnP.toA (hg (l.getD i default)) []) rfl rfl rfl rfl (cs := []) (.refl _) rfl ?_
    rintro r' cs' ⟨rfl, rfl⟩
    repeat (first | refine sc rfl ?_ | refine so rfl ?_ | refine sb rfl ?_)
    cases hp : p (l.getD i default) with
    | true =>
      rw [hp, if_pos rfl] at hx
      refine C_true rfl rfl ?_
      repeat (first | refine sc rfl ?_ | refine so rfl ?_ | refine sb rfl ?_)
      refine O_push Nte.c (pickF p (l.take i)) (l.getD i default).note [(1, .p (cloRP g [.cp [I64 o]])), (10, SL 8 Rw.c l), (11, I64 (l.length : Nat)), (12, I64 (i : Nat))] rfl rfl rfl rfl rfl rfl rfl rfl rfl rfl ⟨rfl, rfl, rfl, rfl, trivial⟩ rfl rfl (by omega) (by simp only [maxLen]; omega) ?_
      rw [← hx]
      repeat (first | refine sc rfl ?_ | refine so rfl ?_ | refine sb rfl ?_)
      rw [w64 (x := (i : Int) + 1) (by omega) (by omega)]
      exact ⟨i + 1, hil, by omega, Le.sub [26] ⟨rfl, rfl, rfl, rfl, rfl, trivial⟩ rfl⟩
    | false =>
      rw [hp, if_neg (by decide), List.append_nil] at hx
      refine C_false rfl rfl ?_
      repeat (first | refine sc rfl ?_ | refine so rfl ?_ | refine sb rfl ?_)
      rw [w64 (x := (i : Int) + 1) (by omega) (by omega)]
      refine ⟨i + 1, hil, by omega, ?_⟩
      rw [hx]
      exact Le.sub [26] ⟨rfl, rfl, rfl, rfl, rfl, trivial⟩ rfl
  · obtain rfl : i = l.length := by omega
    rw [List.take_length]
    refine C_le _ (Le.freezeL (cells := Nte.c) 5 rfl rfl) ?_
    repeat (first | refine sc rfl ?_ | refine so rfl ?_ | refine sb rfl ?_)
    exact ⟨_, rfl, rfl, rfl⟩
theorem came_c (o : Int) (l : List Rw) (hl : l.length ≤ 300) : FnP Tryz.prog 12 [SL 8 Rw.c l, I64 o] (· = SL 6 Nte.c (pickF (cameB o) l)) := by
  refine FnP.intro Tryz.tabOK Tryz.wide_ Tryz.func12 rfl (by decide) rfl (fun X => ?_)
  repeat (first | refine sc rfl ?_ | refine so rfl ?_ | refine sb rfl ?_)
  refine O_le _ (Le.freezebox 3 rfl rfl rfl) ?_
  refine O_makeFunc rfl rfl rfl rfl ?_
  refine O_call (pick_c 43 o (cameB o) l hl (fun x => came1_c o x)) (by rfl) (by rfl) (by rfl) (by rfl) (fun r' hr => ?_)
  subst hr
  repeat (first | refine sc rfl ?_ | refine so rfl ?_ | refine sb rfl ?_)
  exact ⟨_, rfl, rfl, rfl⟩
theorem served_c (o : Int) (l : List Rw) (hl : l.length ≤ 300) : FnP Tryz.prog 14 [SL 8 Rw.c l, I64 o] (· = SL 6 Nte.c (pickF (servedB o) l)) := by
  refine FnP.intro Tryz.tabOK Tryz.wide_ Tryz.func14 rfl (by decide) rfl (fun X => ?_)
  repeat (first | refine sc rfl ?_ | refine so rfl ?_ | refine sb rfl ?_)
  refine O_le _ (Le.freezebox 3 rfl rfl rfl) ?_
  refine O_makeFunc rfl rfl rfl rfl ?_
  refine O_call (pick_c 46 o (servedB o) l hl (fun x => served1_c o x)) (by rfl) (by rfl) (by rfl) (by rfl) (fun r' hr => ?_)
  subst hr
  repeat (first | refine sc rfl ?_ | refine so rfl ?_ | refine sb rfl ?_)
  exact ⟨_, rfl, rfl, rfl⟩
end Go.Proofs

/- TraceAsks: notes and rows compared. -/
set_option linter.unusedSimpArgs false
set_option linter.unusedVariables false
set_option maxRecDepth 100000
namespace Go.Proofs
open Go.Sy Go.Lib

theorem rep_nte (m : Nte) (e : Env) (ys : List Value) (h : RepL e (Nte.c m) ys) : ys = (nteV m).toList := by
  simp only [Nte.c, RepL, Rep] at h
  obtain ⟨z1, t1, rfl, rfl, _, z2, t2, rfl, rfl, _, z3, t3, rfl, rfl, _, z4, t4, rfl, rfl, _, z5, t5, rfl, rfl, _, z6, t6, rfl, rfl, _, rfl⟩ := h
  rfl
theorem eq_nte0 (m : Nte) (w : World) : (Op.equalIn 10000 35 (.agg (nteV m)) (.agg (nteV m))).run Tryz.prog w = .ok true w := by
  rw [run_equalIn_struct w 9999 35 _ _ Tryz.underlying35 Tryz.stoodInHeld35]
  unfold Program.fieldsOf
  rw [Tryz.underlying35]
  have p0 : (part 3 (nteV m) 0).run Tryz.prog w = .ok (.int .i64 m.conn) w := by simp [part, isAgg, run_underlying Tryz.underlying3, nteV]
  have p1 : (part 3 (nteV m) 1).run Tryz.prog w = .ok (.int .i64 m.owner) w := by simp [part, isAgg, run_underlying Tryz.underlying3, nteV]
  have p2 : (part 3 (nteV m) 2).run Tryz.prog w = .ok (.int .i64 m.kind) w := by simp [part, isAgg, run_underlying Tryz.underlying3, nteV]
  have p3 : (part 9 (nteV m) 3).run Tryz.prog w = .ok (S m.body) w := by simp [part, isAgg, run_underlying Tryz.underlying9, nteV]
  have p4 : (part 33 (nteV m) 4).run Tryz.prog w = .ok (.int .i64 m.err) w := by simp [part, isAgg, run_underlying Tryz.underlying33, nteV]
  have p5 : (part 9 (nteV m) 5).run Tryz.prog w = .ok (S m.reply) w := by simp [part, isAgg, run_underlying Tryz.underlying9, nteV]
  have e0 : ∀ k, (Op.equalIn 9999 3 (.int .i64 k) (.int .i64 k)).run Tryz.prog w = .ok true w := fun k => by rw [run_equalIn_int w 9998 3 .i64 .i64 _ _ Tryz.underlying3]; simp
  have e1 : ∀ l, (Op.equalIn 9999 9 (S l) (S l)).run Tryz.prog w = .ok true w := fun l => by unfold S; rw [run_equalIn_string w 9998 9 _ _ Tryz.underlying9]; simp
  have e2 : ∀ k, (Op.equalIn 9999 33 (.int .i64 k) (.int .i64 k)).run Tryz.prog w = .ok true w := fun k => by rw [run_equalIn_int w 9998 33 .i64 .i64 _ _ Tryz.underlying33]; simp
  simp only [Op.eqFields]
  rw [if_pos (by decide), if_pos (by decide), if_pos (by decide), if_pos (by decide), if_pos (by decide), if_pos (by decide)]
  simp [Sem.run_bind, p0, p1, p2, p3, p4, p5, e0, e1, e2]
theorem noted_same (l : List Nte) (hl : l.length ≤ 300) : FnP Tryz.prog 11 [SL 6 Nte.c l, SL 6 Nte.c l] (· = B true) := by
  refine FnP.intro Tryz.tabOK Tryz.wide_ Tryz.func11 rfl (by decide) rfl (fun X => ?_)
  repeat (first | refine sc rfl ?_ | refine so rfl ?_ | refine sb rfl ?_)
  refine C_false rfl (by simp) ?_
  repeat (first | refine sc rfl ?_ | refine so rfl ?_ | refine sb rfl ?_)
  refine C_loop (fun i : Nat => ⟨[(0, SL 6 Nte.c l), (1, SL 6 Nte.c l), (5, I64 (i : Nat))], []⟩) (fun i => i ≤ l.length) (fun i => l.length - i) 0 (Nat.zero_le _) (Le.sub [] ⟨rfl, rfl, rfl, trivial⟩ rfl) ?_
  intro i hi
  repeat (first | refine sc rfl ?_ | refine so rfl ?_ | refine sb rfl ?_)
  refine C_if rfl (fun m1 => ?_) (fun m1 => ?_) <;> simp only [decide_eq_true_eq, decide_eq_false_iff_not, Bool.not_eq_true', Bool.not_eq_false', beq_iff_eq, beq_eq_false_iff_ne, bne_iff_ne, ne_eq, bne_eq_false_iff_eq, Decidable.not_not] at m1
  · have hil : i < l.length := by omega
    repeat (first | refine sc rfl ?_ | refine so rfl ?_ | refine sb rfl ?_)
    refine C_drawD rfl (by kernel_rfl) ?_
    repeat (first | refine sd rfl ?_ | refine sdb rfl ?_ | refine sds rfl ?_)
    refine ⟨by omega, ?_⟩
    rw [Int.toNat_natCast]
    repeat (first | refine sd rfl ?_ | refine sdb rfl ?_ | refine sds rfl ?_)
    refine ⟨by omega, ?_⟩
    rw [Int.toNat_natCast]
    repeat (first | refine sd rfl ?_ | refine sdb rfl ?_ | refine sds rfl ?_)
    refine D_call (note45_c (l.getD i default)) rfl rfl rfl rfl ?_
    repeat (first | refine sd rfl ?_ | refine sdb rfl ?_ | refine sds rfl ?_)
    refine D_X (B false) (X_aggC (us := nteV (l.getD i default)) (vs := nteV (l.getD i default)) (b := true) (op := .neq) (fun e ys h => rep_nte _ e ys h) (fun e ys h => rep_nte _ e ys h) (fun w => eq_nte0 _ w) Tryz.eqGuardType35 (.inr rfl) rfl rfl rfl rfl) ?_
    repeat (first | refine sd rfl ?_ | refine sdb rfl ?_ | refine sds rfl ?_)
    repeat (first | refine sc rfl ?_ | refine so rfl ?_ | refine sb rfl ?_)
    refine C_false rfl rfl ?_
    repeat (first | refine sc rfl ?_ | refine so rfl ?_ | refine sb rfl ?_)
    rw [w64 (x := (i : Int) + 1) (by omega) (by omega)]
    exact ⟨i + 1, hil, by omega, Le.sub [] ⟨rfl, rfl, rfl, trivial⟩ rfl⟩
  · repeat (first | refine sc rfl ?_ | refine so rfl ?_ | refine sb rfl ?_)
    exact ⟨_, rfl, rfl, rfl⟩
theorem alike_same (l : List Rw) (hl : l.length ≤ 300) : FnP Tryz.prog 15 [SL 8 Rw.c l, SL 8 Rw.c l] (· = B true) := by
  refine FnP.intro Tryz.tabOK Tryz.wide_ Tryz.func15 rfl (by decide) rfl (fun X => ?_)
  repeat (first | refine sc rfl ?_ | refine so rfl ?_ | refine sb rfl ?_)
  refine C_false rfl (by simp) ?_
  repeat (first | refine sc rfl ?_ | refine so rfl ?_ | refine sb rfl ?_)
  refine C_loop (fun i : Nat => ⟨[(0, SL 8 Rw.c l), (1, SL 8 Rw.c l), (5, I64 (i : Nat))], []⟩) (fun i => i ≤ l.length) (fun i => l.length - i) 0 (Nat.zero_le _) (Le.sub [] ⟨rfl, rfl, rfl, trivial⟩ rfl) ?_
  intro i hi
  repeat (first | refine sc rfl ?_ | refine so rfl ?_ | refine sb rfl ?_)
  refine C_if rfl (fun m1 => ?_) (fun m1 => ?_) <;> simp only [decide_eq_true_eq, decide_eq_false_iff_not, Bool.not_eq_true', Bool.not_eq_false', beq_iff_eq, beq_eq_false_iff_ne, bne_iff_ne, ne_eq, bne_eq_false_iff_eq, Decidable.not_not] at m1
  · have hil : i < l.length := by omega
    repeat (first | refine sc rfl ?_ | refine so rfl ?_ | refine sb rfl ?_)
    refine C_drawD rfl (by kernel_rfl) ?_
    repeat (first | refine sd rfl ?_ | refine sdb rfl ?_ | refine sds rfl ?_)
    refine ⟨by omega, ?_⟩
    rw [Int.toNat_natCast]
    repeat (first | refine sd rfl ?_ | refine sdb rfl ?_ | refine sds rfl ?_)
    refine ⟨by omega, ?_⟩
    rw [Int.toNat_natCast]
    repeat (first | refine sd rfl ?_ | refine sdb rfl ?_ | refine sds rfl ?_)
    refine D_call (ours45_c (l.getD i default)) rfl rfl rfl rfl ?_
    repeat (first | refine sd rfl ?_ | refine sdb rfl ?_ | refine sds rfl ?_)
    refine D_X (B false) (X_aggC (us := rwV (l.getD i default)) (vs := rwV (l.getD i default)) (b := true) (op := .neq) (fun e ys h => rep_rw _ e ys h) (fun e ys h => rep_rw _ e ys h) (fun w => eq_rw _ w) Tryz.eqGuardType37 (.inr rfl) rfl rfl rfl rfl) ?_
    repeat (first | refine sd rfl ?_ | refine sdb rfl ?_ | refine sds rfl ?_)
    repeat (first | refine sc rfl ?_ | refine so rfl ?_ | refine sb rfl ?_)
    refine C_false rfl rfl ?_
    repeat (first | refine sc rfl ?_ | refine so rfl ?_ | refine sb rfl ?_)
    rw [w64 (x := (i : Int) + 1) (by omega) (by omega)]
    exact ⟨i + 1, hil, by omega, Le.sub [] ⟨rfl, rfl, rfl, trivial⟩ rfl⟩
  · repeat (first | refine sc rfl ?_ | refine so rfl ?_ | refine sb rfl ?_)
    exact ⟨_, rfl, rfl, rfl⟩
end Go.Proofs

/- TraceAsks: the document's notes. -/
set_option linter.unusedSimpArgs false
set_option linter.unusedVariables false
set_option maxRecDepth 100000
namespace Go.Proofs
open Go.Sy Go.Lib

theorem asksR_some (k : Int) : AsksR_F k = some (asks k) := by
  unfold asks AsksB_F AsksR_F
  cases (k == 2) <;> cases (k == 3) <;> cases (k == 4) <;> cases (k == 6) <;> cases (k == 7) <;> rfl
theorem cameInR_c (x : Rw) (o : Int) : FnP Tryz.prog 45 [.agg (Rw.c x), I64 o] (· = B (cameB o x)) := by
  refine CameInR_w x o _ ?_
  unfold CameInR_F cameB
  rw [asksR_some]
  cases (x.act == 1) <;> cases (x.note.owner == o) <;> cases (x.note.err == 0) <;> rfl
theorem notesT_c (l : List Rw) (hl : l.length ≤ 300) (o : Int) : FnP Tryz.prog 13 [SL 8 Rw.c l, I64 o, B true] (· = SL 6 Nte.c (pickF (servedB o) l)) := by
  refine FnP.intro Tryz.tabOK Tryz.wide_ Tryz.func13 rfl (by decide) rfl (fun X => ?_)
  repeat (first | refine sc rfl ?_ | refine so rfl ?_ | refine sb rfl ?_)
  refine C_le _ (Le.nilvec Nte.c 7 46 41 6 rfl rfl rfl) ?_
  refine C_loop (fun i : Nat => ⟨[(0, SL 8 Rw.c l), (1, I64 o), (2, B true), (7, .own 46), (8, I64 (i : Nat))], [VEC 46 41 6 Nte.c (pickF (servedB o) (l.take i))]⟩) (fun i => i ≤ l.length) (fun i => l.length - i) 0 (Nat.zero_le _) (Le.sub [46] ⟨rfl, rfl, rfl, rfl, rfl, trivial⟩ rfl) ?_
  intro i hi
  repeat (first | refine sc rfl ?_ | refine so rfl ?_ | refine sb rfl ?_)
  refine C_if rfl (fun m1 => ?_) (fun m1 => ?_) <;> simp only [decide_eq_true_eq, decide_eq_false_iff_not, Bool.not_eq_true', Bool.not_eq_false', beq_iff_eq, beq_eq_false_iff_ne, bne_iff_ne, ne_eq, bne_eq_false_iff_eq, Decidable.not_not] at m1
  · have hil : i < l.length := by omega
    have htk : l.take (i + 1) = l.take i ++ [l.getD i default] := by rw [List.take_succ_eq_append_getElem hil, getD_at45 hil]
    have hx := pickF_snoc (servedB o) (l.take i) (l.getD i default)
    rw [← htk] at hx
    have hlen := pickF_len (servedB o) (l.take i)
    rw [List.length_take] at hlen
    repeat (first | refine sc rfl ?_ | refine so rfl ?_ | refine sb rfl ?_)
    refine ⟨by omega, ?_⟩
    rw [Int.toNat_natCast]
    repeat (first | refine sc rfl ?_ | refine so rfl ?_ | refine sb rfl ?_)
    refine O_case 26 rfl (fun hb1 => ?_) (fun hb1 => ?_)
    · repeat (first | refine sc rfl ?_ | refine so rfl ?_ | refine sb rfl ?_)
      refine O_case 33 rfl (fun hb2 => ?_) (fun hb2 => ?_)
      · have hp : servedB o (l.getD i default) = true := by unfold servedB; rw [hb1, hb2]; rfl
        rw [if_pos hp] at hx
        repeat (first | refine sc rfl ?_ | refine so rfl ?_ | refine sb rfl ?_)
        refine C_true rfl rfl ?_
        repeat (first | refine sc rfl ?_ | refine so rfl ?_ | refine sb rfl ?_)
        refine O_push Nte.c (pickF (servedB o) (l.take i)) (l.getD i default).note [(0, SL 8 Rw.c l), (1, I64 o), (2, B true), (8, I64 (i : Nat))] rfl rfl rfl rfl rfl rfl rfl rfl rfl rfl ⟨rfl, rfl, rfl, rfl, trivial⟩ rfl rfl (by omega) (by simp only [maxLen]; omega) ?_
        rw [← hx]
        repeat (first | refine sc rfl ?_ | refine so rfl ?_ | refine sb rfl ?_)
        rw [w64 (x := (i : Int) + 1) (by omega) (by omega)]
        exact ⟨i + 1, hil, by omega, Le.sub [46] ⟨rfl, rfl, rfl, rfl, rfl, trivial⟩ rfl⟩
      · have hp : ¬ servedB o (l.getD i default) = true := by unfold servedB; rw [hb1, hb2]; decide
        rw [if_neg hp, List.append_nil] at hx
        repeat (first | refine sc rfl ?_ | refine so rfl ?_ | refine sb rfl ?_)
        refine C_false rfl rfl ?_
        repeat (first | refine sc rfl ?_ | refine so rfl ?_ | refine sb rfl ?_)
        rw [w64 (x := (i : Int) + 1) (by omega) (by omega)]
        refine ⟨i + 1, hil, by omega, ?_⟩
        rw [hx]
        exact Le.sub [46] ⟨rfl, rfl, rfl, rfl, rfl, trivial⟩ rfl
    · have hp : ¬ servedB o (l.getD i default) = true := by unfold servedB; rw [hb1]; simp
      rw [if_neg hp, List.append_nil] at hx
      repeat (first | refine sc rfl ?_ | refine so rfl ?_ | refine sb rfl ?_)
      refine C_false rfl rfl ?_
      repeat (first | refine sc rfl ?_ | refine so rfl ?_ | refine sb rfl ?_)
      rw [w64 (x := (i : Int) + 1) (by omega) (by omega)]
      refine ⟨i + 1, hil, by omega, ?_⟩
      rw [hx]
      exact Le.sub [46] ⟨rfl, rfl, rfl, rfl, rfl, trivial⟩ rfl
  · obtain rfl : i = l.length := by omega
    rw [List.take_length]
    refine C_le _ (Le.freezeL (cells := Nte.c) 7 rfl rfl) ?_
    repeat (first | refine sc rfl ?_ | refine so rfl ?_ | refine sb rfl ?_)
    exact ⟨_, rfl, rfl, rfl⟩
theorem notesF_c (l : List Rw) (hl : l.length ≤ 300) (o : Int) : FnP Tryz.prog 13 [SL 8 Rw.c l, I64 o, B false] (· = SL 6 Nte.c (pickF (cameB o) l)) := by
  refine FnP.intro Tryz.tabOK Tryz.wide_ Tryz.func13 rfl (by decide) rfl (fun X => ?_)
  repeat (first | refine sc rfl ?_ | refine so rfl ?_ | refine sb rfl ?_)
  refine C_le _ (Le.nilvec Nte.c 7 46 41 6 rfl rfl rfl) ?_
  refine C_loop (fun i : Nat => ⟨[(0, SL 8 Rw.c l), (1, I64 o), (2, B false), (7, .own 46), (8, I64 (i : Nat))], [VEC 46 41 6 Nte.c (pickF (cameB o) (l.take i))]⟩) (fun i => i ≤ l.length) (fun i => l.length - i) 0 (Nat.zero_le _) (Le.sub [46] ⟨rfl, rfl, rfl, rfl, rfl, trivial⟩ rfl) ?_
  intro i hi
  repeat (first | refine sc rfl ?_ | refine so rfl ?_ | refine sb rfl ?_)
  refine C_if rfl (fun m1 => ?_) (fun m1 => ?_) <;> simp only [decide_eq_true_eq, decide_eq_false_iff_not, Bool.not_eq_true', Bool.not_eq_false', beq_iff_eq, beq_eq_false_iff_ne, bne_iff_ne, ne_eq, bne_eq_false_iff_eq, Decidable.not_not] at m1
  · have hil : i < l.length := by omega
    have htk : l.take (i + 1) = l.take i ++ [l.getD i default] := by rw [List.take_succ_eq_append_getElem hil, getD_at45 hil]
    have hx := pickF_snoc (cameB o) (l.take i) (l.getD i default)
    rw [← htk] at hx
    have hlen := pickF_len (cameB o) (l.take i)
    rw [List.length_take] at hlen
    repeat (first | refine sc rfl ?_ | refine so rfl ?_ | refine sb rfl ?_)
    refine ⟨by omega, ?_⟩
    rw [Int.toNat_natCast]
    repeat (first | refine sc rfl ?_ | refine so rfl ?_ | refine sb rfl ?_)
    refine O_call (cameInR_c (l.getD i default) o) (by rfl) (by rfl) (by rfl) (by rfl) (fun r' hr => ?_)
    subst hr
    repeat (first | refine sc rfl ?_ | refine so rfl ?_ | refine sb rfl ?_)
    cases hpb : cameB o (l.getD i default) with
    | true =>
      have hp : cameB o (l.getD i default) = true := hpb
      rw [if_pos hp] at hx
      repeat (first | refine sc rfl ?_ | refine so rfl ?_ | refine sb rfl ?_)
      refine C_true rfl rfl ?_
      repeat (first | refine sc rfl ?_ | refine so rfl ?_ | refine sb rfl ?_)
      refine O_push Nte.c (pickF (cameB o) (l.take i)) (l.getD i default).note [(0, SL 8 Rw.c l), (1, I64 o), (2, B false), (8, I64 (i : Nat))] rfl rfl rfl rfl rfl rfl rfl rfl rfl rfl ⟨rfl, rfl, rfl, rfl, trivial⟩ rfl rfl (by omega) (by simp only [maxLen]; omega) ?_
      rw [← hx]
      repeat (first | refine sc rfl ?_ | refine so rfl ?_ | refine sb rfl ?_)
      rw [w64 (x := (i : Int) + 1) (by omega) (by omega)]
      exact ⟨i + 1, hil, by omega, Le.sub [46] ⟨rfl, rfl, rfl, rfl, rfl, trivial⟩ rfl⟩
    | false =>
      have hp : ¬ cameB o (l.getD i default) = true := by rw [hpb]; decide
      rw [if_neg hp, List.append_nil] at hx
      repeat (first | refine sc rfl ?_ | refine so rfl ?_ | refine sb rfl ?_)
      refine C_false rfl rfl ?_
      repeat (first | refine sc rfl ?_ | refine so rfl ?_ | refine sb rfl ?_)
      rw [w64 (x := (i : Int) + 1) (by omega) (by omega)]
      refine ⟨i + 1, hil, by omega, ?_⟩
      rw [hx]
      exact Le.sub [46] ⟨rfl, rfl, rfl, rfl, rfl, trivial⟩ rfl
  · obtain rfl : i = l.length := by omega
    rw [List.take_length]
    refine C_le _ (Le.freezeL (cells := Nte.c) 7 rfl rfl) ?_
    repeat (first | refine sc rfl ?_ | refine so rfl ?_ | refine sb rfl ?_)
    exact ⟨_, rfl, rfl, rfl⟩
end Go.Proofs

/- TraceAsks: the rows behind the last deletion. -/
set_option linter.unusedSimpArgs false
set_option linter.unusedVariables false
set_option maxRecDepth 100000
namespace Go.Proofs
open Go.Sy Go.Lib

noncomputable def delB (o : Int) (x : Rw) : Bool := (trDoneF x).2 && ((trDoneF x).1.op == 4 && (trDoneF x).1.owner == o)
/-- Where the rows behind the last deletion begin, of the first i rows. -/
noncomputable def cutAt (o : Int) (l : List Rw) : Nat → Nat
  | 0 => 0
  | i + 1 => if delB o (l.getD i default) = true then i + 1 else cutAt o l i
theorem cutAt_le (o : Int) (l : List Rw) : ∀ i, cutAt o l i ≤ i
  | 0 => Nat.le_refl _
  | i + 1 => by
    unfold cutAt
    split
    · exact Nat.le_refl _
    · exact Nat.le_succ_of_le (cutAt_le o l i)
noncomputable def lastF (o : Int) (l : List Rw) : List Rw := l.drop (cutAt o l l.length)
theorem drop_getD {l : List Rw} {k i : Nat} : (l.drop k).getD i default = l.getD (k + i) default := by
  simp [List.getD_eq_getElem?_getD, List.getElem?_drop]
theorem lastR_c (l : List Rw) (hl : l.length ≤ 300) (hb : ∀ i, i < l.length → (l.getD i default).note.body.length ≤ 9223372036854775807) (o : Int) : FnP Tryz.prog 17 [SL 8 Rw.c l, I64 o] (· = SL 8 Rw.c (lastF o l)) := by
  refine FnP.intro Tryz.tabOK Tryz.wide_ Tryz.func17 rfl (by decide) rfl (fun X => ?_)
  repeat (first | refine sc rfl ?_ | refine so rfl ?_ | refine sb rfl ?_)
  refine C_loop (fun i : Nat => ⟨[(0, SL 8 Rw.c l), (1, I64 o), (5, I64 (i : Nat))], []⟩) (fun i => i ≤ l.length ∧ cutAt o l l.length = cutAt o l i) (fun i => i) l.length ⟨Nat.le_refl _, rfl⟩ (Le.sub [] ⟨rfl, rfl, rfl, trivial⟩ rfl) ?_
  rintro i ⟨hi, hc⟩
  repeat (first | refine sc rfl ?_ | refine so rfl ?_ | refine sb rfl ?_)
  refine C_if rfl (fun m1 => ?_) (fun m1 => ?_) <;> simp only [decide_eq_true_eq, decide_eq_false_iff_not, Bool.not_eq_true', Bool.not_eq_false', beq_iff_eq, beq_eq_false_iff_ne, bne_iff_ne, ne_eq, bne_eq_false_iff_eq, Decidable.not_not] at m1
  · obtain ⟨k, rfl⟩ : ∃ k, i = k + 1 := ⟨i - 1, by omega⟩
    have hkl : k < l.length := by omega
    rw [cutAt] at hc
    repeat (first | refine sc rfl ?_ | refine so rfl ?_ | refine sb rfl ?_)
    rw [w64 (x := ((k + 1 : Nat) : Int) - 1) (by omega) (by omega)]
    refine ⟨by omega, ?_⟩
    rw [show (((k + 1 : Nat) : Int) - 1).toNat = k by omega]
    repeat (first | refine sc rfl ?_ | refine so rfl ?_ | refine sb rfl ?_)
    refine O_call (refDone_c (l.getD k default) (hb k hkl)) (by rfl) (by rfl) (by rfl) (by rfl) (fun r' hr => ?_)
    subst hr
    repeat (first | refine sc rfl ?_ | refine so rfl ?_ | refine sb rfl ?_)
    refine O_case 24 rfl (fun h1 => ?_) (fun h1 => ?_)
    · repeat (first | refine sc rfl ?_ | refine so rfl ?_ | refine sb rfl ?_)
      refine O_case 29 rfl (fun h2 => ?_) (fun h2 => ?_)
      · repeat (first | refine sc rfl ?_ | refine so rfl ?_ | refine sb rfl ?_)
        cases h3 : ((trDoneF (l.getD k default)).1.owner == o) with
        | true =>
          have hp : delB o (l.getD k default) = true := by unfold delB; rw [h1, h2, h3]; rfl
          rw [if_pos hp] at hc
          refine C_true rfl rfl ?_
          repeat (first | refine sc rfl ?_ | refine so rfl ?_ | refine sb rfl ?_)
          refine ⟨by omega, ?_⟩
          repeat (first | refine sc rfl ?_ | refine so rfl ?_ | refine sb rfl ?_)
          refine ⟨_, rfl, rfl, ?_⟩
          unfold lastF
          rw [hc, Int.toNat_natCast]
          show AV.sl (l.length - (k + 1)) 8 (fun j => Rw.c (l.getD (k + 1 + j) default)) = AV.sl (l.drop (k + 1)).length 8 (fun j => Rw.c ((l.drop (k + 1)).getD j default))
          rw [List.length_drop]
          congr 1
          funext j
          rw [drop_getD]
        | false =>
          have hp : ¬ delB o (l.getD k default) = true := by unfold delB; rw [h1, h2, h3]; decide
          rw [if_neg hp] at hc
          refine C_false rfl rfl ?_
          repeat (first | refine sc rfl ?_ | refine so rfl ?_ | refine sb rfl ?_)
          rw [w64 (x := ((k + 1 : Nat) : Int) - 1) (by omega) (by omega), show ((k + 1 : Nat) : Int) - 1 = (k : Nat) by omega]
          exact ⟨k, ⟨by omega, hc⟩, by omega, Le.sub [] ⟨rfl, rfl, rfl, trivial⟩ rfl⟩
      · have hp : ¬ delB o (l.getD k default) = true := by unfold delB; rw [h1, h2]; simp
        repeat (first | refine sc rfl ?_ | refine so rfl ?_ | refine sb rfl ?_)
        rw [if_neg hp] at hc
        refine C_false rfl rfl ?_
        repeat (first | refine sc rfl ?_ | refine so rfl ?_ | refine sb rfl ?_)
        rw [w64 (x := ((k + 1 : Nat) : Int) - 1) (by omega) (by omega), show ((k + 1 : Nat) : Int) - 1 = (k : Nat) by omega]
        exact ⟨k, ⟨by omega, hc⟩, by omega, Le.sub [] ⟨rfl, rfl, rfl, trivial⟩ rfl⟩
    · have hp : ¬ delB o (l.getD k default) = true := by unfold delB; rw [h1]; simp
      repeat (first | refine sc rfl ?_ | refine so rfl ?_ | refine sb rfl ?_)
      rw [if_neg hp] at hc
      refine C_false rfl rfl ?_
      repeat (first | refine sc rfl ?_ | refine so rfl ?_ | refine sb rfl ?_)
      rw [w64 (x := ((k + 1 : Nat) : Int) - 1) (by omega) (by omega), show ((k + 1 : Nat) : Int) - 1 = (k : Nat) by omega]
      exact ⟨k, ⟨by omega, hc⟩, by omega, Le.sub [] ⟨rfl, rfl, rfl, trivial⟩ rfl⟩
  · obtain rfl : i = 0 := by omega
    repeat (first | refine sc rfl ?_ | refine so rfl ?_ | refine sb rfl ?_)
    exact ⟨_, rfl, rfl, by unfold lastF; rw [hc]; rfl⟩
end Go.Proofs

/- TraceAsks: trace.Last. -/
set_option linter.unusedSimpArgs false
set_option linter.unusedVariables false
set_option maxRecDepth 100000
namespace Go.Proofs
open Go.Sy Go.Lib

theorem last_c (l : List Rw) (hl : l.length ≤ 300) (hb : ∀ i, i < l.length → (l.getD i default).note.body.length ≤ 9223372036854775807) (o : Int) : FnP Tryz.prog 16 [SL 8 Rw.c l, I64 o] (· = SL 8 Rw.c (lastF o l)) := by
  refine FnP.intro Tryz.tabOK Tryz.wide_ Tryz.func16 rfl (by decide) rfl (fun X => ?_)
  repeat (first | refine sc rfl ?_ | refine so rfl ?_ | refine sb rfl ?_)
  refine C_loop (fun i : Nat => ⟨[(0, SL 8 Rw.c l), (1, I64 o), (5, I64 (cutAt o l i : Nat)), (10, SL 8 Rw.c l), (11, I64 (l.length : Nat)), (12, I64 (i : Nat))], []⟩) (fun i => i ≤ l.length) (fun i => l.length - i) 0 (Nat.zero_le _) (Le.sub [] ⟨rfl, rfl, rfl, rfl, rfl, rfl, trivial⟩ rfl) ?_
  intro i hi
  repeat (first | refine sc rfl ?_ | refine so rfl ?_ | refine sb rfl ?_)
  refine C_if rfl (fun m1 => ?_) (fun m1 => ?_) <;> simp only [decide_eq_true_eq, decide_eq_false_iff_not, Bool.not_eq_true', Bool.not_eq_false', beq_iff_eq, beq_eq_false_iff_ne, bne_iff_ne, ne_eq, bne_eq_false_iff_eq, Decidable.not_not] at m1
  · have hil : i < l.length := by omega
    have hc : cutAt o l (i + 1) = if delB o (l.getD i default) = true then i + 1 else cutAt o l i := rfl
    repeat (first | refine sc rfl ?_ | refine so rfl ?_ | refine sb rfl ?_)
    refine ⟨by omega, ?_⟩
    rw [Int.toNat_natCast]
    repeat (first | refine sc rfl ?_ | refine so rfl ?_ | refine sb rfl ?_)
    refine O_call (trDone_c (l.getD i default) (hb i hil)) (by rfl) (by rfl) (by rfl) (by rfl) (fun r' hr => ?_)
    subst hr
    repeat (first | refine sc rfl ?_ | refine so rfl ?_ | refine sb rfl ?_)
    refine O_case 23 rfl (fun h1 => ?_) (fun h1 => ?_)
    · repeat (first | refine sc rfl ?_ | refine so rfl ?_ | refine sb rfl ?_)
      refine O_case 28 rfl (fun h2 => ?_) (fun h2 => ?_)
      · repeat (first | refine sc rfl ?_ | refine so rfl ?_ | refine sb rfl ?_)
        cases h3 : ((trDoneF (l.getD i default)).1.owner == o) with
        | true =>
          have hp : delB o (l.getD i default) = true := by unfold delB; rw [h1, h2, h3]; rfl
          rw [if_pos hp] at hc
          refine C_true rfl rfl ?_
          repeat (first | refine sc rfl ?_ | refine so rfl ?_ | refine sb rfl ?_)
          rw [w64 (x := (i : Int) + 1) (by omega) (by omega)]
          refine ⟨i + 1, hil, by omega, ?_⟩
          rw [hc]
          exact Le.sub [] ⟨rfl, rfl, rfl, rfl, rfl, rfl, trivial⟩ rfl
        | false =>
          have hp : ¬ delB o (l.getD i default) = true := by unfold delB; rw [h1, h2, h3]; decide
          rw [if_neg hp] at hc
          refine C_false rfl rfl ?_
          repeat (first | refine sc rfl ?_ | refine so rfl ?_ | refine sb rfl ?_)
          rw [w64 (x := (i : Int) + 1) (by omega) (by omega)]
          refine ⟨i + 1, hil, by omega, ?_⟩
          rw [hc]
          exact Le.sub [] ⟨rfl, rfl, rfl, rfl, rfl, rfl, trivial⟩ rfl
      · have hp : ¬ delB o (l.getD i default) = true := by unfold delB; rw [h1, h2]; simp
        repeat (first | refine sc rfl ?_ | refine so rfl ?_ | refine sb rfl ?_)
        rw [if_neg hp] at hc
        refine C_false rfl rfl ?_
        repeat (first | refine sc rfl ?_ | refine so rfl ?_ | refine sb rfl ?_)
        rw [w64 (x := (i : Int) + 1) (by omega) (by omega)]
        refine ⟨i + 1, hil, by omega, ?_⟩
        rw [hc]
        exact Le.sub [] ⟨rfl, rfl, rfl, rfl, rfl, rfl, trivial⟩ rfl
    · have hp : ¬ delB o (l.getD i default) = true := by unfold delB; rw [h1]; simp
      repeat (first | refine sc rfl ?_ | refine so rfl ?_ | refine sb rfl ?_)
      rw [if_neg hp] at hc
      refine C_false rfl rfl ?_
      repeat (first | refine sc rfl ?_ | refine so rfl ?_ | refine sb rfl ?_)
      rw [w64 (x := (i : Int) + 1) (by omega) (by omega)]
      refine ⟨i + 1, hil, by omega, ?_⟩
      rw [hc]
      exact Le.sub [] ⟨rfl, rfl, rfl, rfl, rfl, rfl, trivial⟩ rfl
  · obtain rfl : i = l.length := by omega
    have hcl := cutAt_le o l l.length
    refine C_le _ (Le.addVec 37 8 (fun i => Rw.c (l.getD (cutAt o l l.length + i) default))) ?_
    repeat (first | refine sc rfl ?_ | refine so rfl ?_ | refine sb rfl ?_)
    refine ⟨by omega, ?_⟩
    repeat (first | refine sc rfl ?_ | refine so rfl ?_ | refine sb rfl ?_)
    rw [Int.toNat_natCast]
    refine O_appendV 0 (m2 := l.length - cutAt o l l.length) (m3 := l.length - cutAt o l l.length) (row3 := fun j => Rw.c (l.getD (cutAt o l l.length + j) default)) rfl rfl rfl rfl rfl rfl (fun j hj => rfl) rfl (by omega) (by simp only [maxLen]; omega) (by omega) (fun j hj => ?_) (fun v' hv' => ?_)
    · unfold appRow
      rw [if_neg (Nat.not_lt_zero _), Nat.sub_zero]
    · refine O_le _ (Le.frVec 0 (fun j => Rw.c (l.getD (cutAt o l l.length + j) default)) rfl (fun j hj => rfl)) ?_
      refine O_le _ (Le.slotA 0 40 rfl rfl) ?_
      repeat (first | refine sc rfl ?_ | refine so rfl ?_ | refine sb rfl ?_)
      refine ⟨_, rfl, rfl, ?_⟩
      unfold lastF
      show AV.sl (l.length - cutAt o l l.length) 8 (fun j => Rw.c (l.getD (cutAt o l l.length + j) default)) = AV.sl (l.drop (cutAt o l l.length)).length 8 (fun j => Rw.c ((l.drop (cutAt o l l.length)).getD j default))
      rw [List.length_drop]
      congr 1
      funext j
      rw [drop_getD]
end Go.Proofs

/- call.TakeCancel, call.TakeSchema. -/
set_option linter.unusedSimpArgs false
set_option linter.unusedVariables false
set_option maxRecDepth 100000
namespace Go.Proofs
open Go.Sy Go.Lib

noncomputable def cancelF (b : List UInt8) : Int × Int :=
  if rdDone b (rdAt 0 (tk b).2.1 0 (tk b).2.2) (rdE 0 (tk b).2.2) ≠ 0 then (0, 1) else (rdV 0 ((tk b).1 : Nat) 0 (tk b).2.2, 0)
theorem takeCancel_c (b : List UInt8) (hb : b.length ≤ 9223372036854775807) : FnP Tryz.prog 36 [.s b] (· = .tup [U64 (cancelF b).1, I64 (cancelF b).2]) := by
  refine FnP.intro Tryz.tabOK Tryz.wide_ Tryz.func36 rfl (by decide) rfl (fun X => ?_)
  repeat (first | refine sc rfl ?_ | refine so rfl ?_ | refine sb rfl ?_)
  refine O_callA [] (Read_A0 b) (by rfl) (by rfl) (by rfl) (by rfl) (by rfl) ?_
  rintro r' cs' ⟨g, rfl, rfl⟩
  repeat (first | refine sc rfl ?_ | refine so rfl ?_ | refine sb rfl ?_)
  first
    | refine O_callA [0] (Num_A g b 0 0 (Nat.zero_le _) hb) (by rfl) (by rfl) (by rfl) (by rfl) (by rfl) ?_
    | refine O_callA [1] (Num_A g b 0 0 (Nat.zero_le _) hb) (by rfl) (by rfl) (by rfl) (by rfl) (by rfl) ?_
    | refine O_callA [2] (Num_A g b 0 0 (Nat.zero_le _) hb) (by rfl) (by rfl) (by rfl) (by rfl) (by rfl) ?_
    | refine O_callA [3] (Num_A g b 0 0 (Nat.zero_le _) hb) (by rfl) (by rfl) (by rfl) (by rfl) (by rfl) ?_
    | refine O_callA [4] (Num_A g b 0 0 (Nat.zero_le _) hb) (by rfl) (by rfl) (by rfl) (by rfl) (by rfl) ?_
  rintro r' cs' ⟨rfl, rfl⟩
  rw [List.drop_zero]
  repeat (first | refine sc rfl ?_ | refine so rfl ?_ | refine sb rfl ?_)
  first
    | refine O_callA [0] (Done_A g b _ _) (by rfl) (by rfl) (by rfl) (by rfl) (by rfl) ?_
    | refine O_callA [1] (Done_A g b _ _) (by rfl) (by rfl) (by rfl) (by rfl) (by rfl) ?_
    | refine O_callA [2] (Done_A g b _ _) (by rfl) (by rfl) (by rfl) (by rfl) (by rfl) ?_
    | refine O_callA [3] (Done_A g b _ _) (by rfl) (by rfl) (by rfl) (by rfl) (by rfl) ?_
    | refine O_callA [4] (Done_A g b _ _) (by rfl) (by rfl) (by rfl) (by rfl) (by rfl) ?_
  rintro r' cs' ⟨rfl, rfl⟩
  unfold cancelF
  repeat (first | refine sc rfl ?_ | refine so rfl ?_ | refine sb rfl ?_)
  refine C_if rfl (fun m1 => ?_) (fun m1 => ?_) <;> simp only [decide_eq_true_eq, decide_eq_false_iff_not, Bool.not_eq_true', Bool.not_eq_false', beq_iff_eq, beq_eq_false_iff_ne, bne_iff_ne, ne_eq, bne_eq_false_iff_eq, Decidable.not_not] at m1
  · rw [if_pos m1]
    repeat (first | refine sc rfl ?_ | refine so rfl ?_ | refine sb rfl ?_)
    exact ⟨_, rfl, rfl, rfl⟩
  · rw [if_neg (fun h => h m1)]
    repeat (first | refine sc rfl ?_ | refine so rfl ?_ | refine sb rfl ?_)
    exact ⟨_, rfl, rfl, rfl⟩
noncomputable def schemaF (b : List UInt8) : Int × List UInt8 × Int :=
  let a := rdAt 0 (tk b).2.1 0 (tk b).2.2
  let e := rdE 0 (tk b).2.2
  if rdDone b (rdAt a (b.length - a) e 0) (rdE e 0) ≠ 0 then (0, [], 1) else (rdV 0 ((tk b).1 : Nat) 0 (tk b).2.2, rdV [] (b.drop a) e 0, 0)
theorem takeSchema_c (b : List UInt8) (hb : b.length ≤ 9223372036854775807) (ha : rdAt 0 (tk b).2.1 0 (tk b).2.2 ≤ b.length) : FnP Tryz.prog 37 [.s b] (· = .tup [U64 (schemaF b).1, .s (schemaF b).2.1, I64 (schemaF b).2.2]) := by
  refine FnP.intro Tryz.tabOK Tryz.wide_ Tryz.func37 rfl (by decide) rfl (fun X => ?_)
  repeat (first | refine sc rfl ?_ | refine so rfl ?_ | refine sb rfl ?_)
  refine O_callA [] (Read_A0 b) (by rfl) (by rfl) (by rfl) (by rfl) (by rfl) ?_
  rintro r' cs' ⟨g, rfl, rfl⟩
  repeat (first | refine sc rfl ?_ | refine so rfl ?_ | refine sb rfl ?_)
  first
    | refine O_callA [0] (Num_A g b 0 0 (Nat.zero_le _) hb) (by rfl) (by rfl) (by rfl) (by rfl) (by rfl) ?_
    | refine O_callA [1] (Num_A g b 0 0 (Nat.zero_le _) hb) (by rfl) (by rfl) (by rfl) (by rfl) (by rfl) ?_
    | refine O_callA [2] (Num_A g b 0 0 (Nat.zero_le _) hb) (by rfl) (by rfl) (by rfl) (by rfl) (by rfl) ?_
    | refine O_callA [3] (Num_A g b 0 0 (Nat.zero_le _) hb) (by rfl) (by rfl) (by rfl) (by rfl) (by rfl) ?_
    | refine O_callA [4] (Num_A g b 0 0 (Nat.zero_le _) hb) (by rfl) (by rfl) (by rfl) (by rfl) (by rfl) ?_
  rintro r' cs' ⟨rfl, rfl⟩
  rw [List.drop_zero]
  repeat (first | refine sc rfl ?_ | refine so rfl ?_ | refine sb rfl ?_)
  first
    | refine O_callA [0] (Rest_A g b _ _ ha hb) (by rfl) (by rfl) (by rfl) (by rfl) (by rfl) ?_
    | refine O_callA [1] (Rest_A g b _ _ ha hb) (by rfl) (by rfl) (by rfl) (by rfl) (by rfl) ?_
    | refine O_callA [2] (Rest_A g b _ _ ha hb) (by rfl) (by rfl) (by rfl) (by rfl) (by rfl) ?_
    | refine O_callA [3] (Rest_A g b _ _ ha hb) (by rfl) (by rfl) (by rfl) (by rfl) (by rfl) ?_
    | refine O_callA [4] (Rest_A g b _ _ ha hb) (by rfl) (by rfl) (by rfl) (by rfl) (by rfl) ?_
  rintro r' cs' ⟨rfl, rfl⟩
  repeat (first | refine sc rfl ?_ | refine so rfl ?_ | refine sb rfl ?_)
  first
    | refine O_callA [0] (Done_A g b _ _) (by rfl) (by rfl) (by rfl) (by rfl) (by rfl) ?_
    | refine O_callA [1] (Done_A g b _ _) (by rfl) (by rfl) (by rfl) (by rfl) (by rfl) ?_
    | refine O_callA [2] (Done_A g b _ _) (by rfl) (by rfl) (by rfl) (by rfl) (by rfl) ?_
    | refine O_callA [3] (Done_A g b _ _) (by rfl) (by rfl) (by rfl) (by rfl) (by rfl) ?_
    | refine O_callA [4] (Done_A g b _ _) (by rfl) (by rfl) (by rfl) (by rfl) (by rfl) ?_
  rintro r' cs' ⟨rfl, rfl⟩
  unfold schemaF
  simp only []
  repeat (first | refine sc rfl ?_ | refine so rfl ?_ | refine sb rfl ?_)
  refine C_if rfl (fun m1 => ?_) (fun m1 => ?_) <;> simp only [decide_eq_true_eq, decide_eq_false_iff_not, Bool.not_eq_true', Bool.not_eq_false', beq_iff_eq, beq_eq_false_iff_ne, bne_iff_ne, ne_eq, bne_eq_false_iff_eq, Decidable.not_not] at m1
  · rw [if_pos m1]
    repeat (first | refine sc rfl ?_ | refine so rfl ?_ | refine sb rfl ?_)
    exact ⟨_, rfl, rfl, rfl⟩
  · rw [if_neg (fun h => h m1)]
    repeat (first | refine sc rfl ?_ | refine so rfl ?_ | refine sb rfl ?_)
    exact ⟨_, rfl, rfl, rfl⟩
end Go.Proofs

/- The symbolic walk, part 57: method values. -/
set_option linter.unusedSimpArgs false
set_option linter.unusedVariables false
namespace Go.Sy
open Go.RowKit

/-- A function with its first arguments. -/
def bndRP (f : FuncId) (fs : List AV) : RP :=
  { R := fun G y => ∃ vs : Array Value, y = .func (.func f) vs #[] ∧ RepIT G fs vs.toList
    mono := by
      rintro G H h v ⟨vs, e, r⟩
      exact ⟨vs, e, RepIT.mono h fs r⟩
    one := by
      rintro G v ⟨vs, e, r⟩
      subst e; rfl }

section
variable {P : Program} {T : Tab} {X : Ctx P T} {n : Nat} {e : Env} {st : St} {a : Act} {w : World} {ops : Array Oper} {K : St → Prop}

theorem O_makeBound {f : FuncId} {fs : Array Operand} {favs : List AV} {d : Nat} {ty : TypeId} {pos : String} {aft : Array Edge} {gd : Option (Nat × Bool)} {rest : List Oper} {s : List (Nat × AV)} {c : List Ch}
    (hg : guardA ops ⟨s, c⟩ ⟨some d, .makeFunc (.func f) fs #[], ty, pos, aft, gd⟩ = some true) (ha : opds s fs.toList = some favs) (himm : AV.imm.immL favs = true) (hd : Nat.blt d n = true)
    (kk : SymO X n ops rest ⟨(d, .p (bndRP f favs)) :: s, c⟩ K) : SymO X n ops (⟨some d, .makeFunc (.func f) fs #[], ty, pos, aft, gd⟩ :: rest) ⟨s, c⟩ K := by
  intro e a w Q r hq
  unfold wpList
  rw [if_pos (guardA_sound r hg)]
  refine .inl ?_
  have h1 := RepT.toI favs himm (opds_sound r ha)
  have hrun : (execOp a.eval ⟨some d, .makeFunc (.func f) fs #[], ty, pos, aft, gd⟩).run P w = .ok (.value (.func (.func f) (fs.map a.eval) #[])) w := by
    simp [execOp, Instr.makeFunc]
  unfold Oper.wp
  rw [hrun]
  exact kk _ _ _ Q (r.put hd (by simp only [Rep]; exact ⟨_, rfl, by rw [map_eval]; exact h1⟩)) hq

theorem run_callBound {f : FuncId} (hc : Callable P f) {dst : Option Tmp} {x : Operand} {args : Array Operand} {tys : Array TypeId} {ty : TypeId} {pos : String} {aft : Array Edge} {gd : Option (Nat × Bool)} (ρ : Operand → Value)
    {vs : Array Value} (hρ : ρ x = .func (.func f) vs #[]) (w : World) :
    (execOp ρ ⟨dst, .call ⟨.value x, args, tys⟩, ty, pos, aft, gd⟩).run P w = .ok (.enter f (vs ++ args.map ρ)) w := by
  obtain ⟨fn, h1, h2, h3⟩ := hc
  simp only [execOp, resolve, hρ, Deferred.ofValue, Sem.run_bind, Sem.run_pure, Result.andThen_ok, invoke]
  have h4 : ¬ fn.body = none := by intro h; simp [h] at h2
  have h5 : ¬ fn.name = "runtime.NumGoroutine" := by simpa using h3
  simp [callFunc, h1, h4, h5]

/-- A call of a method value that may change memory at known addresses. -/
theorem O_callBound (is : List Nat) {f : FuncId} {xo : Operand} {fs : List AV} {dst : Nat} {args : Array Operand} {tys : Array TypeId} {ty : TypeId} {pos : String} {aft : Array Edge} {gd : Option (Nat × Bool)} {rest : List Oper} {avs : List AV} {cs : List Abs} {cr : List Ch} {post : AV → List Abs → Prop}
    {s : List (Nat × AV)} {c : List Ch} (hf : FnA P f (fs ++ avs) cs post) (hxo : opd s xo = some (.p (bndRP f fs)))
    (hg : guardA ops ⟨s, c⟩ ⟨some dst, .call ⟨.value xo, args, tys⟩, ty, pos, aft, gd⟩ = some true) (ha : opds s args.toList = some avs) (himm : AV.imm.immL avs = true)
    (hp : pickA is c = some (cs, cr)) (hd : Nat.blt dst n = true)
    (k : ∀ r cs', post r cs' → SymO X n ops rest ⟨(dst, r) :: s, cs'.map Ch.abs ++ cr⟩ K) :
    SymO X n ops (⟨some dst, .call ⟨.value xo, args, tys⟩, ty, pos, aft, gd⟩ :: rest) ⟨s, c⟩ K := by
  intro e a w Q r hq
  unfold wpList
  rw [if_pos (guardA_sound r hg)]
  refine .inl ?_
  unfold Oper.wp
  have hx := Rep.toI (.p (bndRP f fs)) rfl (opd_sound r hxo)
  simp only [RepI] at hx
  obtain ⟨vs, hfv, hvs⟩ := hx
  rw [run_callBound hf.1 a.eval hfv w, Oper.upon_enter]
  have h1 := RepIT.app hvs (RepT.toI avs himm (opds_sound r ha))
  have harr : vs ++ args.map a.eval = (vs.toList ++ args.toList.map a.eval).toArray := by
    apply Array.ext'; simp
  rw [harr]
  refine (call_after (ops := ops) (Q := Q) hf r h1 (pickA_perm hp) hd k hq).mono ?_
  rintro en w' ⟨cv, rfl, h⟩
  exact h
end
end Go.Sy

/- call.TakeCall. -/
set_option linter.unusedSimpArgs false
set_option linter.unusedVariables false
set_option maxRecDepth 100000
namespace Go.Proofs
open Go.Sy Go.Lib

theorem takeCall_c (b : List UInt8) (hb : b.length ≤ 9223372036854775807) (a1 a2 a3 : Nat) (e1 e2 e3 : Int) (q1 : a1 = rdAt 0 (tk b).2.1 0 (tk b).2.2) (q2 : e1 = rdE 0 (tk b).2.2)
    (q3 : a2 = rdAt a1 (intT 1048576 (b.drop a1)).2.1 e1 (intT 1048576 (b.drop a1)).2.2) (q4 : e2 = rdE e1 (intT 1048576 (b.drop a1)).2.2)
    (q5 : a3 = rdAt a2 (intT 1048576 (b.drop a2)).2.1 e2 (intT 1048576 (b.drop a2)).2.2) (q6 : e3 = rdE e2 (intT 1048576 (b.drop a2)).2.2)
    (h1 : a1 ≤ b.length) (h2 : a2 ≤ b.length) (h3 : a3 ≤ b.length) :
    FnP Tryz.prog 35 [.s b] (fun r => r = if rdDone b (rdAt a3 (b.length - a3) e3 0) (rdE e3 0) ≠ 0 then .tup [.agg (Cal.c default), I64 1] else
      .tup [.agg (Cal.c ⟨rdV 0 ((tk b).1 : Nat) 0 (tk b).2.2, rdV 0 (intT 1048576 (b.drop a1)).1 e1 (intT 1048576 (b.drop a1)).2.2, rdV 0 (intT 1048576 (b.drop a2)).1 e2 (intT 1048576 (b.drop a2)).2.2, rdV [] (b.drop a3) e3 0⟩), I64 0]) := by
  refine FnP.intro Tryz.tabOK Tryz.wide_ Tryz.func35 rfl (by decide) rfl (fun X => ?_)
  repeat (first | refine sc rfl ?_ | refine so rfl ?_ | refine sb rfl ?_)
  refine O_callA [] (Read_A0 b) (by rfl) (by rfl) (by rfl) (by rfl) (by rfl) ?_
  rintro r' cs' ⟨g, rfl, rfl⟩
  repeat (first | refine sc rfl ?_ | refine so rfl ?_ | refine sb rfl ?_)
  refine O_makeBound rfl rfl rfl rfl ?_
  repeat (first | refine sc rfl ?_ | refine so rfl ?_ | refine sb rfl ?_)
  refine O_makeBound rfl rfl rfl rfl ?_
  repeat (first | refine sc rfl ?_ | refine so rfl ?_ | refine sb rfl ?_)
  first
    | refine O_callBound [0] (Num_A g b 0 0 (Nat.zero_le _) hb) rfl rfl rfl rfl rfl rfl ?_
    | refine O_callBound [1] (Num_A g b 0 0 (Nat.zero_le _) hb) rfl rfl rfl rfl rfl rfl ?_
  rintro r' cs' ⟨rfl, rfl⟩
  rw [List.drop_zero, ← q1, ← q2]
  repeat (first | refine sc rfl ?_ | refine so rfl ?_ | refine sb rfl ?_)
  first
    | refine O_callBound [0] (Int_A g b a1 e1 1048576 (by decide) h1 hb) rfl rfl rfl rfl rfl rfl ?_
    | refine O_callBound [1] (Int_A g b a1 e1 1048576 (by decide) h1 hb) rfl rfl rfl rfl rfl rfl ?_
  rintro r' cs' ⟨rfl, rfl⟩
  rw [← q3, ← q4]
  repeat (first | refine sc rfl ?_ | refine so rfl ?_ | refine sb rfl ?_)
  first
    | refine O_callBound [0] (Int_A g b a2 e2 1048576 (by decide) h2 hb) rfl rfl rfl rfl rfl rfl ?_
    | refine O_callBound [1] (Int_A g b a2 e2 1048576 (by decide) h2 hb) rfl rfl rfl rfl rfl rfl ?_
  rintro r' cs' ⟨rfl, rfl⟩
  rw [← q5, ← q6]
  repeat (first | refine sc rfl ?_ | refine so rfl ?_ | refine sb rfl ?_)
  first
    | refine O_callA [0] (Rest_A g b a3 e3 h3 hb) (by rfl) (by rfl) (by rfl) (by rfl) (by rfl) ?_
    | refine O_callA [1] (Rest_A g b a3 e3 h3 hb) (by rfl) (by rfl) (by rfl) (by rfl) (by rfl) ?_
    | refine O_callA [2] (Rest_A g b a3 e3 h3 hb) (by rfl) (by rfl) (by rfl) (by rfl) (by rfl) ?_
    | refine O_callA [3] (Rest_A g b a3 e3 h3 hb) (by rfl) (by rfl) (by rfl) (by rfl) (by rfl) ?_
    | refine O_callA [4] (Rest_A g b a3 e3 h3 hb) (by rfl) (by rfl) (by rfl) (by rfl) (by rfl) ?_
  rintro r' cs' ⟨rfl, rfl⟩
  repeat (first | refine sc rfl ?_ | refine so rfl ?_ | refine sb rfl ?_)
  first
    | refine O_callA [0] (Done_A g b _ _) (by rfl) (by rfl) (by rfl) (by rfl) (by rfl) ?_
    | refine O_callA [1] (Done_A g b _ _) (by rfl) (by rfl) (by rfl) (by rfl) (by rfl) ?_
    | refine O_callA [2] (Done_A g b _ _) (by rfl) (by rfl) (by rfl) (by rfl) (by rfl) ?_
    | refine O_callA [3] (Done_A g b _ _) (by rfl) (by rfl) (by rfl) (by rfl) (by rfl) ?_
    | refine O_callA [4] (Done_A g b _ _) (by rfl) (by rfl) (by rfl) (by rfl) (by rfl) ?_
  rintro r' cs' ⟨rfl, rfl⟩
  repeat (first | refine sc rfl ?_ | refine so rfl ?_ | refine sb rfl ?_)
  refine C_if rfl (fun m1 => ?_) (fun m1 => ?_) <;> simp only [decide_eq_true_eq, decide_eq_false_iff_not, Bool.not_eq_true', Bool.not_eq_false', beq_iff_eq, beq_eq_false_iff_ne, bne_iff_ne, ne_eq, bne_eq_false_iff_eq, Decidable.not_not] at m1
  · rw [if_pos m1]
    repeat (first | refine sc rfl ?_ | refine so rfl ?_ | refine sb rfl ?_)
    exact ⟨_, rfl, rfl, rfl⟩
  · rw [if_neg (fun h => h m1)]
    repeat (first | refine sc rfl ?_ | refine so rfl ?_ | refine sb rfl ?_)
    exact ⟨_, rfl, rfl, rfl⟩
end Go.Proofs
