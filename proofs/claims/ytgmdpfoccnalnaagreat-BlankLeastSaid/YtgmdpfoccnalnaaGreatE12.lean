/- Contracts of the document's values: keys, one, Well. -/
import Derived.Test.YtgmdpfoccnalnaaGreatE11
import Derived.Test.YtgmdpfoccnalnaaGreatE8
set_option linter.unusedSimpArgs false
set_option linter.unusedVariables false
set_option maxRecDepth 100000
namespace Go.Proofs
open Go.Sy Go.Lib

theorem keys_t (l : List Val) (hl : l.length ≤ 1000) : FnP Tryz.prog 148 [.sl l.length 5 (Val.rows l)] (fun r => ∃ b, r = B b) := by
  refine FnP.intro Tryz.tabOK Tryz.wide_ Tryz.func148 rfl (by decide) rfl (fun X => ?_)
  refine C_le _ (Le.one 0 (SL 5 Val.c l) rfl (.row (Val.rows_eq _))) ?_
  repeat (first | refine sc rfl ?_ | refine so rfl ?_ | refine sb rfl ?_)
  refine C_loop (fun i : Nat => ⟨[(0, SL 5 Val.c l), (3, I64 (i : Nat))], []⟩) (fun i => i ≤ l.length + 1) (fun i => l.length + 1 - i) 0 (Nat.zero_le _) (Le.sub [] ⟨rfl, rfl, trivial⟩ rfl) ?_
  intro i hi
  repeat (first | refine sc rfl ?_ | refine so rfl ?_ | refine sb rfl ?_)
  rw [w64 (x := (i : Int) + 1) (by omega) (by omega)]
  repeat (first | refine sc rfl ?_ | refine so rfl ?_ | refine sb rfl ?_)
  refine C_if rfl (fun m1 => ?_) (fun m1 => ?_) <;> simp only [decide_eq_true_eq, decide_eq_false_iff_not, Bool.not_eq_true', Bool.not_eq_false', beq_iff_eq, beq_eq_false_iff_ne, bne_iff_ne, ne_eq, bne_eq_false_iff_eq, Decidable.not_not] at m1
  · have hil : i + 1 < l.length := by omega
    repeat (first | refine sc rfl ?_ | refine so rfl ?_ | refine sb rfl ?_)
    obtain ⟨x, hx⟩ := Cmp_ex (l.getD (i - 2) default) (l.getD i default)
    refine C_drawD rfl (by kernel_rfl) ?_
    repeat (first | refine sd rfl ?_ | refine sdb rfl ?_ | refine sds rfl ?_)
    refine ⟨by omega, ?_⟩
    rw [Int.toNat_natCast]
    repeat (first | refine sd rfl ?_ | refine sdb rfl ?_ | refine sds rfl ?_)
    refine D_call (Key_c _) rfl rfl rfl rfl ?_
    repeat (first | refine sd rfl ?_ | refine sdb rfl ?_ | refine sds rfl ?_)
    refine D_case 7 rfl (fun g1 => ?_) (fun g1 => ?_)
    · repeat (first | refine sd rfl ?_ | refine sdb rfl ?_ | refine sds rfl ?_)
      repeat (first | refine sc rfl ?_ | refine so rfl ?_ | refine sb rfl ?_)
      refine C_if rfl (fun _ => ?_) (fun _ => ?_)
      · repeat (first | refine sc rfl ?_ | refine so rfl ?_ | refine sb rfl ?_)
        exact ⟨_, rfl, rfl, _, rfl⟩
      · repeat (first | refine sc rfl ?_ | refine so rfl ?_ | refine sb rfl ?_)
        rw [w64 (x := (i : Int) + 2) (by omega) (by omega)]
        exact ⟨i + 2, by omega, by omega, Le.sub [] ⟨rfl, rfl, trivial⟩ rfl⟩
    repeat (first | refine sd rfl ?_ | refine sdb rfl ?_ | refine sds rfl ?_)
    refine D_case 10 rfl (fun g2 => ?_) (fun g2 => ?_) <;> simp only [decide_eq_true_eq, decide_eq_false_iff_not, Bool.not_eq_true', Bool.not_eq_false', beq_iff_eq, beq_eq_false_iff_ne, bne_iff_ne, ne_eq, bne_eq_false_iff_eq, Decidable.not_not] at g2
    · repeat (first | refine sd rfl ?_ | refine sdb rfl ?_ | refine sds rfl ?_)
      rw [w64 (x := (i : Int) - 2) (by omega) (by omega)]
      refine ⟨by omega, ?_⟩
      rw [show ((i : Int) - 2).toNat = i - 2 by omega]
      repeat (first | refine sd rfl ?_ | refine sdb rfl ?_ | refine sds rfl ?_)
      refine ⟨by omega, ?_⟩
      rw [Int.toNat_natCast]
      repeat (first | refine sd rfl ?_ | refine sdb rfl ?_ | refine sds rfl ?_)
      refine D_case 23 rfl (fun g3 => ?_) (fun g3 => ?_)
      · repeat (first | refine sd rfl ?_ | refine sdb rfl ?_ | refine sds rfl ?_)
        repeat (first | refine sc rfl ?_ | refine so rfl ?_ | refine sb rfl ?_)
        refine C_if rfl (fun _ => ?_) (fun _ => ?_)
        · repeat (first | refine sc rfl ?_ | refine so rfl ?_ | refine sb rfl ?_)
          exact ⟨_, rfl, rfl, _, rfl⟩
        · repeat (first | refine sc rfl ?_ | refine so rfl ?_ | refine sb rfl ?_)
          rw [w64 (x := (i : Int) + 2) (by omega) (by omega)]
          exact ⟨i + 2, by omega, by omega, Le.sub [] ⟨rfl, rfl, trivial⟩ rfl⟩
      repeat (first | refine sd rfl ?_ | refine sdb rfl ?_ | refine sds rfl ?_)
      rw [w64 (x := (i : Int) - 2) (by omega) (by omega)]
      refine ⟨by omega, ?_⟩
      rw [show ((i : Int) - 2).toNat = i - 2 by omega]
      repeat (first | refine sd rfl ?_ | refine sdb rfl ?_ | refine sds rfl ?_)
      refine ⟨by omega, ?_⟩
      rw [Int.toNat_natCast]
      repeat (first | refine sd rfl ?_ | refine sdb rfl ?_ | refine sds rfl ?_)
      refine D_call hx rfl rfl rfl rfl ?_
      repeat (first | refine sd rfl ?_ | refine sdb rfl ?_ | refine sds rfl ?_)
      repeat (first | refine sc rfl ?_ | refine so rfl ?_ | refine sb rfl ?_)
      refine C_if rfl (fun _ => ?_) (fun _ => ?_)
      · repeat (first | refine sc rfl ?_ | refine so rfl ?_ | refine sb rfl ?_)
        exact ⟨_, rfl, rfl, _, rfl⟩
      · repeat (first | refine sc rfl ?_ | refine so rfl ?_ | refine sb rfl ?_)
        rw [w64 (x := (i : Int) + 2) (by omega) (by omega)]
        exact ⟨i + 2, by omega, by omega, Le.sub [] ⟨rfl, rfl, trivial⟩ rfl⟩
    · repeat (first | refine sd rfl ?_ | refine sdb rfl ?_ | refine sds rfl ?_)
      repeat (first | refine sc rfl ?_ | refine so rfl ?_ | refine sb rfl ?_)
      refine C_if rfl (fun _ => ?_) (fun _ => ?_)
      · repeat (first | refine sc rfl ?_ | refine so rfl ?_ | refine sb rfl ?_)
        exact ⟨_, rfl, rfl, _, rfl⟩
      · repeat (first | refine sc rfl ?_ | refine so rfl ?_ | refine sb rfl ?_)
        rw [w64 (x := (i : Int) + 2) (by omega) (by omega)]
        exact ⟨i + 2, by omega, by omega, Le.sub [] ⟨rfl, rfl, trivial⟩ rfl⟩
  · repeat (first | refine sc rfl ?_ | refine so rfl ?_ | refine sb rfl ?_)
    refine ⟨by decide, ?_⟩
    repeat (first | refine sc rfl ?_ | refine so rfl ?_ | refine sb rfl ?_)
    exact ⟨_, rfl, rfl, _, rfl⟩

def OneOK (v : Val) : Prop := (v.kind = 9 → v.tags.length = v.items.length) ∧ (v.kind = 10 → v.tags.length = 1 ∧ v.items.length = 1)
theorem OneOK.of {v : Val} {k : Int} (h : v.kind = k) (h9 : k ≠ 9) (h10 : k ≠ 10) : OneOK v := ⟨fun e => absurd (h.symm.trans e) h9, fun e => absurd (h.symm.trans e) h10⟩

theorem one_c (v : Val) (hv : FewV v) : FnP Tryz.prog 91 [.agg (Val.c v)] (fun r => ∃ b, r = B b ∧ (b = true → OneOK v)) := by
  obtain ⟨v1, v2, v3, v4⟩ := hv
  refine FnP.intro Tryz.tabOK Tryz.wide_ Tryz.func91 rfl (by decide) rfl (fun X => ?_)
  repeat (first | refine sc rfl ?_ | refine so rfl ?_ | refine sb rfl ?_)
  refine C_if rfl (fun k1 => ?_) (fun k1 => ?_) <;> simp only [decide_eq_true_eq, decide_eq_false_iff_not, Bool.not_eq_true', Bool.not_eq_false', beq_iff_eq, beq_eq_false_iff_ne, bne_iff_ne, ne_eq, bne_eq_false_iff_eq, Decidable.not_not] at k1
  · have hk := fun b : Bool => fun _ : b = true => OneOK.of k1 (by decide) (by decide)
    repeat (first | refine sc rfl ?_ | refine so rfl ?_ | refine sb rfl ?_)
    refine O_call (plain_t v) (by rfl) (by rfl) (by rfl) (by rfl) (fun r hr => ?_)
    obtain ⟨b, rfl⟩ := hr
    repeat (first | refine sc rfl ?_ | refine so rfl ?_ | refine sb rfl ?_)
    refine O_case 9 rfl (fun c => ?_) (fun c => ?_)
    all_goals repeat (first | refine sc rfl ?_ | refine so rfl ?_ | refine sb rfl ?_)
    · refine O_case 14 rfl (fun c => ?_) (fun c => ?_)
      all_goals repeat (first | refine sc rfl ?_ | refine so rfl ?_ | refine sb rfl ?_)
      · refine O_case 18 rfl (fun c => ?_) (fun c => ?_)
        all_goals repeat (first | refine sc rfl ?_ | refine so rfl ?_ | refine sb rfl ?_)
        all_goals exact ⟨_, rfl, rfl, _, rfl, hk _⟩
      · exact ⟨_, rfl, rfl, _, rfl, hk _⟩
    · exact ⟨_, rfl, rfl, _, rfl, hk _⟩
  repeat (first | refine sc rfl ?_ | refine so rfl ?_ | refine sb rfl ?_)
  by_cases k23 : v.kind = 2 ∨ v.kind = 3
  · have hk : ∀ b : Bool, b = true → OneOK v := fun b _ => by
      rcases k23 with h | h
      · exact OneOK.of h (by decide) (by decide)
      · exact OneOK.of h (by decide) (by decide)
    have rest : ∀ b0 : Bool, b0 = true → True := fun _ _ => trivial
    refine C_if rfl (fun k2 => ?_) (fun k2 => ?_) <;> simp only [decide_eq_true_eq, decide_eq_false_iff_not, Bool.not_eq_true', Bool.not_eq_false', beq_iff_eq, beq_eq_false_iff_ne, bne_iff_ne, ne_eq, bne_eq_false_iff_eq, Decidable.not_not] at k2
    · repeat (first | refine sc rfl ?_ | refine so rfl ?_ | refine sb rfl ?_)
      refine C_true rfl (by simp [k2]) ?_
      repeat (first | refine sc rfl ?_ | refine so rfl ?_ | refine sb rfl ?_)
      refine O_call (plain_t v) (by rfl) (by rfl) (by rfl) (by rfl) (fun r hr => ?_)
      obtain ⟨b, rfl⟩ := hr
      repeat (first | refine sc rfl ?_ | refine so rfl ?_ | refine sb rfl ?_)
      refine O_case 29 rfl (fun c => ?_) (fun c => ?_)
      all_goals repeat (first | refine sc rfl ?_ | refine so rfl ?_ | refine sb rfl ?_)
      all_goals exact ⟨_, rfl, rfl, _, rfl, hk _⟩
    · repeat (first | refine sc rfl ?_ | refine so rfl ?_ | refine sb rfl ?_)
      refine C_true rfl (by simp; omega) ?_
      repeat (first | refine sc rfl ?_ | refine so rfl ?_ | refine sb rfl ?_)
      refine O_call (plain_t v) (by rfl) (by rfl) (by rfl) (by rfl) (fun r hr => ?_)
      obtain ⟨b, rfl⟩ := hr
      repeat (first | refine sc rfl ?_ | refine so rfl ?_ | refine sb rfl ?_)
      refine O_case 29 rfl (fun c => ?_) (fun c => ?_)
      all_goals repeat (first | refine sc rfl ?_ | refine so rfl ?_ | refine sb rfl ?_)
      all_goals exact ⟨_, rfl, rfl, _, rfl, hk _⟩
  refine C_false rfl (by simp; omega) ?_
  repeat (first | refine sc rfl ?_ | refine so rfl ?_ | refine sb rfl ?_)
  refine C_false rfl (by simp; omega) ?_
  repeat (first | refine sc rfl ?_ | refine so rfl ?_ | refine sb rfl ?_)
  refine C_if rfl (fun k4 => ?_) (fun k4 => ?_) <;> simp only [decide_eq_true_eq, decide_eq_false_iff_not, Bool.not_eq_true', Bool.not_eq_false', beq_iff_eq, beq_eq_false_iff_ne, bne_iff_ne, ne_eq, bne_eq_false_iff_eq, Decidable.not_not] at k4
  · have hk := fun b : Bool => fun _ : b = true => OneOK.of k4 (by decide) (by decide)
    repeat (first | refine sc rfl ?_ | refine so rfl ?_ | refine sb rfl ?_)
    refine O_call (plain_t v) (by rfl) (by rfl) (by rfl) (by rfl) (fun r hr => ?_)
    obtain ⟨b, rfl⟩ := hr
    repeat (first | refine sc rfl ?_ | refine so rfl ?_ | refine sb rfl ?_)
    refine O_case 38 rfl (fun c => ?_) (fun c => ?_)
    all_goals repeat (first | refine sc rfl ?_ | refine so rfl ?_ | refine sb rfl ?_)
    · refine O_case 43 rfl (fun c => ?_) (fun c => ?_)
      all_goals repeat (first | refine sc rfl ?_ | refine so rfl ?_ | refine sb rfl ?_)
      · refine O_call (refBad_c v.text (by omega)) (by rfl) (by rfl) (by rfl) (by rfl) (fun r hr => ?_)
        subst hr
        repeat (first | refine sc rfl ?_ | refine so rfl ?_ | refine sb rfl ?_)
        exact ⟨_, rfl, rfl, _, rfl, hk _⟩
      · exact ⟨_, rfl, rfl, _, rfl, hk _⟩
    · exact ⟨_, rfl, rfl, _, rfl, hk _⟩
  repeat (first | refine sc rfl ?_ | refine so rfl ?_ | refine sb rfl ?_)
  refine C_if rfl (fun k5 => ?_) (fun k5 => ?_) <;> simp only [decide_eq_true_eq, decide_eq_false_iff_not, Bool.not_eq_true', Bool.not_eq_false', beq_iff_eq, beq_eq_false_iff_ne, bne_iff_ne, ne_eq, bne_eq_false_iff_eq, Decidable.not_not] at k5
  · have hk := fun b : Bool => fun _ : b = true => OneOK.of k5 (by decide) (by decide)
    repeat (first | refine sc rfl ?_ | refine so rfl ?_ | refine sb rfl ?_)
    refine O_call (plain_t v) (by rfl) (by rfl) (by rfl) (by rfl) (fun r hr => ?_)
    obtain ⟨b, rfl⟩ := hr
    repeat (first | refine sc rfl ?_ | refine so rfl ?_ | refine sb rfl ?_)
    refine O_case 53 rfl (fun c => ?_) (fun c => ?_)
    all_goals repeat (first | refine sc rfl ?_ | refine so rfl ?_ | refine sb rfl ?_)
    all_goals exact ⟨_, rfl, rfl, _, rfl, hk _⟩
  repeat (first | refine sc rfl ?_ | refine so rfl ?_ | refine sb rfl ?_)
  refine C_if rfl (fun k6 => ?_) (fun k6 => ?_) <;> simp only [decide_eq_true_eq, decide_eq_false_iff_not, Bool.not_eq_true', Bool.not_eq_false', beq_iff_eq, beq_eq_false_iff_ne, bne_iff_ne, ne_eq, bne_eq_false_iff_eq, Decidable.not_not] at k6
  · have hk := fun b : Bool => fun _ : b = true => OneOK.of k6 (by decide) (by decide)
    repeat (first | refine sc rfl ?_ | refine so rfl ?_ | refine sb rfl ?_)
    refine O_call (plain_t v) (by rfl) (by rfl) (by rfl) (by rfl) (fun r hr => ?_)
    obtain ⟨b, rfl⟩ := hr
    repeat (first | refine sc rfl ?_ | refine so rfl ?_ | refine sb rfl ?_)
    refine O_case 62 rfl (fun c => ?_) (fun c => ?_)
    all_goals repeat (first | refine sc rfl ?_ | refine so rfl ?_ | refine sb rfl ?_)
    · refine O_case 67 rfl (fun c => ?_) (fun c => ?_)
      all_goals repeat (first | refine sc rfl ?_ | refine so rfl ?_ | refine sb rfl ?_)
      · refine O_case 72 rfl (fun c => ?_) (fun c => ?_)
        all_goals repeat (first | refine sc rfl ?_ | refine so rfl ?_ | refine sb rfl ?_)
        all_goals exact ⟨_, rfl, rfl, _, rfl, hk _⟩
      · exact ⟨_, rfl, rfl, _, rfl, hk _⟩
    · exact ⟨_, rfl, rfl, _, rfl, hk _⟩
  repeat (first | refine sc rfl ?_ | refine so rfl ?_ | refine sb rfl ?_)
  refine C_if rfl (fun k7 => ?_) (fun k7 => ?_) <;> simp only [decide_eq_true_eq, decide_eq_false_iff_not, Bool.not_eq_true', Bool.not_eq_false', beq_iff_eq, beq_eq_false_iff_ne, bne_iff_ne, ne_eq, bne_eq_false_iff_eq, Decidable.not_not] at k7
  · have hk := fun b : Bool => fun _ : b = true => OneOK.of k7 (by decide) (by decide)
    repeat (first | refine sc rfl ?_ | refine so rfl ?_ | refine sb rfl ?_)
    refine O_case 82 rfl (fun c => ?_) (fun c => ?_)
    all_goals repeat (first | refine sc rfl ?_ | refine so rfl ?_ | refine sb rfl ?_)
    · refine O_case 87 rfl (fun c => ?_) (fun c => ?_)
      all_goals repeat (first | refine sc rfl ?_ | refine so rfl ?_ | refine sb rfl ?_)
      all_goals exact ⟨_, rfl, rfl, _, rfl, hk _⟩
    · exact ⟨_, rfl, rfl, _, rfl, hk _⟩
  repeat (first | refine sc rfl ?_ | refine so rfl ?_ | refine sb rfl ?_)
  refine C_if rfl (fun k8 => ?_) (fun k8 => ?_) <;> simp only [decide_eq_true_eq, decide_eq_false_iff_not, Bool.not_eq_true', Bool.not_eq_false', beq_iff_eq, beq_eq_false_iff_ne, bne_iff_ne, ne_eq, bne_eq_false_iff_eq, Decidable.not_not] at k8
  · have hk := fun b : Bool => fun _ : b = true => OneOK.of k8 (by decide) (by decide)
    repeat (first | refine sc rfl ?_ | refine so rfl ?_ | refine sb rfl ?_)
    refine O_case 98 rfl (fun c => ?_) (fun c => ?_)
    all_goals repeat (first | refine sc rfl ?_ | refine so rfl ?_ | refine sb rfl ?_)
    · refine O_case 103 rfl (fun c => ?_) (fun c => ?_)
      all_goals repeat (first | refine sc rfl ?_ | refine so rfl ?_ | refine sb rfl ?_)
      · refine O_case 109 rfl (fun c => ?_) (fun c => ?_)
        all_goals repeat (first | refine sc rfl ?_ | refine so rfl ?_ | refine sb rfl ?_)
        · refine O_call (keys_t v.items (by omega)) (by rfl) (by rfl) (by rfl) (by rfl) (fun r hr => ?_)
          obtain ⟨b, rfl⟩ := hr
          repeat (first | refine sc rfl ?_ | refine so rfl ?_ | refine sb rfl ?_)
          exact ⟨_, rfl, rfl, _, rfl, hk _⟩
        · exact ⟨_, rfl, rfl, _, rfl, hk _⟩
      · exact ⟨_, rfl, rfl, _, rfl, hk _⟩
    · exact ⟨_, rfl, rfl, _, rfl, hk _⟩
  repeat (first | refine sc rfl ?_ | refine so rfl ?_ | refine sb rfl ?_)
  refine C_if rfl (fun k9 => ?_) (fun k9 => ?_) <;> simp only [decide_eq_true_eq, decide_eq_false_iff_not, Bool.not_eq_true', Bool.not_eq_false', beq_iff_eq, beq_eq_false_iff_ne, bne_iff_ne, ne_eq, bne_eq_false_iff_eq, Decidable.not_not] at k9
  · repeat (first | refine sc rfl ?_ | refine so rfl ?_ | refine sb rfl ?_)
    refine O_case 119 rfl (fun c => ?_) (fun c => ?_)
    all_goals repeat (first | refine sc rfl ?_ | refine so rfl ?_ | refine sb rfl ?_)
    · refine O_case 124 rfl (fun c => ?_) (fun c => ?_)
      all_goals repeat (first | refine sc rfl ?_ | refine so rfl ?_ | refine sb rfl ?_)
      · refine O_case 133 rfl (fun c => ?_) (fun c => ?_) <;> simp only [decide_eq_true_eq, decide_eq_false_iff_not, Bool.not_eq_true', Bool.not_eq_false', beq_iff_eq, beq_eq_false_iff_ne, bne_iff_ne, ne_eq, bne_eq_false_iff_eq, Decidable.not_not] at c
        · have hk : ∀ b : Bool, b = true → OneOK v := fun b _ => ⟨fun _ => by omega, fun e => by omega⟩
          repeat (first | refine sc rfl ?_ | refine so rfl ?_ | refine sb rfl ?_)
          refine O_call (tags_t v.tags (by omega)) (by rfl) (by rfl) (by rfl) (by rfl) (fun r hr => ?_)
          obtain ⟨b, rfl⟩ := hr
          repeat (first | refine sc rfl ?_ | refine so rfl ?_ | refine sb rfl ?_)
          exact ⟨_, rfl, rfl, _, rfl, hk _⟩
        · repeat (first | refine sc rfl ?_ | refine so rfl ?_ | refine sb rfl ?_)
          exact ⟨_, rfl, rfl, _, rfl, fun h => by cases h⟩
      · exact ⟨_, rfl, rfl, _, rfl, fun h => by cases h⟩
    · exact ⟨_, rfl, rfl, _, rfl, fun h => by cases h⟩
  repeat (first | refine sc rfl ?_ | refine so rfl ?_ | refine sb rfl ?_)
  refine C_if rfl (fun k10 => ?_) (fun k10 => ?_) <;> simp only [decide_eq_true_eq, decide_eq_false_iff_not, Bool.not_eq_true', Bool.not_eq_false', beq_iff_eq, beq_eq_false_iff_ne, bne_iff_ne, ne_eq, bne_eq_false_iff_eq, Decidable.not_not] at k10
  · repeat (first | refine sc rfl ?_ | refine so rfl ?_ | refine sb rfl ?_)
    refine O_case 143 rfl (fun c => ?_) (fun c => ?_)
    all_goals repeat (first | refine sc rfl ?_ | refine so rfl ?_ | refine sb rfl ?_)
    · refine O_case 148 rfl (fun c => ?_) (fun c => ?_)
      all_goals repeat (first | refine sc rfl ?_ | refine so rfl ?_ | refine sb rfl ?_)
      · refine O_case 154 rfl (fun c => ?_) (fun c => ?_) <;> simp only [decide_eq_true_eq, decide_eq_false_iff_not, Bool.not_eq_true', Bool.not_eq_false', beq_iff_eq, beq_eq_false_iff_ne, bne_iff_ne, ne_eq, bne_eq_false_iff_eq, Decidable.not_not] at c
        · repeat (first | refine sc rfl ?_ | refine so rfl ?_ | refine sb rfl ?_)
          refine O_case 160 rfl (fun c2 => ?_) (fun c2 => ?_) <;> simp only [decide_eq_true_eq, decide_eq_false_iff_not, Bool.not_eq_true', Bool.not_eq_false', beq_iff_eq, beq_eq_false_iff_ne, bne_iff_ne, ne_eq, bne_eq_false_iff_eq, Decidable.not_not] at c2
          · have hk : ∀ b : Bool, b = true → OneOK v := fun b _ => ⟨fun e => by omega, fun e => ⟨by omega, by omega⟩⟩
            repeat (first | refine sc rfl ?_ | refine so rfl ?_ | refine sb rfl ?_)
            refine O_call (tags_t v.tags (by omega)) (by rfl) (by rfl) (by rfl) (by rfl) (fun r hr => ?_)
            obtain ⟨b, rfl⟩ := hr
            repeat (first | refine sc rfl ?_ | refine so rfl ?_ | refine sb rfl ?_)
            exact ⟨_, rfl, rfl, _, rfl, hk _⟩
          · repeat (first | refine sc rfl ?_ | refine so rfl ?_ | refine sb rfl ?_)
            exact ⟨_, rfl, rfl, _, rfl, fun h => by cases h⟩
        · repeat (first | refine sc rfl ?_ | refine so rfl ?_ | refine sb rfl ?_)
          exact ⟨_, rfl, rfl, _, rfl, fun h => by cases h⟩
      · exact ⟨_, rfl, rfl, _, rfl, fun h => by cases h⟩
    · exact ⟨_, rfl, rfl, _, rfl, fun h => by cases h⟩
  repeat (first | refine sc rfl ?_ | refine so rfl ?_ | refine sb rfl ?_)
  exact ⟨_, rfl, rfl, _, rfl, fun h => by cases h⟩

inductive WellV : Val → Prop
  | mk {v : Val} : OneOK v → (∀ i, i < v.items.length → WellV (v.items.getD i default)) → WellV v

theorem Well_c : ∀ (n : Nat) (v : Val), SizeOf.sizeOf v ≤ n → FewV v → FnP Tryz.prog 42 [.agg (Val.c v)] (fun r => ∃ b, r = B b ∧ (b = true → WellV v))
  | 0, v, hn, _ => by cases v; simp at hn
  | n + 1, v, hn, hv => by
    obtain ⟨v1, v2, v3, v4⟩ := hv
    have hv : FewV v := ⟨v1, v2, v3, v4⟩
    refine FnP.intro Tryz.tabOK Tryz.wide_ Tryz.func42 rfl (by decide) rfl (fun X => ?_)
    have hrec : ∀ i, i < v.items.length → FnP Tryz.prog 42 [.agg (Val.c (v.items.getD i default))] (fun r => ∃ b, r = B b ∧ (b = true → WellV (v.items.getD i default))) := fun i hi => Well_c n _ (by have := items_lt hi; omega) (v4 i hi)
    repeat (first | refine sc rfl ?_ | refine so rfl ?_ | refine sb rfl ?_)
    refine O_call (one_c v hv) (by rfl) (by rfl) (by rfl) (by rfl) (fun r hr => ?_)
    obtain ⟨b, rfl, hb⟩ := hr
    repeat (first | refine sc rfl ?_ | refine so rfl ?_ | refine sb rfl ?_)
    cases b with
    | false =>
      refine C_true rfl rfl ?_
      repeat (first | refine sc rfl ?_ | refine so rfl ?_ | refine sb rfl ?_)
      exact ⟨_, rfl, rfl, _, rfl, fun h => by cases h⟩
    | true =>
      refine C_false rfl rfl ?_
      repeat (first | refine sc rfl ?_ | refine so rfl ?_ | refine sb rfl ?_)
      refine C_loop (fun i : Nat => ⟨[(1, .bp 1 0), (3, I64 (i : Nat))], [.box 1 70 (Val.c v)]⟩) (fun i => i ≤ v.items.length ∧ ∀ j, j < i → WellV (v.items.getD j default)) (fun i => v.items.length - i) 0 ⟨Nat.zero_le _, fun j hj => absurd hj (Nat.not_lt_zero _)⟩ (Le.sub [1] ⟨rfl, rfl, trivial⟩ rfl) ?_
      rintro i ⟨hi, hall⟩
      repeat (first | refine sc rfl ?_ | refine so rfl ?_ | refine sb rfl ?_)
      refine C_if rfl (fun m1 => ?_) (fun m1 => ?_) <;> simp only [decide_eq_true_eq, decide_eq_false_iff_not, Bool.not_eq_true', Bool.not_eq_false', beq_iff_eq, beq_eq_false_iff_ne, bne_iff_ne, ne_eq, bne_eq_false_iff_eq, Decidable.not_not] at m1
      · have hil : i < v.items.length := by omega
        repeat (first | refine O_le _ (Le.one 15 (SL 5 Val.c v.items) rfl (.row (Val.rows_eq _))) ?_ | refine sc rfl ?_ | refine so rfl ?_ | refine sb rfl ?_)
        refine ⟨by omega, ?_⟩
        rw [Int.toNat_natCast]
        repeat (first | refine sc rfl ?_ | refine so rfl ?_ | refine sb rfl ?_)
        refine O_call (hrec i hil) (by rfl) (by rfl) (by rfl) (by rfl) (fun r hr => ?_)
        obtain ⟨b, rfl, hb2⟩ := hr
        repeat (first | refine sc rfl ?_ | refine so rfl ?_ | refine sb rfl ?_)
        cases b with
        | false =>
          refine C_true rfl rfl ?_
          repeat (first | refine sc rfl ?_ | refine so rfl ?_ | refine sb rfl ?_)
          exact ⟨_, rfl, rfl, _, rfl, fun h => by cases h⟩
        | true =>
          refine C_false rfl rfl ?_
          repeat (first | refine sc rfl ?_ | refine so rfl ?_ | refine sb rfl ?_)
          rw [w64 (x := (i : Int) + 1) (by omega) (by omega)]
          refine ⟨i + 1, ⟨hil, fun j hj => ?_⟩, by omega, Le.sub [1] ⟨rfl, rfl, trivial⟩ rfl⟩
          by_cases hji : j < i
          · exact hall j hji
          · obtain rfl : j = i := by omega
            exact hb2 rfl
      · obtain rfl : i = v.items.length := by omega
        repeat (first | refine sc rfl ?_ | refine so rfl ?_ | refine sb rfl ?_)
        exact ⟨_, rfl, rfl, _, rfl, fun _ => ⟨hb rfl, hall⟩⟩
end Go.Proofs

/- The document's side: the rows of a name, in order; plain laws of iterations. -/
set_option linter.unusedSimpArgs false
set_option linter.unusedVariables false
set_option maxRecDepth 100000
namespace Go.Proofs
open Go.Sy Go.Lib

theorem Iter_rule {S R : Type} {body : S → Option (S ⊕ R)} (I : S → Prop) (m : S → Nat) (Q : R → Prop)
    (h : ∀ s, I s → (∃ s', body s = some (.inl s') ∧ I s' ∧ m s' < m s) ∨ ∃ r, body s = some (.inr r) ∧ Q r) (s : S) (hs : I s) : ∃ r, Iter body s = some r ∧ Q r := by
  suffices H : ∀ n s, m s < n → I s → ∃ r, Iter body s = some r ∧ Q r from H (m s + 1) s (Nat.lt_succ_self _) hs
  intro n
  induction n with
  | zero => intro s h0; omega
  | succ n ih =>
    intro s hn hs
    rcases h s hs with ⟨s', h1, h2, h3⟩ | ⟨r, h1, h2⟩
    · obtain ⟨r, h4, h5⟩ := ih s' (by omega) h2
      exact ⟨r, by rw [Iter_next h1]; exact h4, h5⟩
    · exact ⟨r, Iter_end h1, h2⟩

theorem cDT {α : Type} {p : Prop} [Decidable p] {x y : α} (h : p) : cond (decide p) x y = x := by rw [decide_eq_true h]; rfl
theorem cDF {α : Type} {p : Prop} [Decidable p] {x y : α} (h : ¬ p) : cond (decide p) x y = y := by rw [decide_eq_false h]; rfl

theorem Find_tot (l : List Dcl) (hl : l.length ≤ 1000) (nm : List UInt8) : Find_F l nm = some (fndZ nm l) := by
  unfold Find_F
  obtain ⟨r, h1, h2⟩ := Iter_rule (body := Find_L1 l nm) (fun s => 0 ≤ s ∧ s ≤ l.length ∧ ∀ j : Nat, (j : Int) < s → (l.getD j default).name ≠ nm) (fun s => l.length - s.toNat)
    (fun r => (∃ i : Nat, r = .inl (i : Int) ∧ fndL nm l = some i) ∨ (r = .inr () ∧ fndL nm l = none))
    (fun s hs => by
      obtain ⟨g1, g2, g3⟩ := hs
      unfold Find_L1
      by_cases c1 : s < (l.length : Int)
      · rw [cDT c1, chk_pos ⟨g1, c1⟩]
        by_cases c2 : (l.getD (Int.toNat s) default).name = nm
        · refine .inr ⟨.inl s, by rw [show ((l.getD (Int.toNat s) default).name == nm) = true from beq_iff_eq.2 c2]; rfl, .inl ⟨s.toNat, by congr 1; omega, fndL_first (by omega) (fun j hj => g3 j (by omega)) c2⟩⟩
        · refine .inl ⟨IntKind.i64.wrap (s + 1), by rw [show ((l.getD (Int.toNat s) default).name == nm) = false from beq_eq_false_iff_ne.2 c2]; rfl, ?_, ?_⟩
          · rw [w64 (by omega) (by omega)]
            refine ⟨by omega, by omega, fun j hj => ?_⟩
            by_cases hjs : (j : Int) < s
            · exact g3 j hjs
            · have : j = s.toNat := by omega
              subst this; exact c2
          · rw [w64 (by omega) (by omega)]; omega
      · rw [cDF c1]
        exact .inr ⟨.inr (), rfl, .inr ⟨rfl, fndL_none (fun j hj => g3 j (by omega))⟩⟩)
    0 ⟨by omega, by omega, fun j hj => by omega⟩
  rw [h1]
  rcases h2 with ⟨i, rfl, h3⟩ | ⟨rfl, h3⟩
  · simp [fndZ, h3]
  · simp [fndZ, h3]

/-- What the document's rows of fields are. -/
structure RowsZ (F R : List Fld) : Prop where
  sub : ∀ x ∈ R, x ∈ F
  srt : R.Pairwise (fun a b => a.tag < b.tag)
  all : ∀ x ∈ F, 0 ≤ x.tag → ∃ y ∈ R, y.tag = x.tag

theorem pigeon : ∀ {A B : List Int}, A.Nodup → (∀ x ∈ A, x ∈ B) → A.length = B.length → ∀ x ∈ B, x ∈ A
  | [], B, _, _, h, x, hx => by
    have : B = [] := List.length_eq_zero_iff.1 (by simpa using h.symm)
    subst this; cases hx
  | a :: A, B, hn, hs, h, x, hx => by
    obtain ⟨hn1, hn2⟩ := List.nodup_cons.1 hn
    have ha : a ∈ B := hs a (by simp)
    have hle : (B.erase a).length = B.length - 1 := List.length_erase_of_mem ha
    have hpos : 0 < B.length := List.length_pos_of_mem ha
    have hl2 : A.length = (B.erase a).length := by simp only [List.length_cons] at h; omega
    by_cases hxa : x = a
    · subst hxa; simp
    · have := pigeon hn2 (B := B.erase a) (fun y hy => (List.mem_erase_of_ne (fun e : y = a => hn1 (e ▸ hy))).2 (hs y (by simp [hy]))) hl2 x ((List.mem_erase_of_ne hxa).2 hx)
      simp [this]

theorem nodup_len : ∀ {A B : List Int}, A.Nodup → (∀ x ∈ A, x ∈ B) → A.length ≤ B.length
  | [], B, _, _ => Nat.zero_le _
  | a :: A, B, hn, hs => by
    obtain ⟨hn1, hn2⟩ := List.nodup_cons.1 hn
    have ha : a ∈ B := hs a (by simp)
    have hle : (B.erase a).length = B.length - 1 := List.length_erase_of_mem ha
    have hpos : 0 < B.length := List.length_pos_of_mem ha
    have := nodup_len hn2 (B := B.erase a) (fun y hy => (List.mem_erase_of_ne (fun e : y = a => hn1 (e ▸ hy))).2 (hs y (by simp [hy])))
    simp only [List.length_cons]; omega

theorem pw_nodup {R : List Fld} (h : R.Pairwise (fun a b => a.tag < b.tag)) : (R.map (·.tag)).Nodup := by
  rw [List.Nodup, List.pairwise_map]
  exact h.imp (fun hab e => by omega)

theorem rows_done {F R : List Fld} (h1 : ∀ x ∈ R, x ∈ F) (h2 : R.Pairwise (fun a b => a.tag < b.tag)) (h3 : R.length = F.length) : RowsZ F R :=
  ⟨h1, h2, fun x hx _ => by
    have := pigeon (pw_nodup h2) (B := F.map (·.tag)) (fun t ht => by
      obtain ⟨y, hy, rfl⟩ := List.mem_map.1 ht
      exact List.mem_map.2 ⟨y, h1 y hy, rfl⟩) (by rw [List.length_map, List.length_map, h3]) x.tag (List.mem_map.2 ⟨x, hx, rfl⟩)
    obtain ⟨y, hy, e⟩ := List.mem_map.1 this
    exact ⟨y, hy, e⟩⟩

theorem mem_getD7 {α : Type} [Inhabited α] {l : List α} {i : Nat} (h : i < l.length) : l.getD i default ∈ l := by
  rw [getD_at h]; exact List.getElem_mem h
theorem getD_mem7 {α : Type} [Inhabited α] {l : List α} {x : α} (h : x ∈ l) : ∃ i, i < l.length ∧ l.getD i default = x := by
  obtain ⟨i, hi, rfl⟩ := List.mem_iff_getElem.1 h
  exact ⟨i, hi, getD_at hi⟩

theorem Fld.eta (f : Fld) : (⟨f.tag, f.name, f.ty⟩ : Fld) = f := rfl

section
variable {l : List Dcl} {nm : List UInt8} {j : Nat} {F : List Fld}

theorem rows_L13 (hj : j < l.length) (hF : (l.getD j default).fields = F) (hFl : F.length ≤ 1000) (last : Int) (R : List Fld) :
    ∃ r, Iter (RowsR_L13 l nm (j : Nat) (last, R)) (-1, 0) = some r ∧ ((r = -1 ∧ ∀ i, i < F.length → (F.getD i default).tag ≤ last) ∨
      (∃ k : Nat, r = (k : Int) ∧ k < F.length ∧ last < (F.getD k default).tag ∧ ∀ i, i < F.length → last < (F.getD i default).tag → (F.getD k default).tag ≤ (F.getD i default).tag)) := by
  have hj2 : (0 : Int) ≤ (j : Int) ∧ (j : Int) < (l.length : Int) := ⟨by omega, by omega⟩
  refine Iter_rule (body := RowsR_L13 l nm (j : Nat) (last, R)) (fun s => 0 ≤ s.2 ∧ s.2 ≤ F.length ∧ ((s.1 = -1 ∧ ∀ i : Nat, (i : Int) < s.2 → (F.getD i default).tag ≤ last) ∨
      (∃ k : Nat, s.1 = (k : Int) ∧ (k : Int) < s.2 ∧ last < (F.getD k default).tag ∧ ∀ i : Nat, (i : Int) < s.2 → last < (F.getD i default).tag → (F.getD k default).tag ≤ (F.getD i default).tag))) (fun s => F.length - s.2.toNat) _ ?_ (-1, 0) ⟨by simp, by simp, .inl ⟨rfl, fun i hi => by simp only [] at hi; omega⟩⟩
  rintro ⟨nx, q⟩ ⟨g1, g2, g3⟩
  simp only [] at g1 g2 g3
  unfold RowsR_L13
  simp only [Int.toNat_natCast, hF]
  rw [chk_pos hj2]
  by_cases c1 : q < (F.length : Int)
  · rw [cDT c1, chk_pos hj2, chk_pos ⟨g1, c1⟩]
    obtain ⟨i, rfl⟩ : ∃ i : Nat, q = (i : Int) := ⟨q.toNat, by omega⟩
    simp only [Int.toNat_natCast]
    rw [w64 (x := (i : Int) + 1) (by omega) (by omega)]
    have step : ∀ P : Nat → Prop, (∀ i' : Nat, (i' : Int) < (i : Int) → P i') → P i → ∀ i' : Nat, (i' : Int) < (i : Int) + 1 → P i' := fun P h1 h2 i' hi' => by
      by_cases e : i' = i
      · subst e; exact h2
      · exact h1 i' (by omega)
    by_cases c2 : last < (F.getD i default).tag
    · rw [cDT c2]
      rcases g3 with ⟨rfl, g4⟩ | ⟨k, rfl, g4, g5, g6⟩
      · rw [cDT (by omega)]
        refine .inl ⟨_, rfl, ⟨by simp only []; omega, by simp only []; omega, .inr ⟨i, rfl, by simp only []; omega, c2, ?_⟩⟩, by simp only []; omega⟩
        exact step (fun i' => last < (F.getD i' default).tag → (F.getD i default).tag ≤ (F.getD i' default).tag) (fun i' hi' h => by have := g4 i' hi'; omega) (fun _ => Int.le_refl _)
      · rw [cDF (by omega), chk_pos hj2, chk_pos ⟨by omega, by omega⟩]
        simp only [Int.toNat_natCast]
        by_cases c3 : (F.getD i default).tag < (F.getD k default).tag
        · rw [cDT c3]
          refine .inl ⟨_, rfl, ⟨by simp only []; omega, by simp only []; omega, .inr ⟨i, rfl, by simp only []; omega, c2, ?_⟩⟩, by simp only []; omega⟩
          exact step (fun i' => last < (F.getD i' default).tag → (F.getD i default).tag ≤ (F.getD i' default).tag) (fun i' hi' h => by have := g6 i' hi' h; omega) (fun _ => Int.le_refl _)
        · rw [cDF c3]
          refine .inl ⟨_, rfl, ⟨by simp only []; omega, by simp only []; omega, .inr ⟨k, rfl, by simp only []; omega, g5, ?_⟩⟩, by simp only []; omega⟩
          exact step (fun i' => last < (F.getD i' default).tag → (F.getD k default).tag ≤ (F.getD i' default).tag) g6 (fun _ => by omega)
    · rw [cDF c2]
      refine .inl ⟨_, rfl, ⟨by simp only []; omega, by simp only []; omega, ?_⟩, by simp only []; omega⟩
      rcases g3 with ⟨rfl, g4⟩ | ⟨k, rfl, g4, g5, g6⟩
      · exact .inl ⟨rfl, step (fun i' => (F.getD i' default).tag ≤ last) g4 (by omega)⟩
      · exact .inr ⟨k, rfl, by simp only []; omega, g5, step (fun i' => last < (F.getD i' default).tag → (F.getD k default).tag ≤ (F.getD i' default).tag) g6 (fun h => absurd h c2)⟩
  · rw [cDF c1]
    refine .inr ⟨_, rfl, ?_⟩
    have : q = F.length := by omega
    subst this
    rcases g3 with ⟨rfl, g4⟩ | ⟨k, rfl, g4, g5, g6⟩
    · exact .inl ⟨rfl, fun i hi => g4 i (by omega)⟩
    · exact .inr ⟨k, rfl, by omega, g5, fun i hi => g6 i (by omega)⟩

theorem rows_L5 (hj : j < l.length) (hF : (l.getD j default).fields = F) (hFl : F.length ≤ 1000) :
    ∃ r, Iter (RowsR_L5 l nm (j : Nat)) (-1, []) = some r ∧ ∃ R, (r = .inl R ∨ r = .inr R) ∧ RowsZ F R := by
  have hj2 : (0 : Int) ≤ (j : Int) ∧ (j : Int) < (l.length : Int) := ⟨by omega, by omega⟩
  refine Iter_rule (body := RowsR_L5 l nm (j : Nat)) (fun s => (∀ x ∈ s.2, x ∈ F) ∧ (∀ x ∈ s.2, x.tag ≤ s.1) ∧ s.2.Pairwise (fun a b => a.tag < b.tag) ∧ (∀ x ∈ F, 0 ≤ x.tag → x.tag ≤ s.1 → ∃ y ∈ s.2, y.tag = x.tag) ∧ s.2.length ≤ F.length) (fun s => F.length - s.2.length) _ ?_ (-1, [])
    ⟨fun x hx => absurd hx (by simp), fun x hx => absurd hx (by simp), .nil, fun x _ h1 h2 => by simp only [] at h2; omega, Nat.zero_le _⟩
  rintro ⟨last, R⟩ ⟨g1, g2, g3, g4, g5⟩
  simp only [] at g1 g2 g3 g4 g5
  unfold RowsR_L5
  simp only [Int.toNat_natCast, hF]
  rw [chk_pos hj2]
  by_cases c1 : (R.length : Int) < (F.length : Int)
  · rw [cDT c1]
    obtain ⟨r, h1, h2⟩ := rows_L13 (nm := nm) hj hF hFl last R
    rw [h1, Option.bind_some]
    rcases h2 with ⟨rfl, h3⟩ | ⟨k, rfl, h3, h4, h5⟩
    · rw [cDT (by omega)]
      exact .inr ⟨_, rfl, R, .inl rfl, g1, g3, fun x hx h0 => by
        obtain ⟨i, hi, rfl⟩ := getD_mem7 hx
        exact g4 _ hx h0 (h3 i hi)⟩
    · rw [cDF (by omega), chk_pos hj2, chk_pos ⟨by omega, by omega⟩, chk_pos (by omega), chk_pos hj2, chk_pos ⟨by omega, by omega⟩]
      simp only [Int.toNat_natCast]
      rw [Fld.eta]
      refine .inl ⟨_, rfl, ⟨fun x hx => ?_, fun x hx => ?_, ?_, fun x hx h6 h7 => ?_, ?_⟩, ?_⟩
      · rcases List.mem_append.1 hx with hx | hx
        · exact g1 x hx
        · simp only [List.mem_singleton] at hx; subst hx; exact mem_getD7 h3
      · simp only []
        rcases List.mem_append.1 hx with hx | hx
        · have := g2 x hx; omega
        · simp only [List.mem_singleton] at hx; subst hx; exact Int.le_refl _
      · simp only []
        refine List.pairwise_append.2 ⟨g3, by simp, fun a ha b hb => ?_⟩
        simp only [List.mem_singleton] at hb; subst hb
        have := g2 a ha; omega
      · simp only [] at h7 ⊢
        by_cases c : x.tag ≤ last
        · obtain ⟨y, hy, e⟩ := g4 x hx h6 c
          exact ⟨y, by simp [hy], e⟩
        · obtain ⟨i, hi, rfl⟩ := getD_mem7 hx
          have := h5 i hi (by omega)
          exact ⟨F.getD k default, List.mem_append.2 (.inr (List.mem_singleton.2 rfl)), by omega⟩
      · simp only [List.length_append, List.length_singleton]; omega
      · simp only [List.length_append, List.length_singleton]; omega
  · rw [cDF c1]
    exact .inr ⟨_, rfl, R, .inr rfl, rows_done g1 g3 (by omega)⟩
end

theorem RowsR_tot (l : List Dcl) (hl : FewL l) (nm : List UInt8) : ∃ R, RowsZ (fldsL l nm) R ∧ RowsR_F l nm = some R := by
  unfold RowsR_F
  rw [Find_tot l hl.1 nm, Option.bind_some]
  cases hf : fndL nm l with
  | none =>
    rw [cDT (by simp [fndZ, hf])]
    refine ⟨[], ?_, rfl⟩
    rw [show fldsL l nm = [] by simp [fldsL, hf]]
    exact ⟨fun _ h => h, .nil, fun x hx => absurd hx (by simp)⟩
  | some j =>
    have hz : fndZ nm l = (j : Nat) := by simp [fndZ, hf]
    have hfl : fldsL l nm = (l.getD j default).fields := by simp [fldsL, hf]
    rw [hz, cDF (by omega), hfl]
    obtain ⟨r, h1, R, h2, h3⟩ := rows_L5 (nm := nm) (fndL_lt hf) rfl (hl.2 j (fndL_lt hf)).f.1
    rw [h1]
    rcases h2 with rfl | rfl
    · exact ⟨R, h3, rfl⟩
    · exact ⟨R, h3, rfl⟩
end Go.Proofs

/- Contracts of the document's fit: what is of a type; Of, has. -/
set_option linter.unusedSimpArgs false
set_option linter.unusedVariables false
set_option maxRecDepth 100000
namespace Go.Proofs
open Go.Sy Go.Lib

/-- What is of a type, as far as its blank value asks. -/
inductive Isof (l : List Dcl) : Ty → Val → Prop
  | flat {t : Ty} {v : Val} : 1 ≤ t.kind → t.kind ≤ 5 → Isof l t v
  | lst {t : Ty} {v : Val} : t.kind = 7 → Isof l t v
  | mp {t : Ty} {v : Val} : t.kind = 8 → Isof l t v
  | opt {t : Ty} {v : Val} : t.kind = 9 → Isof l (t.of.getD 0 default) v → Isof l t v
  | enm {t : Ty} {v : Val} : t.kind = 6 → kindL l t.name = 3 → Isof l t v
  | str {t : Ty} {v : Val} (g : Fld → Nat) : t.kind = 6 → kindL l t.name = 1 → (∀ f, f ∈ fldsL l t.name → f.ty.kind ≠ 9 → g f < v.items.length) → (∀ f, f ∈ fldsL l t.name → f.ty.kind ≠ 9 → Isof l f.ty (v.items.getD (g f) default)) → Isof l t v
  | uni {t : Ty} {v : Val} (f : Fld) : t.kind = 6 → kindL l t.name = 2 → f ∈ fldsL l t.name → 0 < v.items.length → Isof l f.ty (v.items.getD 0 default) → Isof l t v

theorem Isof.str' {l : List Dcl} {t : Ty} {v : Val} (h1 : t.kind = 6) (h2 : kindL l t.name = 1) (h : ∀ f, f ∈ fldsL l t.name → f.ty.kind ≠ 9 → ∃ i, i < v.items.length ∧ Isof l f.ty (v.items.getD i default)) : Isof l t v := by
  have key : ∀ f, ∃ i, f ∈ fldsL l t.name → f.ty.kind ≠ 9 → i < v.items.length ∧ Isof l f.ty (v.items.getD i default) := fun f => by
    by_cases hc : f ∈ fldsL l t.name ∧ f.ty.kind ≠ 9
    · obtain ⟨i, hi⟩ := h f hc.1 hc.2
      exact ⟨i, fun _ _ => hi⟩
    · exact ⟨0, fun a b => absurd ⟨a, b⟩ hc⟩
  exact Isof.str (fun f => Classical.choose (key f)) h1 h2 (fun f a b => (Classical.choose_spec (key f) a b).1) (fun f a b => (Classical.choose_spec (key f) a b).2)

theorem flds_facts {l : List Dcl} (hW : WellL l) (nm : List UInt8) : ((fldsL l nm).map (·.tag)).Nodup ∧ (∀ f, f ∈ fldsL l nm → 0 ≤ f.tag) ∧ (∀ f, f ∈ fldsL l nm → kindL l nm ≠ 3 → TyOK l false f.ty) := by
  unfold fldsL
  cases hf : fndL nm l with
  | none => exact ⟨by simp, fun f h => absurd h (by simp), fun f h => absurd h (by simp)⟩
  | some j =>
    have hj := fndL_lt hf
    have hd := hW j hj
    refine ⟨(List.nodup_append.1 hd.tags).1, fun f h => ?_, fun f h hk => ?_⟩
    · have := (hd.fs.rng f h).1
      unfold leastD at this
      split at this <;> omega
    · exact (hd.fs.ty f h (by simpa [kindL, hf] using hk)).1

noncomputable def rowsZ (l : List Dcl) (nm : List UInt8) : List Fld := (RowsR_F l nm).getD []
theorem RowsZ_c (l : List Dcl) (hl : FewL l) (nm : List UInt8) : RowsZ (fldsL l nm) (rowsZ l nm) ∧ FnP Tryz.prog 217 [SL 5 Dcl.c l, .s nm] (· = SL 5 Fld.c (rowsZ l nm)) := by
  obtain ⟨R, h1, h2⟩ := RowsR_tot l hl nm
  rw [rowsZ, h2]
  exact ⟨h1, RowsR_w l nm _ h2⟩
theorem fldsL_few {l : List Dcl} (hl : FewL l) (nm : List UInt8) : (fldsL l nm).length ≤ 1000 ∧ ∀ x ∈ fldsL l nm, FewT x.ty := by
  unfold fldsL
  cases hf : fndL nm l with
  | none => exact ⟨Nat.zero_le _, fun x hx => absurd hx (by simp)⟩
  | some j =>
    have h := (hl.2 j (fndL_lt hf)).f
    exact ⟨h.1, fun x hx => by obtain ⟨i, hi, rfl⟩ := getD_mem hx; exact h.2 i hi⟩
theorem rowsZ_len {l : List Dcl} (hl : FewL l) (nm : List UInt8) : (rowsZ l nm).length ≤ 1000 := by
  have h := (RowsZ_c l hl nm).1
  have := fldsL_few hl nm
  have h2 := nodup_len (pw_nodup h.srt) (B := (fldsL l nm).map (·.tag)) (fun t ht => by
    obtain ⟨f, hf, rfl⟩ := List.mem_map.1 ht
    exact List.mem_map.2 ⟨f, h.sub f hf, rfl⟩)
  simp at h2
  omega
theorem rowsZ_mem {l : List Dcl} (hl : FewL l) (hW : WellL l) (nm : List UInt8) (f : Fld) : f ∈ rowsZ l nm ↔ f ∈ fldsL l nm := by
  have h := (RowsZ_c l hl nm).1
  have hf := flds_facts hW nm
  constructor
  · exact h.sub f
  · intro hm
    obtain ⟨y, hy, hty⟩ := h.all f hm (hf.2.1 f hm)
    rw [← one_tag hf.1 (h.sub y hy) hm hty]
    exact hy

def ofF (k : Int) : Int := if k = 7 ∨ k = 9 then 1 else if k = 8 then 2 else if k < 1 ∨ 9 < k then -1 else 0
theorem Of10_c (k : Int) : FnP Tryz.prog 201 [I64 k] (fun r => r = I64 (ofF k)) := by
  refine FnP.intro Tryz.tabOK Tryz.wide_ Tryz.func201 rfl (by decide) rfl (fun X => ?_)
  unfold ofF
  repeat (first | refine sc rfl ?_ | refine so rfl ?_ | refine sb rfl ?_)
  refine O_case 5 rfl (fun c1 => ?_) (fun c1 => ?_) <;> simp only [decide_eq_true_eq, decide_eq_false_iff_not, Bool.not_eq_true', Bool.not_eq_false', beq_iff_eq, beq_eq_false_iff_ne, bne_iff_ne, ne_eq, bne_eq_false_iff_eq, Decidable.not_not] at c1
  · repeat (first | refine sc rfl ?_ | refine so rfl ?_ | refine sb rfl ?_)
    refine C_true rfl rfl ?_
    repeat (first | refine sc rfl ?_ | refine so rfl ?_ | refine sb rfl ?_)
    exact ⟨_, rfl, rfl, by rw [if_pos (by omega)]⟩
  repeat (first | refine sc rfl ?_ | refine so rfl ?_ | refine sb rfl ?_)
  refine C_if rfl (fun c2 => ?_) (fun c2 => ?_) <;> simp only [decide_eq_true_eq, decide_eq_false_iff_not, Bool.not_eq_true', Bool.not_eq_false', beq_iff_eq, beq_eq_false_iff_ne, bne_iff_ne, ne_eq, bne_eq_false_iff_eq, Decidable.not_not] at c2
  · repeat (first | refine sc rfl ?_ | refine so rfl ?_ | refine sb rfl ?_)
    exact ⟨_, rfl, rfl, by rw [if_pos (by omega)]⟩
  rw [if_neg (by omega)]
  repeat (first | refine sc rfl ?_ | refine so rfl ?_ | refine sb rfl ?_)
  refine C_if rfl (fun c3 => ?_) (fun c3 => ?_) <;> simp only [decide_eq_true_eq, decide_eq_false_iff_not, Bool.not_eq_true', Bool.not_eq_false', beq_iff_eq, beq_eq_false_iff_ne, bne_iff_ne, ne_eq, bne_eq_false_iff_eq, Decidable.not_not] at c3
  · repeat (first | refine sc rfl ?_ | refine so rfl ?_ | refine sb rfl ?_)
    exact ⟨_, rfl, rfl, by rw [if_pos (by omega)]⟩
  rw [if_neg (by omega)]
  repeat (first | refine sc rfl ?_ | refine so rfl ?_ | refine sb rfl ?_)
  refine O_case 13 rfl (fun c4 => ?_) (fun c4 => ?_) <;> simp only [decide_eq_true_eq, decide_eq_false_iff_not, Bool.not_eq_true', Bool.not_eq_false', beq_iff_eq, beq_eq_false_iff_ne, bne_iff_ne, ne_eq, bne_eq_false_iff_eq, Decidable.not_not] at c4
  · repeat (first | refine sc rfl ?_ | refine so rfl ?_ | refine sb rfl ?_)
    refine C_true rfl rfl ?_
    repeat (first | refine sc rfl ?_ | refine so rfl ?_ | refine sb rfl ?_)
    exact ⟨_, rfl, rfl, by rw [if_pos (by omega)]⟩
  repeat (first | refine sc rfl ?_ | refine so rfl ?_ | refine sb rfl ?_)
  refine C_if rfl (fun c5 => ?_) (fun c5 => ?_) <;> simp only [decide_eq_true_eq, decide_eq_false_iff_not, Bool.not_eq_true', Bool.not_eq_false', beq_iff_eq, beq_eq_false_iff_ne, bne_iff_ne, ne_eq, bne_eq_false_iff_eq, Decidable.not_not] at c5
  · repeat (first | refine sc rfl ?_ | refine so rfl ?_ | refine sb rfl ?_)
    exact ⟨_, rfl, rfl, by rw [if_pos (by omega)]⟩
  repeat (first | refine sc rfl ?_ | refine so rfl ?_ | refine sb rfl ?_)
  exact ⟨_, rfl, rfl, by rw [if_neg (by omega)]⟩

def hasB (v : Val) (tag : Int) : Bool := decide (tag ∈ v.tags)
theorem has_c (v : Val) (tag : Int) (hv : v.tags.length ≤ 1000) : FnP Tryz.prog 257 [.agg (Val.c v), I64 tag] (fun r => r = B (hasB v tag)) := by
  refine FnP.intro Tryz.tabOK Tryz.wide_ Tryz.func257 rfl (by decide) rfl (fun X => ?_)
  repeat (first | refine sc rfl ?_ | refine so rfl ?_ | refine sb rfl ?_)
  refine C_loop (fun i : Nat => ⟨[(1, I64 tag), (2, .bp 2 0), (5, I64 (i : Nat))], [.box 2 70 (Val.c v)]⟩) (fun i => i ≤ v.tags.length ∧ ∀ j, j < i → v.tags.getD j default ≠ tag) (fun i => v.tags.length - i) 0 ⟨Nat.zero_le _, fun j hj => absurd hj (Nat.not_lt_zero _)⟩ (Le.sub [2] ⟨rfl, rfl, rfl, trivial⟩ rfl) ?_
  rintro i ⟨hi, hall⟩
  repeat (first | refine sc rfl ?_ | refine so rfl ?_ | refine sb rfl ?_)
  refine C_if rfl (fun m1 => ?_) (fun m1 => ?_) <;> simp only [decide_eq_true_eq, decide_eq_false_iff_not, Bool.not_eq_true', Bool.not_eq_false', beq_iff_eq, beq_eq_false_iff_ne, bne_iff_ne, ne_eq, bne_eq_false_iff_eq, Decidable.not_not] at m1
  · have hil : i < v.tags.length := by omega
    repeat (first | refine sc rfl ?_ | refine so rfl ?_ | refine sb rfl ?_)
    refine ⟨by omega, ?_⟩
    rw [Int.toNat_natCast]
    repeat (first | refine sc rfl ?_ | refine so rfl ?_ | refine sb rfl ?_)
    refine C_if rfl (fun m2 => ?_) (fun m2 => ?_) <;> simp only [decide_eq_true_eq, decide_eq_false_iff_not, Bool.not_eq_true', Bool.not_eq_false', beq_iff_eq, beq_eq_false_iff_ne, bne_iff_ne, ne_eq, bne_eq_false_iff_eq, Decidable.not_not] at m2
    · repeat (first | refine sc rfl ?_ | refine so rfl ?_ | refine sb rfl ?_)
      refine ⟨_, rfl, rfl, congrArg (fun b => B b) ?_⟩
      unfold hasB
      rw [eq_comm, decide_eq_true_eq, ← m2, getD_at hil]
      exact List.getElem_mem hil
    · repeat (first | refine sc rfl ?_ | refine so rfl ?_ | refine sb rfl ?_)
      rw [w64 (x := (i : Int) + 1) (by omega) (by omega)]
      refine ⟨i + 1, ⟨hil, fun j hj => ?_⟩, by omega, Le.sub [2] ⟨rfl, rfl, rfl, trivial⟩ rfl⟩
      by_cases hji : j < i
      · exact hall j hji
      · obtain rfl : j = i := by omega
        exact m2
  · obtain rfl : i = v.tags.length := by omega
    repeat (first | refine sc rfl ?_ | refine so rfl ?_ | refine sb rfl ?_)
    refine ⟨_, rfl, rfl, congrArg (fun b => B b) ?_⟩
    unfold hasB
    rw [eq_comm, decide_eq_false_iff_not]
    intro h
    obtain ⟨j, hj, he⟩ := getD_mem h
    exact hall j hj he
end Go.Proofs

/- Contracts of the document's fit: named, inner. -/
set_option linter.unusedSimpArgs false
set_option linter.unusedVariables false
set_option maxRecDepth 100000
namespace Go.Proofs
open Go.Sy Go.Lib

def CN (z : List AV) (b12 b13 : Bool) : List Ch := (bif b12 then [.box 12 65 (bif b13 then z else [I64 0, .s [], I64 0, .s [], .v (.slice none 0 0)])] else [])
def PN : Pl := ⟨[[], [], [], [], [], [], [], [], [], [], [], [], [], [12], []], [12, 13], [(12, 12)], []⟩

theorem rowZ_facts {l : List Dcl} (hl : FewL l) {nm : List UInt8} {tag : Int} {f : Fld} (h : rowZ l nm tag = some f) : f ∈ fldsL l nm ∧ FewT f.ty := by
  unfold rowZ at h
  obtain ⟨j, h1, rfl⟩ := Option.map_eq_some_iff.1 h
  have hm := mem_getDf (tagZ_lt h1)
  exact ⟨hm, (fldsL_few hl nm).2 _ hm⟩

theorem named_c (l : List Dcl) (hl : FewL l) (hW : WellL l) (t : Ty) (v : Val) (hv : FewV v) (hO : OneOK v) (h6 : t.kind = 6)
    (hrec : ∀ i, i < v.items.length → ∀ t' : Ty, FewT t' → FnP Tryz.prog 130 [SL 5 Dcl.c l, .agg (Ty.c t'), .agg (Val.c (v.items.getD i default))] (fun r => ∃ e : Int, r = I64 e ∧ (e = 0 → Isof l t' (v.items.getD i default)))) :
    FnP Tryz.prog 202 [SL 5 Dcl.c l, .agg (Ty.c t), .agg (Val.c v)] (fun r => ∃ e : Int, r = I64 e ∧ (e = 0 → Isof l t v)) := by
  obtain ⟨v1, v2, v3, v4⟩ := hv
  have hv : FewV v := ⟨v1, v2, v3, v4⟩
  have hfl := fldsL_few hl t.name
  refine FnP.intro Tryz.tabOK Tryz.wide_ Tryz.func202 rfl (by decide) rfl (fun X => ?_)
  repeat (first | refine sc rfl ?_ | refine so rfl ?_ | refine sb rfl ?_)
  refine O_le _ (Le.freezebox 4 rfl rfl rfl) ?_
  refine O_le _ (Le.freezebox 5 rfl rfl rfl) ?_
  refine O_call (KindR_c l hl.1 t.name) (by rfl) (by rfl) (by rfl) (by rfl) (fun r hr => ?_)
  subst hr
  repeat (first | refine sc rfl ?_ | refine so rfl ?_ | refine sb rfl ?_)
  refine O_case 23 rfl (fun c1 => ?_) (fun c1 => ?_) <;> simp only [decide_eq_true_eq, decide_eq_false_iff_not, Bool.not_eq_true', Bool.not_eq_false', beq_iff_eq, beq_eq_false_iff_ne, bne_iff_ne, ne_eq, bne_eq_false_iff_eq, Decidable.not_not] at c1
  · repeat (first | refine sc rfl ?_ | refine so rfl ?_ | refine sb rfl ?_)
    refine C_true rfl rfl ?_
    repeat (first | refine sc rfl ?_ | refine so rfl ?_ | refine sb rfl ?_)
    exact ⟨_, rfl, rfl, _, rfl, fun h => absurd h (by decide)⟩
  repeat (first | refine sc rfl ?_ | refine so rfl ?_ | refine sb rfl ?_)
  refine C_if rfl (fun c2 => ?_) (fun c2 => ?_) <;> simp only [decide_eq_true_eq, decide_eq_false_iff_not, Bool.not_eq_true', Bool.not_eq_false', beq_iff_eq, beq_eq_false_iff_ne, bne_iff_ne, ne_eq, bne_eq_false_iff_eq, Decidable.not_not] at c2
  · repeat (first | refine sc rfl ?_ | refine so rfl ?_ | refine sb rfl ?_)
    exact ⟨_, rfl, rfl, _, rfl, fun h => absurd h (by decide)⟩
  obtain hk | hk | hk : kindL l t.name = 3 ∨ kindL l t.name = 1 ∨ kindL l t.name = 2 := by omega
  · rw [hk]
    repeat (first | refine sc rfl ?_ | refine so rfl ?_ | refine sb rfl ?_)
    refine C_drawD rfl (by kernel_rfl) ?_
    repeat (first | refine sd rfl ?_ | refine sdb rfl ?_ | refine sds rfl ?_)
    refine ⟨by decide, ?_⟩
    repeat (first | refine sd rfl ?_ | refine sdb rfl ?_ | refine sds rfl ?_)
    refine ⟨by decide, ?_⟩
    repeat (first | refine sd rfl ?_ | refine sdb rfl ?_ | refine sds rfl ?_)
    repeat (first | refine sc rfl ?_ | refine so rfl ?_ | refine sb rfl ?_)
    refine C_if rfl (fun c3 => ?_) (fun c3 => ?_) <;> simp only [decide_eq_true_eq, decide_eq_false_iff_not, Bool.not_eq_true', Bool.not_eq_false', beq_iff_eq, beq_eq_false_iff_ne, bne_iff_ne, ne_eq, bne_eq_false_iff_eq, Decidable.not_not] at c3
    · repeat (first | refine sc rfl ?_ | refine so rfl ?_ | refine sb rfl ?_)
      exact ⟨_, rfl, rfl, _, rfl, fun h => absurd h (by decide)⟩
    repeat (first | refine sc rfl ?_ | refine so rfl ?_ | refine sb rfl ?_)
    refine C_true rfl rfl ?_
    repeat (first | refine sc rfl ?_ | refine so rfl ?_ | refine sb rfl ?_)
    refine O_call (RowR_c l hl t.name v.num) (by rfl) (by rfl) (by rfl) (by rfl) (fun r hr => ?_)
    rcases hr with ⟨_, rfl⟩ | ⟨f, _, rfl⟩
    · repeat (first | refine sc rfl ?_ | refine so rfl ?_ | refine sb rfl ?_)
      refine C_true rfl rfl ?_
      repeat (first | refine sc rfl ?_ | refine so rfl ?_ | refine sb rfl ?_)
      exact ⟨_, rfl, rfl, _, rfl, fun h => absurd h (by decide)⟩
    · repeat (first | refine sc rfl ?_ | refine so rfl ?_ | refine sb rfl ?_)
      refine C_false rfl rfl ?_
      repeat (first | refine sc rfl ?_ | refine so rfl ?_ | refine sb rfl ?_)
      exact ⟨_, rfl, rfl, _, rfl, fun _ => Isof.enm h6 hk⟩
  · rw [hk]
    repeat (first | refine sc rfl ?_ | refine so rfl ?_ | refine sb rfl ?_)
    refine C_drawD rfl (by kernel_rfl) ?_
    repeat (first | refine sd rfl ?_ | refine sdb rfl ?_ | refine sds rfl ?_)
    refine ⟨by decide, ?_⟩
    repeat (first | refine sd rfl ?_ | refine sdb rfl ?_ | refine sds rfl ?_)
    refine ⟨by decide, ?_⟩
    repeat (first | refine sd rfl ?_ | refine sdb rfl ?_ | refine sds rfl ?_)
    repeat (first | refine sc rfl ?_ | refine so rfl ?_ | refine sb rfl ?_)
    refine C_if rfl (fun c3 => ?_) (fun c3 => ?_) <;> simp only [decide_eq_true_eq, decide_eq_false_iff_not, Bool.not_eq_true', Bool.not_eq_false', beq_iff_eq, beq_eq_false_iff_ne, bne_iff_ne, ne_eq, bne_eq_false_iff_eq, Decidable.not_not] at c3
    · repeat (first | refine sc rfl ?_ | refine so rfl ?_ | refine sb rfl ?_)
      exact ⟨_, rfl, rfl, _, rfl, fun h => absurd h (by decide)⟩
    repeat (first | refine sc rfl ?_ | refine so rfl ?_ | refine sb rfl ?_)
    have hlen : v.tags.length = v.items.length := by have := hO.1; have := hO.2; omega
    refine C_false rfl rfl ?_
    repeat (first | refine sc rfl ?_ | refine so rfl ?_ | refine sb rfl ?_)
    refine C_loop (fun i : Nat => ⟨[(0, SL 5 Dcl.c l), (4, .cp (Ty.c t)), (5, .cp (Val.c v)), (7, I64 1), (11, I64 (i : Nat))], []⟩) (fun i => i ≤ v.tags.length ∧ ∀ j, j < i → ∃ f, rowZ l t.name (v.tags.getD j default) = some f ∧ Isof l f.ty (v.items.getD j default)) (fun i => v.tags.length - i) 0 ⟨Nat.zero_le _, fun j hj => absurd hj (Nat.not_lt_zero _)⟩ (Le.sub [] ⟨rfl, rfl, rfl, rfl, rfl, trivial⟩ rfl) ?_
    rintro i ⟨hi, hall⟩
    repeat (first | refine sc rfl ?_ | refine so rfl ?_ | refine sb rfl ?_)
    refine C_if rfl (fun m1 => ?_) (fun m1 => ?_) <;> simp only [decide_eq_true_eq, decide_eq_false_iff_not, Bool.not_eq_true', Bool.not_eq_false', beq_iff_eq, beq_eq_false_iff_ne, bne_iff_ne, ne_eq, bne_eq_false_iff_eq, Decidable.not_not] at m1
    · have hil : i < v.tags.length := by omega
      have hii : i < v.items.length := by omega
      repeat (first | refine sc rfl ?_ | refine so rfl ?_ | refine sb rfl ?_)
      cases hz : rowZ l t.name (v.tags.getD i default) with
      | none =>
        have hR : FnP Tryz.prog 160 [SL 5 Dcl.c l, .s t.name, I64 (v.tags.getD i default)] (fun r => r = .tup [.agg [I64 0, .s [], I64 0, .s [], .v (.slice none 0 0)], B false]) := (RowR_c l hl t.name (v.tags.getD i default)).mono (fun r hr => by
          rcases hr with ⟨_, rfl⟩ | ⟨f, h, rfl⟩
          · rfl
          · rw [hz] at h; cases h)
        refine C_drawM PN (fun L => CN ([I64 0, .s [], I64 0, .s [], .v (.slice none 0 0)]) (L 12) (L 13)) rfl (by kernel_rfl) (fun L L' h => by show CN ([I64 0, .s [], I64 0, .s [], .v (.slice none 0 0)]) (L 12) (L 13) = CN ([I64 0, .s [], I64 0, .s [], .v (.slice none 0 0)]) (L' 12) (L' 13); rw [h 12 (by decide), h 13 (by decide)]) rfl ?_
        refine sm rfl ⟨trivial, ?_⟩
        refine sm rfl ⟨trivial, ?_⟩
        refine sm rfl ⟨trivial, ?_⟩
        refine sm rfl ⟨trivial, ?_⟩
        refine sm rfl ⟨trivial, ?_⟩
        refine sm rfl ⟨trivial, ?_⟩
        refine sm rfl ⟨by omega, ?_⟩
        rw [Int.toNat_natCast]
        refine sm rfl ⟨trivial, ?_⟩
        refine SM (.tup [.agg [I64 0, .s [], I64 0, .s [], .v (.slice none 0 0)], B false]) rfl (fun L h1 h2 h3 => X_callA [] (FnP.toA hR []) rfl rfl rfl rfl rfl) ?_
        refine sm rfl ⟨trivial, ?_⟩
        refine sm rfl ⟨trivial, ?_⟩
        refine sm rfl ⟨trivial, ?_⟩
        refine SM (.bp 12 0) rfl (fun L h1 h2 h3 => ?_) ?_
        · show StepX _ _ _ _ _ (CN ([I64 0, .s [], I64 0, .s [], .v (.slice none 0 0)]) (L 12) (L 13)) (CN ([I64 0, .s [], I64 0, .s [], .v (.slice none 0 0)]) true (L 13)) _ _ _
          rw [show L 12 = false from h3, h2 13 (show (12 : Nat) ∈ PN.anc 13 by decide)]
          exact X_alloc rfl rfl rfl rfl (show ((12, 12) : Nat × Nat) ∈ PN.cre by decide) rfl rfl rfl
        refine SM .bad rfl (fun L h1 h2 h3 => ?_) ?_
        · show StepX _ _ _ _ _ (CN ([I64 0, .s [], I64 0, .s [], .v (.slice none 0 0)]) (L 12) (L 13)) (CN ([I64 0, .s [], I64 0, .s [], .v (.slice none 0 0)]) (L 12) true) _ _ _
          rw [show L 13 = false from h3, h1 12 (show (12 : Nat) ∈ PN.anc 13 by decide)]
          exact X_storeK rfl rfl rfl rfl rfl rfl rfl rfl rfl
        refine sm rfl ⟨trivial, ?_⟩
        refine sm rfl ?_
        show SymC _ _ _ ⟨_, [.box 12 65 ([I64 0, .s [], I64 0, .s [], .v (.slice none 0 0)])]⟩ _
        repeat (first | refine sc rfl ?_ | refine so rfl ?_ | refine sb rfl ?_)
        refine C_true rfl rfl ?_
        repeat (first | refine sc rfl ?_ | refine so rfl ?_ | refine sb rfl ?_)
        exact ⟨_, rfl, rfl, _, rfl, fun h => absurd h (by decide)⟩
      | some f =>
        have hf := rowZ_facts hl hz
        have hR : FnP Tryz.prog 160 [SL 5 Dcl.c l, .s t.name, I64 (v.tags.getD i default)] (fun r => r = .tup [.agg (Fld.c f), B true]) := (RowR_c l hl t.name (v.tags.getD i default)).mono (fun r hr => by
          rcases hr with ⟨h, _⟩ | ⟨f', h, rfl⟩
          · rw [hz] at h; cases h
          · rw [hz] at h; cases h; rfl)
        refine C_drawM PN (fun L => CN (Fld.c f) (L 12) (L 13)) rfl (by kernel_rfl) (fun L L' h => by show CN (Fld.c f) (L 12) (L 13) = CN (Fld.c f) (L' 12) (L' 13); rw [h 12 (by decide), h 13 (by decide)]) rfl ?_
        refine sm rfl ⟨trivial, ?_⟩
        refine sm rfl ⟨trivial, ?_⟩
        refine sm rfl ⟨trivial, ?_⟩
        refine sm rfl ⟨trivial, ?_⟩
        refine sm rfl ⟨trivial, ?_⟩
        refine sm rfl ⟨trivial, ?_⟩
        refine sm rfl ⟨by omega, ?_⟩
        rw [Int.toNat_natCast]
        refine sm rfl ⟨trivial, ?_⟩
        refine SM (.tup [.agg (Fld.c f), B true]) rfl (fun L h1 h2 h3 => X_callA [] (FnP.toA hR []) rfl rfl rfl rfl rfl) ?_
        refine sm rfl ⟨trivial, ?_⟩
        refine sm rfl ⟨trivial, ?_⟩
        refine sm rfl ⟨trivial, ?_⟩
        refine SM (.bp 12 0) rfl (fun L h1 h2 h3 => ?_) ?_
        · show StepX _ _ _ _ _ (CN (Fld.c f) (L 12) (L 13)) (CN (Fld.c f) true (L 13)) _ _ _
          rw [show L 12 = false from h3, h2 13 (show (12 : Nat) ∈ PN.anc 13 by decide)]
          exact X_alloc rfl rfl rfl rfl (show ((12, 12) : Nat × Nat) ∈ PN.cre by decide) rfl rfl rfl
        refine SM .bad rfl (fun L h1 h2 h3 => ?_) ?_
        · show StepX _ _ _ _ _ (CN (Fld.c f) (L 12) (L 13)) (CN (Fld.c f) (L 12) true) _ _ _
          rw [show L 13 = false from h3, h1 12 (show (12 : Nat) ∈ PN.anc 13 by decide)]
          exact X_storeK rfl rfl rfl rfl rfl rfl rfl rfl rfl
        refine sm rfl ⟨trivial, ?_⟩
        refine sm rfl ?_
        show SymC _ _ _ ⟨_, [.box 12 65 (Fld.c f)]⟩ _
        repeat (first | refine sc rfl ?_ | refine so rfl ?_ | refine sb rfl ?_)
        refine C_false rfl rfl ?_
        repeat (first | refine sc rfl ?_ | refine so rfl ?_ | refine sb rfl ?_)
        refine C_drawT 20 8 rfl (by kernel_rfl) (by kernel_rfl) ?_
        refine sd rfl ?_
        refine sd rfl ?_
        refine sd rfl ?_
        refine sd rfl ?_
        refine sdw (SL 5 Val.c v.items) rfl rfl rfl (.row (Val.rows_eq _)) ?_
        refine sd rfl ?_
        refine sd rfl ⟨by omega, ?_⟩
        rw [Int.toNat_natCast]
        repeat (first | refine sd rfl ?_ | refine sdb rfl ?_ | refine sds rfl ?_)
        repeat (first | refine sc rfl ?_ | refine so rfl ?_ | refine sb rfl ?_)
        refine O_call (hrec i hii f.ty hf.2) (by rfl) (by rfl) (by rfl) (by rfl) (fun r hr => ?_)
        obtain ⟨e, rfl, he⟩ := hr
        repeat (first | refine sc rfl ?_ | refine so rfl ?_ | refine sb rfl ?_)
        refine C_if rfl (fun m2 => ?_) (fun m2 => ?_) <;> simp only [decide_eq_true_eq, decide_eq_false_iff_not, Bool.not_eq_true', Bool.not_eq_false', beq_iff_eq, beq_eq_false_iff_ne, bne_iff_ne, ne_eq, bne_eq_false_iff_eq, Decidable.not_not] at m2
        · repeat (first | refine sc rfl ?_ | refine so rfl ?_ | refine sb rfl ?_)
          exact ⟨_, rfl, rfl, _, rfl, fun h => absurd h m2⟩
        · repeat (first | refine sc rfl ?_ | refine so rfl ?_ | refine sb rfl ?_)
          rw [w64 (x := (i : Int) + 1) (by omega) (by omega)]
          refine ⟨i + 1, ⟨hil, fun j hj => ?_⟩, by omega, Le.sub [] ⟨rfl, rfl, rfl, rfl, rfl, trivial⟩ rfl⟩
          by_cases hji : j < i
          · exact hall j hji
          · obtain rfl : j = i := by omega
            exact ⟨f, hz, he m2⟩
    · obtain rfl : i = v.tags.length := by omega
      have hrl := rowsZ_len hl t.name
      repeat (first | refine sc rfl ?_ | refine so rfl ?_ | refine sb rfl ?_)
      refine O_call (RowsZ_c l hl t.name).2 (by rfl) (by rfl) (by rfl) (by rfl) (fun r hr => ?_)
      subst hr
      repeat (first | refine sc rfl ?_ | refine so rfl ?_ | refine sb rfl ?_)
      refine C_loop (fun i : Nat => ⟨[(5, .cp (Val.c v)), (7, I64 1), (15, SL 5 Fld.c (rowsZ l t.name)), (16, I64 (i : Nat))], []⟩) (fun i => i ≤ (rowsZ l t.name).length ∧ ∀ j, j < i → ((rowsZ l t.name).getD j default).ty.kind ≠ 9 → ((rowsZ l t.name).getD j default).tag ∈ v.tags) (fun i => (rowsZ l t.name).length - i) 0 ⟨Nat.zero_le _, fun j hj => absurd hj (Nat.not_lt_zero _)⟩ (Le.sub [] ⟨rfl, rfl, rfl, rfl, trivial⟩ rfl) ?_
      rintro i ⟨hi2, hin⟩
      repeat (first | refine sc rfl ?_ | refine so rfl ?_ | refine sb rfl ?_)
      refine O_case 89 rfl (fun m2 => ?_) (fun m2 => ?_) <;> simp only [decide_eq_true_eq, decide_eq_false_iff_not, Bool.not_eq_true', Bool.not_eq_false', beq_iff_eq, beq_eq_false_iff_ne, bne_iff_ne, ne_eq, bne_eq_false_iff_eq, Decidable.not_not] at m2
      · have hil : i < (rowsZ l t.name).length := by omega
        repeat (first | refine sc rfl ?_ | refine so rfl ?_ | refine sb rfl ?_)
        refine C_true rfl rfl ?_
        repeat (first | refine sc rfl ?_ | refine so rfl ?_ | refine sb rfl ?_)
        refine C_drawD rfl (by kernel_rfl) ?_
        repeat (first | refine sd rfl ?_ | refine sdb rfl ?_ | refine sds rfl ?_)
        refine ⟨by omega, ?_⟩
        rw [Int.toNat_natCast]
        repeat (first | refine sd rfl ?_ | refine sdb rfl ?_ | refine sds rfl ?_)
        refine D_case 7 rfl (fun g1 => ?_) (fun g1 => ?_) <;> simp only [decide_eq_true_eq, decide_eq_false_iff_not, Bool.not_eq_true', Bool.not_eq_false', beq_iff_eq, beq_eq_false_iff_ne, bne_iff_ne, ne_eq, bne_eq_false_iff_eq, Decidable.not_not] at g1
        · repeat (first | refine sd rfl ?_ | refine sdb rfl ?_ | refine sds rfl ?_)
          refine ⟨by omega, ?_⟩
          rw [Int.toNat_natCast]
          repeat (first | refine sd rfl ?_ | refine sdb rfl ?_ | refine sds rfl ?_)
          refine D_call (has_c v ((rowsZ l t.name).getD i default).tag (by omega)) rfl rfl rfl rfl ?_
          repeat (first | refine sd rfl ?_ | refine sdb rfl ?_ | refine sds rfl ?_)
          repeat (first | refine sc rfl ?_ | refine so rfl ?_ | refine sb rfl ?_)
          cases hh : hasB v ((rowsZ l t.name).getD i default).tag with
          | false =>
            refine C_true rfl rfl ?_
            repeat (first | refine sc rfl ?_ | refine so rfl ?_ | refine sb rfl ?_)
            exact ⟨_, rfl, rfl, _, rfl, fun h => absurd h (by decide)⟩
          | true =>
            refine C_false rfl rfl ?_
            repeat (first | refine sc rfl ?_ | refine so rfl ?_ | refine sb rfl ?_)
            rw [w64 (x := (i : Int) + 1) (by omega) (by omega)]
            refine ⟨i + 1, ⟨hil, fun j hj => ?_⟩, by omega, Le.sub [] ⟨rfl, rfl, rfl, rfl, trivial⟩ rfl⟩
            by_cases hji : j < i
            · exact hin j hji
            · obtain rfl : j = i := by omega
              exact fun _ => of_decide_eq_true hh
        · repeat (first | refine sd rfl ?_ | refine sdb rfl ?_ | refine sds rfl ?_)
          repeat (first | refine sc rfl ?_ | refine so rfl ?_ | refine sb rfl ?_)
          refine C_false rfl rfl ?_
          repeat (first | refine sc rfl ?_ | refine so rfl ?_ | refine sb rfl ?_)
          rw [w64 (x := (i : Int) + 1) (by omega) (by omega)]
          refine ⟨i + 1, ⟨hil, fun j hj => ?_⟩, by omega, Le.sub [] ⟨rfl, rfl, rfl, rfl, trivial⟩ rfl⟩
          by_cases hji : j < i
          · exact hin j hji
          · obtain rfl : j = i := by omega
            exact fun h => absurd g1 h
      · repeat (first | refine sc rfl ?_ | refine so rfl ?_ | refine sb rfl ?_)
        refine C_false rfl rfl ?_
        repeat (first | refine sc rfl ?_ | refine so rfl ?_ | refine sb rfl ?_)
        refine ⟨_, rfl, rfl, _, rfl, fun _ => Isof.str' h6 hk (fun f hf hne => ?_)⟩
        obtain ⟨j, hj, rfl⟩ := getD_mem ((rowsZ_mem hl hW t.name f).2 hf)
        have ht := hin j (by omega) hne
        obtain ⟨q, hq, hqe⟩ := getD_mem ht
        obtain ⟨f', hz, hf'⟩ := hall q hq
        have h2 := (rowZ_iff rfl (flds_facts hW t.name).1).1 hz
        have := one_tag (flds_facts hW t.name).1 h2.1 hf (by rw [h2.2, hqe])
        subst this
        exact ⟨q, by omega, hf'⟩
  · rw [hk]
    repeat (first | refine sc rfl ?_ | refine so rfl ?_ | refine sb rfl ?_)
    refine C_drawD rfl (by kernel_rfl) ?_
    repeat (first | refine sd rfl ?_ | refine sdb rfl ?_ | refine sds rfl ?_)
    refine ⟨by decide, ?_⟩
    repeat (first | refine sd rfl ?_ | refine sdb rfl ?_ | refine sds rfl ?_)
    refine ⟨by decide, ?_⟩
    repeat (first | refine sd rfl ?_ | refine sdb rfl ?_ | refine sds rfl ?_)
    repeat (first | refine sc rfl ?_ | refine so rfl ?_ | refine sb rfl ?_)
    refine C_if rfl (fun c3 => ?_) (fun c3 => ?_) <;> simp only [decide_eq_true_eq, decide_eq_false_iff_not, Bool.not_eq_true', Bool.not_eq_false', beq_iff_eq, beq_eq_false_iff_ne, bne_iff_ne, ne_eq, bne_eq_false_iff_eq, Decidable.not_not] at c3
    · repeat (first | refine sc rfl ?_ | refine so rfl ?_ | refine sb rfl ?_)
      exact ⟨_, rfl, rfl, _, rfl, fun h => absurd h (by decide)⟩
    repeat (first | refine sc rfl ?_ | refine so rfl ?_ | refine sb rfl ?_)
    have hlen : v.tags.length = v.items.length := by have := hO.1; have := hO.2; omega
    refine C_false rfl rfl ?_
    repeat (first | refine sc rfl ?_ | refine so rfl ?_ | refine sb rfl ?_)
    refine C_loop (fun i : Nat => ⟨[(0, SL 5 Dcl.c l), (4, .cp (Ty.c t)), (5, .cp (Val.c v)), (7, I64 2), (11, I64 (i : Nat))], []⟩) (fun i => i ≤ v.tags.length ∧ ∀ j, j < i → ∃ f, rowZ l t.name (v.tags.getD j default) = some f ∧ Isof l f.ty (v.items.getD j default)) (fun i => v.tags.length - i) 0 ⟨Nat.zero_le _, fun j hj => absurd hj (Nat.not_lt_zero _)⟩ (Le.sub [] ⟨rfl, rfl, rfl, rfl, rfl, trivial⟩ rfl) ?_
    rintro i ⟨hi, hall⟩
    repeat (first | refine sc rfl ?_ | refine so rfl ?_ | refine sb rfl ?_)
    refine C_if rfl (fun m1 => ?_) (fun m1 => ?_) <;> simp only [decide_eq_true_eq, decide_eq_false_iff_not, Bool.not_eq_true', Bool.not_eq_false', beq_iff_eq, beq_eq_false_iff_ne, bne_iff_ne, ne_eq, bne_eq_false_iff_eq, Decidable.not_not] at m1
    · have hil : i < v.tags.length := by omega
      have hii : i < v.items.length := by omega
      repeat (first | refine sc rfl ?_ | refine so rfl ?_ | refine sb rfl ?_)
      cases hz : rowZ l t.name (v.tags.getD i default) with
      | none =>
        have hR : FnP Tryz.prog 160 [SL 5 Dcl.c l, .s t.name, I64 (v.tags.getD i default)] (fun r => r = .tup [.agg [I64 0, .s [], I64 0, .s [], .v (.slice none 0 0)], B false]) := (RowR_c l hl t.name (v.tags.getD i default)).mono (fun r hr => by
          rcases hr with ⟨_, rfl⟩ | ⟨f, h, rfl⟩
          · rfl
          · rw [hz] at h; cases h)
        refine C_drawM PN (fun L => CN ([I64 0, .s [], I64 0, .s [], .v (.slice none 0 0)]) (L 12) (L 13)) rfl (by kernel_rfl) (fun L L' h => by show CN ([I64 0, .s [], I64 0, .s [], .v (.slice none 0 0)]) (L 12) (L 13) = CN ([I64 0, .s [], I64 0, .s [], .v (.slice none 0 0)]) (L' 12) (L' 13); rw [h 12 (by decide), h 13 (by decide)]) rfl ?_
        refine sm rfl ⟨trivial, ?_⟩
        refine sm rfl ⟨trivial, ?_⟩
        refine sm rfl ⟨trivial, ?_⟩
        refine sm rfl ⟨trivial, ?_⟩
        refine sm rfl ⟨trivial, ?_⟩
        refine sm rfl ⟨trivial, ?_⟩
        refine sm rfl ⟨by omega, ?_⟩
        rw [Int.toNat_natCast]
        refine sm rfl ⟨trivial, ?_⟩
        refine SM (.tup [.agg [I64 0, .s [], I64 0, .s [], .v (.slice none 0 0)], B false]) rfl (fun L h1 h2 h3 => X_callA [] (FnP.toA hR []) rfl rfl rfl rfl rfl) ?_
        refine sm rfl ⟨trivial, ?_⟩
        refine sm rfl ⟨trivial, ?_⟩
        refine sm rfl ⟨trivial, ?_⟩
        refine SM (.bp 12 0) rfl (fun L h1 h2 h3 => ?_) ?_
        · show StepX _ _ _ _ _ (CN ([I64 0, .s [], I64 0, .s [], .v (.slice none 0 0)]) (L 12) (L 13)) (CN ([I64 0, .s [], I64 0, .s [], .v (.slice none 0 0)]) true (L 13)) _ _ _
          rw [show L 12 = false from h3, h2 13 (show (12 : Nat) ∈ PN.anc 13 by decide)]
          exact X_alloc rfl rfl rfl rfl (show ((12, 12) : Nat × Nat) ∈ PN.cre by decide) rfl rfl rfl
        refine SM .bad rfl (fun L h1 h2 h3 => ?_) ?_
        · show StepX _ _ _ _ _ (CN ([I64 0, .s [], I64 0, .s [], .v (.slice none 0 0)]) (L 12) (L 13)) (CN ([I64 0, .s [], I64 0, .s [], .v (.slice none 0 0)]) (L 12) true) _ _ _
          rw [show L 13 = false from h3, h1 12 (show (12 : Nat) ∈ PN.anc 13 by decide)]
          exact X_storeK rfl rfl rfl rfl rfl rfl rfl rfl rfl
        refine sm rfl ⟨trivial, ?_⟩
        refine sm rfl ?_
        show SymC _ _ _ ⟨_, [.box 12 65 ([I64 0, .s [], I64 0, .s [], .v (.slice none 0 0)])]⟩ _
        repeat (first | refine sc rfl ?_ | refine so rfl ?_ | refine sb rfl ?_)
        refine C_true rfl rfl ?_
        repeat (first | refine sc rfl ?_ | refine so rfl ?_ | refine sb rfl ?_)
        exact ⟨_, rfl, rfl, _, rfl, fun h => absurd h (by decide)⟩
      | some f =>
        have hf := rowZ_facts hl hz
        have hR : FnP Tryz.prog 160 [SL 5 Dcl.c l, .s t.name, I64 (v.tags.getD i default)] (fun r => r = .tup [.agg (Fld.c f), B true]) := (RowR_c l hl t.name (v.tags.getD i default)).mono (fun r hr => by
          rcases hr with ⟨h, _⟩ | ⟨f', h, rfl⟩
          · rw [hz] at h; cases h
          · rw [hz] at h; cases h; rfl)
        refine C_drawM PN (fun L => CN (Fld.c f) (L 12) (L 13)) rfl (by kernel_rfl) (fun L L' h => by show CN (Fld.c f) (L 12) (L 13) = CN (Fld.c f) (L' 12) (L' 13); rw [h 12 (by decide), h 13 (by decide)]) rfl ?_
        refine sm rfl ⟨trivial, ?_⟩
        refine sm rfl ⟨trivial, ?_⟩
        refine sm rfl ⟨trivial, ?_⟩
        refine sm rfl ⟨trivial, ?_⟩
        refine sm rfl ⟨trivial, ?_⟩
        refine sm rfl ⟨trivial, ?_⟩
        refine sm rfl ⟨by omega, ?_⟩
        rw [Int.toNat_natCast]
        refine sm rfl ⟨trivial, ?_⟩
        refine SM (.tup [.agg (Fld.c f), B true]) rfl (fun L h1 h2 h3 => X_callA [] (FnP.toA hR []) rfl rfl rfl rfl rfl) ?_
        refine sm rfl ⟨trivial, ?_⟩
        refine sm rfl ⟨trivial, ?_⟩
        refine sm rfl ⟨trivial, ?_⟩
        refine SM (.bp 12 0) rfl (fun L h1 h2 h3 => ?_) ?_
        · show StepX _ _ _ _ _ (CN (Fld.c f) (L 12) (L 13)) (CN (Fld.c f) true (L 13)) _ _ _
          rw [show L 12 = false from h3, h2 13 (show (12 : Nat) ∈ PN.anc 13 by decide)]
          exact X_alloc rfl rfl rfl rfl (show ((12, 12) : Nat × Nat) ∈ PN.cre by decide) rfl rfl rfl
        refine SM .bad rfl (fun L h1 h2 h3 => ?_) ?_
        · show StepX _ _ _ _ _ (CN (Fld.c f) (L 12) (L 13)) (CN (Fld.c f) (L 12) true) _ _ _
          rw [show L 13 = false from h3, h1 12 (show (12 : Nat) ∈ PN.anc 13 by decide)]
          exact X_storeK rfl rfl rfl rfl rfl rfl rfl rfl rfl
        refine sm rfl ⟨trivial, ?_⟩
        refine sm rfl ?_
        show SymC _ _ _ ⟨_, [.box 12 65 (Fld.c f)]⟩ _
        repeat (first | refine sc rfl ?_ | refine so rfl ?_ | refine sb rfl ?_)
        refine C_false rfl rfl ?_
        repeat (first | refine sc rfl ?_ | refine so rfl ?_ | refine sb rfl ?_)
        refine C_drawT 20 8 rfl (by kernel_rfl) (by kernel_rfl) ?_
        refine sd rfl ?_
        refine sd rfl ?_
        refine sd rfl ?_
        refine sd rfl ?_
        refine sdw (SL 5 Val.c v.items) rfl rfl rfl (.row (Val.rows_eq _)) ?_
        refine sd rfl ?_
        refine sd rfl ⟨by omega, ?_⟩
        rw [Int.toNat_natCast]
        repeat (first | refine sd rfl ?_ | refine sdb rfl ?_ | refine sds rfl ?_)
        repeat (first | refine sc rfl ?_ | refine so rfl ?_ | refine sb rfl ?_)
        refine O_call (hrec i hii f.ty hf.2) (by rfl) (by rfl) (by rfl) (by rfl) (fun r hr => ?_)
        obtain ⟨e, rfl, he⟩ := hr
        repeat (first | refine sc rfl ?_ | refine so rfl ?_ | refine sb rfl ?_)
        refine C_if rfl (fun m2 => ?_) (fun m2 => ?_) <;> simp only [decide_eq_true_eq, decide_eq_false_iff_not, Bool.not_eq_true', Bool.not_eq_false', beq_iff_eq, beq_eq_false_iff_ne, bne_iff_ne, ne_eq, bne_eq_false_iff_eq, Decidable.not_not] at m2
        · repeat (first | refine sc rfl ?_ | refine so rfl ?_ | refine sb rfl ?_)
          exact ⟨_, rfl, rfl, _, rfl, fun h => absurd h m2⟩
        · repeat (first | refine sc rfl ?_ | refine so rfl ?_ | refine sb rfl ?_)
          rw [w64 (x := (i : Int) + 1) (by omega) (by omega)]
          refine ⟨i + 1, ⟨hil, fun j hj => ?_⟩, by omega, Le.sub [] ⟨rfl, rfl, rfl, rfl, rfl, trivial⟩ rfl⟩
          by_cases hji : j < i
          · exact hall j hji
          · obtain rfl : j = i := by omega
            exact ⟨f, hz, he m2⟩
    · obtain rfl : i = v.tags.length := by omega
      have hrl := rowsZ_len hl t.name
      repeat (first | refine sc rfl ?_ | refine so rfl ?_ | refine sb rfl ?_)
      refine O_call (RowsZ_c l hl t.name).2 (by rfl) (by rfl) (by rfl) (by rfl) (fun r hr => ?_)
      subst hr
      repeat (first | refine sc rfl ?_ | refine so rfl ?_ | refine sb rfl ?_)
      refine C_loop (fun i : Nat => ⟨[(7, I64 2), (15, SL 5 Fld.c (rowsZ l t.name)), (16, I64 (i : Nat))], []⟩) (fun i => i = 0) (fun i => i) 0 rfl (Le.sub [] ⟨rfl, rfl, rfl, trivial⟩ rfl) ?_
      rintro i hi
      have h10 := (hO.2 c3)
      obtain ⟨f, hz, hf⟩ := hall 0 (by omega)
      have fin : Isof l t v := Isof.uni f h6 hk (rowZ_facts hl hz).1 (by omega) hf
      repeat (first | refine sc rfl ?_ | refine so rfl ?_ | refine sb rfl ?_)
      refine O_case 89 rfl (fun m2 => ?_) (fun m2 => ?_) <;> simp only [decide_eq_true_eq, decide_eq_false_iff_not, Bool.not_eq_true', Bool.not_eq_false', beq_iff_eq, beq_eq_false_iff_ne, bne_iff_ne, ne_eq, bne_eq_false_iff_eq, Decidable.not_not] at m2
      · repeat (first | refine sc rfl ?_ | refine so rfl ?_ | refine sb rfl ?_)
        refine C_false rfl rfl ?_
        repeat (first | refine sc rfl ?_ | refine so rfl ?_ | refine sb rfl ?_)
        exact ⟨_, rfl, rfl, _, rfl, fun _ => fin⟩
      · repeat (first | refine sc rfl ?_ | refine so rfl ?_ | refine sb rfl ?_)
        refine C_false rfl rfl ?_
        repeat (first | refine sc rfl ?_ | refine so rfl ?_ | refine sb rfl ?_)
        exact ⟨_, rfl, rfl, _, rfl, fun _ => fin⟩

theorem inner_n (l : List Dcl) (hl : FewL l) (hW : WellL l) (v : Val) (hv : FewV v) (hO : OneOK v)
    (hrec : ∀ i, i < v.items.length → ∀ t' : Ty, FewT t' → FnP Tryz.prog 130 [SL 5 Dcl.c l, .agg (Ty.c t'), .agg (Val.c (v.items.getD i default))] (fun r => ∃ e : Int, r = I64 e ∧ (e = 0 → Isof l t' (v.items.getD i default)))) :
    ∀ (m : Nat) (t : Ty), SizeOf.sizeOf t ≤ m → FewT t → FnP Tryz.prog 130 [SL 5 Dcl.c l, .agg (Ty.c t), .agg (Val.c v)] (fun r => ∃ e : Int, r = I64 e ∧ (e = 0 → Isof l t v))
  | 0, t, hm, _ => by cases t; simp at hm
  | m + 1, t, hm, ⟨ht1, ht2⟩ => by
    have hrt : ∀ i, i < t.of.length → FnP Tryz.prog 130 [SL 5 Dcl.c l, .agg (Ty.c (t.of.getD i default)), .agg (Val.c v)] (fun r => ∃ e : Int, r = I64 e ∧ (e = 0 → Isof l (t.of.getD i default) v)) := fun i hi => inner_n l hl hW v hv hO hrec m _ (by have := of_lt hi; omega) (ht2 i hi)
    obtain ⟨v1, v2, v3, v4⟩ := hv
    have hv : FewV v := ⟨v1, v2, v3, v4⟩
    refine FnP.intro Tryz.tabOK Tryz.wide_ Tryz.func130 rfl (by decide) rfl (fun X => ?_)
    repeat (first | refine sc rfl ?_ | refine so rfl ?_ | refine sb rfl ?_)
    refine C_le _ (Le.freezebox 4 rfl rfl rfl) ?_
    refine C_le _ (Le.freezebox 5 rfl rfl rfl) ?_
    refine C_drawD rfl (by kernel_rfl) ?_
    repeat (first | refine sd rfl ?_ | refine sdb rfl ?_ | refine sds rfl ?_)
    refine D_case 3 rfl (fun k7 => ?_) (fun k7 => ?_) <;> simp only [decide_eq_true_eq, decide_eq_false_iff_not, Bool.not_eq_true', Bool.not_eq_false', beq_iff_eq, beq_eq_false_iff_ne, bne_iff_ne, ne_eq, bne_eq_false_iff_eq, Decidable.not_not] at k7
    · repeat (first | refine sd rfl ?_ | refine sdb rfl ?_ | refine sds rfl ?_)
      refine D_call (Of10_c t.kind) rfl rfl rfl rfl ?_
      repeat (first | refine sd rfl ?_ | refine sdb rfl ?_ | refine sds rfl ?_)
      repeat (first | refine sc rfl ?_ | refine so rfl ?_ | refine sb rfl ?_)
      refine C_if rfl (fun ho => ?_) (fun ho => ?_) <;> simp only [decide_eq_true_eq, decide_eq_false_iff_not, Bool.not_eq_true', Bool.not_eq_false', beq_iff_eq, beq_eq_false_iff_ne, bne_iff_ne, ne_eq, bne_eq_false_iff_eq, Decidable.not_not] at ho
      · repeat (first | refine sc rfl ?_ | refine so rfl ?_ | refine sb rfl ?_)
        exact ⟨_, rfl, rfl, _, rfl, fun h => absurd h (by decide)⟩
      repeat (first | refine sc rfl ?_ | refine so rfl ?_ | refine sb rfl ?_)
      refine C_false rfl (by simp; omega) ?_
      repeat (first | refine sc rfl ?_ | refine so rfl ?_ | refine sb rfl ?_)
      refine C_false rfl (by simp; omega) ?_
      repeat (first | refine sc rfl ?_ | refine so rfl ?_ | refine sb rfl ?_)
      refine C_false rfl (by simp; omega) ?_
      repeat (first | refine sc rfl ?_ | refine so rfl ?_ | refine sb rfl ?_)
      refine C_false rfl (by simp; omega) ?_
      repeat (first | refine sc rfl ?_ | refine so rfl ?_ | refine sb rfl ?_)
      refine C_false rfl (by simp; omega) ?_
      repeat (first | refine sc rfl ?_ | refine so rfl ?_ | refine sb rfl ?_)
      refine C_false rfl (by simp; omega) ?_
      repeat (first | refine sc rfl ?_ | refine so rfl ?_ | refine sb rfl ?_)
      unfold ofF at ho
      obtain h7 | h8 | h9 : t.kind = 7 ∨ t.kind = 8 ∨ t.kind = 9 := by
        split at ho
        · omega
        · split at ho
          · omega
          · split at ho <;> omega
      · rw [if_pos (by omega)] at ho
        have fin : Isof l t v := Isof.lst h7
        refine C_true rfl (by simp [h7]) ?_
        repeat (first | refine sc rfl ?_ | refine so rfl ?_ | refine sb rfl ?_)
        refine C_true rfl (by simp [h7]) ?_
        repeat (first | refine sc rfl ?_ | refine so rfl ?_ | refine sb rfl ?_)
        refine C_if rfl (fun m0 => ?_) (fun m0 => ?_) <;> simp only [decide_eq_true_eq, decide_eq_false_iff_not, Bool.not_eq_true', Bool.not_eq_false', beq_iff_eq, beq_eq_false_iff_ne, bne_iff_ne, ne_eq, bne_eq_false_iff_eq, Decidable.not_not] at m0
        · repeat (first | refine sc rfl ?_ | refine so rfl ?_ | refine sb rfl ?_)
          exact ⟨_, rfl, rfl, _, rfl, fun h => absurd h (by decide)⟩
        repeat (first | refine sc rfl ?_ | refine so rfl ?_ | refine sb rfl ?_)
        refine C_loop (fun i : Nat => ⟨[(0, SL 5 Dcl.c l), (4, .cp (Ty.c t)), (5, .cp (Val.c v)), (7, I64 (i : Nat))], []⟩) (fun i => i ≤ v.items.length) (fun i => v.items.length - i) 0 (Nat.zero_le _) (Le.sub [] ⟨rfl, rfl, rfl, rfl, trivial⟩ rfl) ?_
        intro i hi
        repeat (first | refine sc rfl ?_ | refine so rfl ?_ | refine sb rfl ?_)
        refine C_if rfl (fun m1 => ?_) (fun m1 => ?_) <;> simp only [decide_eq_true_eq, decide_eq_false_iff_not, Bool.not_eq_true', Bool.not_eq_false', beq_iff_eq, beq_eq_false_iff_ne, bne_iff_ne, ne_eq, bne_eq_false_iff_eq, Decidable.not_not] at m1
        · have hil : i < v.items.length := by omega
          have hmod : ((i : Nat) : Int).tmod ((t.of.length : Nat) : Int) = ((i % t.of.length : Nat) : Int) := by rw [Int.tmod_eq_emod_of_nonneg (by omega)]; rfl
          have hlt : i % t.of.length < t.of.length := Nat.mod_lt _ (by omega)
          repeat (first | refine sc rfl ?_ | refine so rfl ?_ | refine sb rfl ?_)
          refine C_drawT 20 15 rfl (by kernel_rfl) (by kernel_rfl) ?_
          refine sd rfl ?_
          refine sd rfl ?_
          refine sdw (SL 3 Ty.c t.of) rfl rfl rfl (.row (Ty.rows_eq _)) ?_
          refine sd rfl ?_
          refine sd rfl ?_
          refine sd rfl ?_
          refine sd rfl ?_
          refine sd rfl ⟨by omega, ?_⟩
          rw [hmod]
          refine sd rfl ⟨by omega, ?_⟩
          rw [Int.toNat_natCast]
          refine sd rfl ?_
          refine sd rfl ?_
          refine sdw (SL 5 Val.c v.items) rfl rfl rfl (.row (Val.rows_eq _)) ?_
          refine sd rfl ?_
          refine sd rfl ⟨by omega, ?_⟩
          rw [Int.toNat_natCast]
          repeat (first | refine sd rfl ?_ | refine sdb rfl ?_ | refine sds rfl ?_)
          repeat (first | refine sc rfl ?_ | refine so rfl ?_ | refine sb rfl ?_)
          refine O_call (hrec i hil (t.of.getD (i % t.of.length) default) (ht2 _ hlt)) (by rfl) (by rfl) (by rfl) (by rfl) (fun r hr => ?_)
          obtain ⟨e, rfl, he⟩ := hr
          repeat (first | refine sc rfl ?_ | refine so rfl ?_ | refine sb rfl ?_)
          refine C_if rfl (fun m2 => ?_) (fun m2 => ?_) <;> simp only [decide_eq_true_eq, decide_eq_false_iff_not, Bool.not_eq_true', Bool.not_eq_false', beq_iff_eq, beq_eq_false_iff_ne, bne_iff_ne, ne_eq, bne_eq_false_iff_eq, Decidable.not_not] at m2
          · repeat (first | refine sc rfl ?_ | refine so rfl ?_ | refine sb rfl ?_)
            exact ⟨_, rfl, rfl, _, rfl, fun h => absurd h m2⟩
          · repeat (first | refine sc rfl ?_ | refine so rfl ?_ | refine sb rfl ?_)
            rw [w64 (x := (i : Int) + 1) (by omega) (by omega)]
            exact ⟨i + 1, hil, by omega, Le.sub [] ⟨rfl, rfl, rfl, rfl, trivial⟩ rfl⟩
        · repeat (first | refine sc rfl ?_ | refine so rfl ?_ | refine sb rfl ?_)
          exact ⟨_, rfl, rfl, _, rfl, fun _ => fin⟩
      · rw [if_neg (by omega), if_pos (by omega)] at ho
        have fin : Isof l t v := Isof.mp h8
        refine C_false rfl (by simp; omega) ?_
        repeat (first | refine sc rfl ?_ | refine so rfl ?_ | refine sb rfl ?_)
        refine C_true rfl (by simp [h8]) ?_
        repeat (first | refine sc rfl ?_ | refine so rfl ?_ | refine sb rfl ?_)
        refine C_if rfl (fun m0 => ?_) (fun m0 => ?_) <;> simp only [decide_eq_true_eq, decide_eq_false_iff_not, Bool.not_eq_true', Bool.not_eq_false', beq_iff_eq, beq_eq_false_iff_ne, bne_iff_ne, ne_eq, bne_eq_false_iff_eq, Decidable.not_not] at m0
        · repeat (first | refine sc rfl ?_ | refine so rfl ?_ | refine sb rfl ?_)
          exact ⟨_, rfl, rfl, _, rfl, fun h => absurd h (by decide)⟩
        repeat (first | refine sc rfl ?_ | refine so rfl ?_ | refine sb rfl ?_)
        refine C_loop (fun i : Nat => ⟨[(0, SL 5 Dcl.c l), (4, .cp (Ty.c t)), (5, .cp (Val.c v)), (7, I64 (i : Nat))], []⟩) (fun i => i ≤ v.items.length) (fun i => v.items.length - i) 0 (Nat.zero_le _) (Le.sub [] ⟨rfl, rfl, rfl, rfl, trivial⟩ rfl) ?_
        intro i hi
        repeat (first | refine sc rfl ?_ | refine so rfl ?_ | refine sb rfl ?_)
        refine C_if rfl (fun m1 => ?_) (fun m1 => ?_) <;> simp only [decide_eq_true_eq, decide_eq_false_iff_not, Bool.not_eq_true', Bool.not_eq_false', beq_iff_eq, beq_eq_false_iff_ne, bne_iff_ne, ne_eq, bne_eq_false_iff_eq, Decidable.not_not] at m1
        · have hil : i < v.items.length := by omega
          have hmod : ((i : Nat) : Int).tmod ((t.of.length : Nat) : Int) = ((i % t.of.length : Nat) : Int) := by rw [Int.tmod_eq_emod_of_nonneg (by omega)]; rfl
          have hlt : i % t.of.length < t.of.length := Nat.mod_lt _ (by omega)
          repeat (first | refine sc rfl ?_ | refine so rfl ?_ | refine sb rfl ?_)
          refine C_drawT 20 15 rfl (by kernel_rfl) (by kernel_rfl) ?_
          refine sd rfl ?_
          refine sd rfl ?_
          refine sdw (SL 3 Ty.c t.of) rfl rfl rfl (.row (Ty.rows_eq _)) ?_
          refine sd rfl ?_
          refine sd rfl ?_
          refine sd rfl ?_
          refine sd rfl ?_
          refine sd rfl ⟨by omega, ?_⟩
          rw [hmod]
          refine sd rfl ⟨by omega, ?_⟩
          rw [Int.toNat_natCast]
          refine sd rfl ?_
          refine sd rfl ?_
          refine sdw (SL 5 Val.c v.items) rfl rfl rfl (.row (Val.rows_eq _)) ?_
          refine sd rfl ?_
          refine sd rfl ⟨by omega, ?_⟩
          rw [Int.toNat_natCast]
          repeat (first | refine sd rfl ?_ | refine sdb rfl ?_ | refine sds rfl ?_)
          repeat (first | refine sc rfl ?_ | refine so rfl ?_ | refine sb rfl ?_)
          refine O_call (hrec i hil (t.of.getD (i % t.of.length) default) (ht2 _ hlt)) (by rfl) (by rfl) (by rfl) (by rfl) (fun r hr => ?_)
          obtain ⟨e, rfl, he⟩ := hr
          repeat (first | refine sc rfl ?_ | refine so rfl ?_ | refine sb rfl ?_)
          refine C_if rfl (fun m2 => ?_) (fun m2 => ?_) <;> simp only [decide_eq_true_eq, decide_eq_false_iff_not, Bool.not_eq_true', Bool.not_eq_false', beq_iff_eq, beq_eq_false_iff_ne, bne_iff_ne, ne_eq, bne_eq_false_iff_eq, Decidable.not_not] at m2
          · repeat (first | refine sc rfl ?_ | refine so rfl ?_ | refine sb rfl ?_)
            exact ⟨_, rfl, rfl, _, rfl, fun h => absurd h m2⟩
          · repeat (first | refine sc rfl ?_ | refine so rfl ?_ | refine sb rfl ?_)
            rw [w64 (x := (i : Int) + 1) (by omega) (by omega)]
            exact ⟨i + 1, hil, by omega, Le.sub [] ⟨rfl, rfl, rfl, rfl, trivial⟩ rfl⟩
        · repeat (first | refine sc rfl ?_ | refine so rfl ?_ | refine sb rfl ?_)
          exact ⟨_, rfl, rfl, _, rfl, fun _ => fin⟩
      · rw [if_pos (by omega)] at ho
        refine C_false rfl (by simp; omega) ?_
        repeat (first | refine sc rfl ?_ | refine so rfl ?_ | refine sb rfl ?_)
        refine C_false rfl (by simp; omega) ?_
        repeat (first | refine sc rfl ?_ | refine so rfl ?_ | refine sb rfl ?_)
        refine C_true rfl (by simp [h9]) ?_
        repeat (first | refine sc rfl ?_ | refine so rfl ?_ | refine sb rfl ?_)
        refine C_drawT 20 6 rfl (by kernel_rfl) (by kernel_rfl) ?_
        refine sd rfl ?_
        refine sd rfl ?_
        refine sdw (SL 3 Ty.c t.of) rfl rfl rfl (.row (Ty.rows_eq _)) ?_
        refine sd rfl ⟨by omega, ?_⟩
        repeat (first | refine sd rfl ?_ | refine sdb rfl ?_ | refine sds rfl ?_)
        repeat (first | refine sc rfl ?_ | refine so rfl ?_ | refine sb rfl ?_)
        refine O_call (hrt 0 (by omega)) (by rfl) (by rfl) (by rfl) (by rfl) (fun r hr => ?_)
        obtain ⟨e, rfl, he⟩ := hr
        repeat (first | refine sc rfl ?_ | refine so rfl ?_ | refine sb rfl ?_)
        exact ⟨_, rfl, rfl, _, rfl, fun h => Isof.opt h9 (he h)⟩
    · repeat (first | refine sd rfl ?_ | refine sdb rfl ?_ | refine sds rfl ?_)
      repeat (first | refine sc rfl ?_ | refine so rfl ?_ | refine sb rfl ?_)
      refine C_false rfl rfl ?_
      repeat (first | refine sc rfl ?_ | refine so rfl ?_ | refine sb rfl ?_)
      by_cases k15 : 1 ≤ t.kind ∧ t.kind ≤ 5
      · have fin : Isof l t v := Isof.flat k15.1 k15.2
        obtain h | h | h | h | h : t.kind = 1 ∨ t.kind = 2 ∨ t.kind = 3 ∨ t.kind = 4 ∨ t.kind = 5 := by omega
        · refine C_true rfl (by simp [h]) ?_
          repeat (first | refine sc rfl ?_ | refine so rfl ?_ | refine sb rfl ?_)
          refine C_true rfl (by simp [h]) ?_
          repeat (first | refine sc rfl ?_ | refine so rfl ?_ | refine sb rfl ?_)
          refine C_if rfl (fun m0 => ?_) (fun m0 => ?_) <;> simp only [decide_eq_true_eq, decide_eq_false_iff_not, Bool.not_eq_true', Bool.not_eq_false', beq_iff_eq, beq_eq_false_iff_ne, bne_iff_ne, ne_eq, bne_eq_false_iff_eq, Decidable.not_not] at m0
          · repeat (first | refine sc rfl ?_ | refine so rfl ?_ | refine sb rfl ?_)
            exact ⟨_, rfl, rfl, _, rfl, fun h => absurd h (by decide)⟩
          · repeat (first | refine sc rfl ?_ | refine so rfl ?_ | refine sb rfl ?_)
            exact ⟨_, rfl, rfl, _, rfl, fun _ => fin⟩
        · refine C_false rfl (by simp [h]) ?_
          repeat (first | refine sc rfl ?_ | refine so rfl ?_ | refine sb rfl ?_)
          refine C_true rfl (by simp [h]) ?_
          repeat (first | refine sc rfl ?_ | refine so rfl ?_ | refine sb rfl ?_)
          refine C_true rfl (by simp [h]) ?_
          repeat (first | refine sc rfl ?_ | refine so rfl ?_ | refine sb rfl ?_)
          refine C_if rfl (fun m0 => ?_) (fun m0 => ?_) <;> simp only [decide_eq_true_eq, decide_eq_false_iff_not, Bool.not_eq_true', Bool.not_eq_false', beq_iff_eq, beq_eq_false_iff_ne, bne_iff_ne, ne_eq, bne_eq_false_iff_eq, Decidable.not_not] at m0
          · repeat (first | refine sc rfl ?_ | refine so rfl ?_ | refine sb rfl ?_)
            exact ⟨_, rfl, rfl, _, rfl, fun h => absurd h (by decide)⟩
          · repeat (first | refine sc rfl ?_ | refine so rfl ?_ | refine sb rfl ?_)
            exact ⟨_, rfl, rfl, _, rfl, fun _ => fin⟩
        · refine C_false rfl (by simp [h]) ?_
          repeat (first | refine sc rfl ?_ | refine so rfl ?_ | refine sb rfl ?_)
          refine C_false rfl (by simp [h]) ?_
          repeat (first | refine sc rfl ?_ | refine so rfl ?_ | refine sb rfl ?_)
          refine C_true rfl (by simp [h]) ?_
          repeat (first | refine sc rfl ?_ | refine so rfl ?_ | refine sb rfl ?_)
          refine C_true rfl (by simp [h]) ?_
          repeat (first | refine sc rfl ?_ | refine so rfl ?_ | refine sb rfl ?_)
          refine C_if rfl (fun m0 => ?_) (fun m0 => ?_) <;> simp only [decide_eq_true_eq, decide_eq_false_iff_not, Bool.not_eq_true', Bool.not_eq_false', beq_iff_eq, beq_eq_false_iff_ne, bne_iff_ne, ne_eq, bne_eq_false_iff_eq, Decidable.not_not] at m0
          · repeat (first | refine sc rfl ?_ | refine so rfl ?_ | refine sb rfl ?_)
            exact ⟨_, rfl, rfl, _, rfl, fun h => absurd h (by decide)⟩
          · repeat (first | refine sc rfl ?_ | refine so rfl ?_ | refine sb rfl ?_)
            exact ⟨_, rfl, rfl, _, rfl, fun _ => fin⟩
        · refine C_false rfl (by simp [h]) ?_
          repeat (first | refine sc rfl ?_ | refine so rfl ?_ | refine sb rfl ?_)
          refine C_false rfl (by simp [h]) ?_
          repeat (first | refine sc rfl ?_ | refine so rfl ?_ | refine sb rfl ?_)
          refine C_false rfl (by simp [h]) ?_
          repeat (first | refine sc rfl ?_ | refine so rfl ?_ | refine sb rfl ?_)
          refine C_true rfl (by simp [h]) ?_
          repeat (first | refine sc rfl ?_ | refine so rfl ?_ | refine sb rfl ?_)
          refine C_true rfl (by simp [h]) ?_
          repeat (first | refine sc rfl ?_ | refine so rfl ?_ | refine sb rfl ?_)
          refine C_if rfl (fun m0 => ?_) (fun m0 => ?_) <;> simp only [decide_eq_true_eq, decide_eq_false_iff_not, Bool.not_eq_true', Bool.not_eq_false', beq_iff_eq, beq_eq_false_iff_ne, bne_iff_ne, ne_eq, bne_eq_false_iff_eq, Decidable.not_not] at m0
          · repeat (first | refine sc rfl ?_ | refine so rfl ?_ | refine sb rfl ?_)
            exact ⟨_, rfl, rfl, _, rfl, fun h => absurd h (by decide)⟩
          · repeat (first | refine sc rfl ?_ | refine so rfl ?_ | refine sb rfl ?_)
            exact ⟨_, rfl, rfl, _, rfl, fun _ => fin⟩
        · refine C_false rfl (by simp [h]) ?_
          repeat (first | refine sc rfl ?_ | refine so rfl ?_ | refine sb rfl ?_)
          refine C_false rfl (by simp [h]) ?_
          repeat (first | refine sc rfl ?_ | refine so rfl ?_ | refine sb rfl ?_)
          refine C_false rfl (by simp [h]) ?_
          repeat (first | refine sc rfl ?_ | refine so rfl ?_ | refine sb rfl ?_)
          refine C_false rfl (by simp [h]) ?_
          repeat (first | refine sc rfl ?_ | refine so rfl ?_ | refine sb rfl ?_)
          refine C_true rfl (by simp [h]) ?_
          repeat (first | refine sc rfl ?_ | refine so rfl ?_ | refine sb rfl ?_)
          refine C_if rfl (fun m0 => ?_) (fun m0 => ?_) <;> simp only [decide_eq_true_eq, decide_eq_false_iff_not, Bool.not_eq_true', Bool.not_eq_false', beq_iff_eq, beq_eq_false_iff_ne, bne_iff_ne, ne_eq, bne_eq_false_iff_eq, Decidable.not_not] at m0
          · repeat (first | refine sc rfl ?_ | refine so rfl ?_ | refine sb rfl ?_)
            exact ⟨_, rfl, rfl, _, rfl, fun h => absurd h (by decide)⟩
          · repeat (first | refine sc rfl ?_ | refine so rfl ?_ | refine sb rfl ?_)
            exact ⟨_, rfl, rfl, _, rfl, fun _ => fin⟩
      refine C_false rfl (by simp; omega) ?_
      repeat (first | refine sc rfl ?_ | refine so rfl ?_ | refine sb rfl ?_)
      refine C_false rfl (by simp; omega) ?_
      repeat (first | refine sc rfl ?_ | refine so rfl ?_ | refine sb rfl ?_)
      refine C_false rfl (by simp; omega) ?_
      repeat (first | refine sc rfl ?_ | refine so rfl ?_ | refine sb rfl ?_)
      refine C_false rfl (by simp; omega) ?_
      repeat (first | refine sc rfl ?_ | refine so rfl ?_ | refine sb rfl ?_)
      refine C_false rfl (by simp; omega) ?_
      repeat (first | refine sc rfl ?_ | refine so rfl ?_ | refine sb rfl ?_)
      refine C_if rfl (fun k6 => ?_) (fun k6 => ?_) <;> simp only [decide_eq_true_eq, decide_eq_false_iff_not, Bool.not_eq_true', Bool.not_eq_false', beq_iff_eq, beq_eq_false_iff_ne, bne_iff_ne, ne_eq, bne_eq_false_iff_eq, Decidable.not_not] at k6
      · repeat (first | refine sc rfl ?_ | refine so rfl ?_ | refine sb rfl ?_)
        refine O_call (named_c l hl hW t v hv hO k6 hrec) (by rfl) (by rfl) (by rfl) (by rfl) (fun r hr => ?_)
        obtain ⟨e, rfl, he⟩ := hr
        repeat (first | refine sc rfl ?_ | refine so rfl ?_ | refine sb rfl ?_)
        exact ⟨_, rfl, rfl, _, rfl, he⟩
      repeat (first | refine sc rfl ?_ | refine so rfl ?_ | refine sb rfl ?_)
      refine C_false rfl (by simp; omega) ?_
      repeat (first | refine sc rfl ?_ | refine so rfl ?_ | refine sb rfl ?_)
      refine C_false rfl (by simp; omega) ?_
      repeat (first | refine sc rfl ?_ | refine so rfl ?_ | refine sb rfl ?_)
      refine C_false rfl (by simp; omega) ?_
      repeat (first | refine sc rfl ?_ | refine so rfl ?_ | refine sb rfl ?_)
      exact ⟨_, rfl, rfl, _, rfl, fun h => absurd h (by decide)⟩

theorem innerV_c (l : List Dcl) (hl : FewL l) (hW : WellL l) : ∀ (n : Nat) (v : Val), SizeOf.sizeOf v ≤ n → FewV v → WellV v → ∀ t : Ty, FewT t → FnP Tryz.prog 130 [SL 5 Dcl.c l, .agg (Ty.c t), .agg (Val.c v)] (fun r => ∃ e : Int, r = I64 e ∧ (e = 0 → Isof l t v))
  | 0, v, hn, _, _, _, _ => by cases v; simp at hn
  | n + 1, v, hn, ⟨v1, v2, v3, v4⟩, ⟨hO, hI⟩, t, ht =>
    inner_n l hl hW v ⟨v1, v2, v3, v4⟩ hO (fun i hi t' ht' => innerV_c l hl hW n _ (by have := items_lt hi; omega) (v4 i hi) (hI i hi) t' ht') _ t (Nat.le_refl _) ht
end Go.Proofs

/- Contracts of the document's fit: Fits, Struct. -/
set_option linter.unusedSimpArgs false
set_option linter.unusedVariables false
set_option maxRecDepth 100000
namespace Go.Proofs
open Go.Sy Go.Lib

theorem Fits16_c (l : List Dcl) (hl : FewL l) (hW : WellL l) (t : Ty) (ht : FewT t) (v : Val) (hv : FewV v) (hd : v.deep ≤ 1000) : FnP Tryz.prog 81 [SL 5 Dcl.c l, .agg (Ty.c t), .agg (Val.c v)] (fun r => ∃ e : Int, r = I64 e ∧ (e = 0 → Isof l t v ∧ v.deep ≤ 8)) := by
  refine FnP.intro Tryz.tabOK Tryz.wide_ Tryz.func81 rfl (by decide) rfl (fun X => ?_)
  repeat (first | refine sc rfl ?_ | refine so rfl ?_ | refine sb rfl ?_)
  refine O_call (Well_c _ v (Nat.le_refl _) hv) (by rfl) (by rfl) (by rfl) (by rfl) (fun r hr => ?_)
  obtain ⟨b, rfl, hb⟩ := hr
  repeat (first | refine sc rfl ?_ | refine so rfl ?_ | refine sb rfl ?_)
  cases b with
  | false =>
    refine C_true rfl rfl ?_
    repeat (first | refine sc rfl ?_ | refine so rfl ?_ | refine sb rfl ?_)
    exact ⟨_, rfl, rfl, _, rfl, fun h => absurd h (by decide)⟩
  | true =>
    refine C_false rfl rfl ?_
    repeat (first | refine sc rfl ?_ | refine so rfl ?_ | refine sb rfl ?_)
    refine O_call (Deep_c _ v (Nat.le_refl _) hv hd) (by rfl) (by rfl) (by rfl) (by rfl) (fun r hr => ?_)
    subst hr
    repeat (first | refine sc rfl ?_ | refine so rfl ?_ | refine sb rfl ?_)
    refine C_if rfl (fun c => ?_) (fun c => ?_) <;> simp only [decide_eq_true_eq, decide_eq_false_iff_not, Bool.not_eq_true', Bool.not_eq_false', beq_iff_eq, beq_eq_false_iff_ne, bne_iff_ne, ne_eq, bne_eq_false_iff_eq, Decidable.not_not] at c
    · repeat (first | refine sc rfl ?_ | refine so rfl ?_ | refine sb rfl ?_)
      exact ⟨_, rfl, rfl, _, rfl, fun h => absurd h (by decide)⟩
    repeat (first | refine sc rfl ?_ | refine so rfl ?_ | refine sb rfl ?_)
    refine O_call (innerV_c l hl hW _ v (Nat.le_refl _) hv (hb rfl) t ht) (by rfl) (by rfl) (by rfl) (by rfl) (fun r hr => ?_)
    obtain ⟨e, rfl, he⟩ := hr
    repeat (first | refine sc rfl ?_ | refine so rfl ?_ | refine sb rfl ?_)
    exact ⟨_, rfl, rfl, _, rfl, fun h => ⟨he h, by omega⟩⟩

theorem Struct16_c (l : List Dcl) (hl : FewL l) (hW : WellL l) (nm : List UInt8) (v : Val) (hv : FewV v) (hd : v.deep ≤ 1000) : FnP Tryz.prog 31 [SL 5 Dcl.c l, .s nm, .agg (Val.c v)] (fun r => ∃ e : Int, r = I64 e ∧ (e = 0 → kindL l nm = 1 ∧ Isof l ⟨6, nm, []⟩ v ∧ v.deep ≤ 8)) := by
  refine FnP.intro Tryz.tabOK Tryz.wide_ Tryz.func31 rfl (by decide) rfl (fun X => ?_)
  repeat (first | refine sc rfl ?_ | refine so rfl ?_ | refine sb rfl ?_)
  refine O_call (KindR_c l hl.1 nm) (by rfl) (by rfl) (by rfl) (by rfl) (fun r hr => ?_)
  subst hr
  repeat (first | refine sc rfl ?_ | refine so rfl ?_ | refine sb rfl ?_)
  refine C_if rfl (fun c => ?_) (fun c => ?_) <;> simp only [decide_eq_true_eq, decide_eq_false_iff_not, Bool.not_eq_true', Bool.not_eq_false', beq_iff_eq, beq_eq_false_iff_ne, bne_iff_ne, ne_eq, bne_eq_false_iff_eq, Decidable.not_not] at c
  · repeat (first | refine sc rfl ?_ | refine so rfl ?_ | refine sb rfl ?_)
    exact ⟨_, rfl, rfl, _, rfl, fun h => absurd h (by decide)⟩
  repeat (first | refine sc rfl ?_ | refine so rfl ?_ | refine sb rfl ?_)
  refine O_le _ (Le.agg 13 (Ty.c ⟨6, nm, []⟩) rfl (.cons .refl (.cons .refl (.cons .nil .nil)))) ?_
  refine O_call (Fits16_c l hl hW ⟨6, nm, []⟩ ⟨Nat.zero_le _, fun i hi => absurd hi (Nat.not_lt_zero _)⟩ v hv hd) (by rfl) (by rfl) (by rfl) (by rfl) (fun r hr => ?_)
  obtain ⟨e, rfl, he⟩ := hr
  repeat (first | refine sc rfl ?_ | refine so rfl ?_ | refine sb rfl ?_)
  exact ⟨_, rfl, rfl, _, rfl, fun h => ⟨c, he h⟩⟩
end Go.Proofs

/- Blank values: what is made, exactly, and that none is deeper than it must be (plain law). -/
set_option linter.unusedSimpArgs false
set_option linter.unusedVariables false
set_option maxRecDepth 100000
namespace Go.Proofs
open Go.Sy Go.Lib

abbrev zV : Val := ⟨0, 0, [], [], []⟩
mutual
def plF (h : List UInt8 → Val × Bool) : Ty → Val × Bool
  | ⟨k, nm, l⟩ => if k = 6 then h nm else if (1 ≤ k ∧ k ≤ 5 ∧ l.length = 0) ∨ (k = 7 ∧ l.length = 1) ∨ (k = 8 ∧ l.length = 2) then (⟨k, 0, [], [], []⟩, true) else if k = 9 ∧ l.length = 1 then plsF h l else (zV, false)
def plsF (h : List UInt8 → Val × Bool) : List Ty → Val × Bool
  | [] => (zV, false)
  | x :: _ => plF h x
end
theorem plF_eq (h : List UInt8 → Val × Bool) (t : Ty) : plF h t = if t.kind = 6 then h t.name else if (1 ≤ t.kind ∧ t.kind ≤ 5 ∧ t.of.length = 0) ∨ (t.kind = 7 ∧ t.of.length = 1) ∨ (t.kind = 8 ∧ t.of.length = 2) then (⟨t.kind, 0, [], [], []⟩, true) else if t.kind = 9 ∧ t.of.length = 1 then plF h (t.of.getD 0 default) else (zV, false) := by
  obtain ⟨k, nm, l⟩ := t
  simp only [plF]
  by_cases h1 : k = 6
  · rw [if_pos h1, if_pos h1]
  rw [if_neg h1, if_neg h1]
  by_cases h2 : (1 ≤ k ∧ k ≤ 5 ∧ l.length = 0) ∨ (k = 7 ∧ l.length = 1) ∨ (k = 8 ∧ l.length = 2)
  · rw [if_pos h2, if_pos h2]
  rw [if_neg h2, if_neg h2]
  by_cases h3 : k = 9 ∧ l.length = 1
  · rw [if_pos h3, if_pos h3]
    cases l with
    | nil => simp at h3
    | cons x l => simp only [plsF, List.getD_cons_zero]
  · rw [if_neg h3, if_neg h3]
def fldF (g : Ty → Val × Bool) : List Fld → List Int → List Val → Val × Bool
  | [], tg, it => (⟨9, 0, [], tg, it⟩, true)
  | f :: fs, tg, it => if f.ty.kind = 9 then fldF g fs tg it else if (g f.ty).2 = true then fldF g fs (tg ++ [f.tag]) (it ++ [(g f.ty).1]) else (zV, false)
def firF (g : Ty → Val × Bool) : List Fld → Val × Bool
  | [] => (zV, false)
  | f :: fs => if (g f.ty).2 = true then (⟨10, 0, [], [f.tag], [(g f.ty).1]⟩, true) else firF g fs
noncomputable def namF (l : List Dcl) (g : Ty → Val × Bool) (nm : List UInt8) : Val × Bool :=
  if kindL l nm = 3 then (⟨6, ((rowsU l nm).getD 0 default).tag, [], [], []⟩, true) else if kindL l nm = 1 then fldF g (rowsU l nm) [] [] else if kindL l nm = 2 then firF g (rowsU l nm) else (zV, false)
noncomputable def byF (l : List Dcl) : Nat → Ty → Val × Bool
  | 0, _ => (zV, false)
  | d + 1, t => plF (namF l (byF l d)) t
noncomputable def typG (l : List Dcl) (t : Ty) : Nat → Nat → Val × Int
  | 0, _ => (zV, 0)
  | k + 1, n => if (byF l (n + 1) t).2 = true then ((byF l (n + 1) t).1, (n + 1 : Nat)) else typG l t k (n + 1)
noncomputable def strF (l : List Dcl) (nm : List UInt8) : Val × Int := if kindL l nm = 1 then typG l ⟨6, nm, []⟩ 8 0 else (zV, 0)

theorem fldF_ok {g : Ty → Val × Bool} : ∀ {R : List Fld} {tg : List Int} {it : List Val}, (∀ f, f ∈ R → f.ty.kind ≠ 9 → (g f.ty).2 = true) → (fldF g R tg it).2 = true
  | [], _, _, _ => rfl
  | f :: R, tg, it, h => by
    simp only [fldF]
    split
    · exact fldF_ok (fun f hf => h f (List.mem_cons_of_mem _ hf))
    · rename_i hk
      rw [if_pos (h f (List.mem_cons_self ..) hk)]
      exact fldF_ok (fun f hf => h f (List.mem_cons_of_mem _ hf))
theorem firF_ok {g : Ty → Val × Bool} {f : Fld} : ∀ {R : List Fld}, f ∈ R → (g f.ty).2 = true → (firF g R).2 = true
  | [], h, _ => by cases h
  | x :: R, h, hg => by
    simp only [firF]
    split
    · rfl
    · rename_i hx
      rcases List.mem_cons.1 h with rfl | h
      · exact absurd hg hx
      · exact firF_ok h hg

theorem rowsU_mem {l : List Dcl} (hW : WellL l) (hex : ∃ Rs, RowsOK l Rs) {nm : List UInt8} {f : Fld} : f ∈ rowsU l nm ↔ f ∈ fldsL l nm := by
  obtain ⟨Rs, hRs⟩ := hex
  rw [← rowsU_eq hW hRs]
  unfold rowsL fldsL
  cases hf : fndL nm l with
  | none => simp
  | some j =>
    have hj := fndL_lt hf
    exact ((hRs.2 j hj).facts (List.nodup_append.1 (hW j hj).tags).1).1 f

theorem arity_of {l : List Dcl} {b : Bool} {t : Ty} (h : TyOK l b t) : (t.of.length : Int) = arityL t.kind ∧ ∀ i, i < t.of.length → TyOK l true (t.of.getD i default) := by
  obtain ⟨h1, _, _, _, _, h6⟩ := h
  exact ⟨h1, h6⟩

theorem byF_ok (l : List Dcl) (hW : WellL l) (hex : ∃ Rs, RowsOK l Rs) : ∀ (d m : Nat) (t : Ty) (v : Val), SizeOf.sizeOf t ≤ m → (t.kind = 6 ∨ ∃ b, TyOK l b t) → Isof l t v → v.deep ≤ d → (byF l d t).2 = true
  | 0, _, t, v, _, _, _, hd => by rw [deep_eq] at hd; omega
  | d + 1, 0, t, v, hm, _, _, _ => by cases t; simp at hm
  | d + 1, m + 1, t, v, hm, hT, hI, hd => by
    have hitems : ∀ i, i < v.items.length → (v.items.getD i default).deep ≤ d := fun i hi => by
      have := deeps_ge hi
      rw [deep_eq] at hd; omega
    have hrec := fun (f : Fld) (hf : f ∈ fldsL l t.name) (hk : kindL l t.name ≠ 3) (v' : Val) (hI' : Isof l f.ty v') (hd' : v'.deep ≤ d) => byF_ok l hW hex d _ f.ty v' (Nat.le_refl _) (.inr ⟨_, (flds_facts hW t.name).2.2 f hf hk⟩) hI' hd'
    simp only [byF]
    rw [plF_eq]
    cases hI with
    | flat h1 h2 =>
      obtain ⟨b, hT⟩ := hT.resolve_left (by omega)
      have ha := (arity_of hT).1
      rw [if_neg (by omega), if_pos]
      left
      refine ⟨h1, h2, ?_⟩
      obtain h | h | h | h | h : t.kind = 1 ∨ t.kind = 2 ∨ t.kind = 3 ∨ t.kind = 4 ∨ t.kind = 5 := by omega
      all_goals (rw [h] at ha; have e : (t.of.length : Int) = 0 := ha; omega)
    | lst h =>
      obtain ⟨b, hT⟩ := hT.resolve_left (by omega)
      have ha := (arity_of hT).1
      rw [h] at ha
      have e : (t.of.length : Int) = 1 := ha
      rw [if_neg (by omega), if_pos (.inr (.inl ⟨h, by omega⟩))]
    | mp h =>
      obtain ⟨b, hT⟩ := hT.resolve_left (by omega)
      have ha := (arity_of hT).1
      rw [h] at ha
      have e : (t.of.length : Int) = 2 := ha
      rw [if_neg (by omega), if_pos (.inr (.inr ⟨h, by omega⟩))]
    | opt h hI =>
      obtain ⟨b, hT⟩ := hT.resolve_left (by omega)
      have ha := (arity_of hT).1
      rw [h] at ha
      have e : (t.of.length : Int) = 1 := ha
      rw [if_neg (by omega), if_neg (by omega), if_pos ⟨h, by omega⟩]
      exact byF_ok l hW hex (d + 1) m (t.of.getD 0 default) v (by have := of_lt (t := t) (i := 0) (by omega); omega) (.inr ⟨true, (arity_of hT).2 0 (by omega)⟩) hI hd
    | enm h hk =>
      rw [if_pos h, namF, if_pos hk]
    | str g h hk h1 h2 =>
      rw [if_pos h, namF, if_neg (by omega), if_pos hk]
      refine fldF_ok (fun f hf hne => ?_)
      have hf' := (rowsU_mem hW hex).1 hf
      exact hrec f hf' (by omega) _ (h2 f hf' hne) (hitems _ (h1 f hf' hne))
    | uni f h hk hf h0 hI =>
      rw [if_pos h, namF, if_neg (by omega), if_neg (by omega), if_pos hk]
      exact firF_ok ((rowsU_mem hW hex).2 hf) (hrec f hf (by omega) _ hI (hitems 0 h0))

theorem typG_le {l : List Dcl} {t : Ty} {n : Nat} (h : (byF l n t).2 = true) : ∀ (k m : Nat), m + 1 ≤ n → n ≤ m + k → 1 ≤ (typG l t k m).2 ∧ (typG l t k m).2 ≤ n
  | 0, m, h1, h2 => by omega
  | k + 1, m, h1, h2 => by
    simp only [typG]
    split
    · simp only []; omega
    · rename_i hb
      by_cases e : n = m + 1
      · subst e; exact absurd h hb
      · exact typG_le h k (m + 1) (by omega) (by omega)
/-- No value of a struct is less deep than its blank one. -/
theorem strF_le {l : List Dcl} (hW : WellL l) (hex : ∃ Rs, RowsOK l Rs) {nm : List UInt8} {v : Val} (hk : kindL l nm = 1) (hI : Isof l ⟨6, nm, []⟩ v) (hd : v.deep ≤ 8) : 1 ≤ (strF l nm).2 ∧ (strF l nm).2 ≤ (v.deep : Nat) := by
  have h0 : 1 ≤ v.deep := by rw [deep_eq]; omega
  rw [strF, if_pos hk]
  exact typG_le (byF_ok l hW hex v.deep _ _ v (Nat.le_refl _) (.inl rfl) hI (Nat.le_refl _)) 8 0 h0 (by omega)
end Go.Proofs
