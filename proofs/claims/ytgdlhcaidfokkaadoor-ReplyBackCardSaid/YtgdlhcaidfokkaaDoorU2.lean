/- The plain law of taking a number off its bytes. No program in sight. -/
import Derived.Test.YtgdlhcaidfokkaaDoorD13
import Derived.Test.YtgdlhcaidfokkaaDoorU1
set_option linter.unusedVariables false
set_option linter.unusedSimpArgs false
namespace Go.Proofs
open Go

abbrev TK := Nat × Nat × Int
/-- With f bytes at most, behind another one (z) or not: the number, how many bytes, what is wrong. -/
def tkS : Nat → Bool → List UInt8 → TK
  | 0, _, _ => (0, 0, 2)
  | _ + 1, _, [] => (0, 0, 2)
  | f + 1, z, c :: r => if (f = 0 ∧ 1 < c.toNat) ∨ (c.toNat = 0 ∧ z = true) then (0, 0, 1) else if c.toNat < 128 then (c.toNat, 1, 0)
    else match tkS f true r with
      | (m, k, e) => if e = 0 then (c.toNat % 128 + 128 * m, k + 1, 0) else (0, 0, e)
def tk (l : List UInt8) : TK := tkS 10 false l
def comb (i n : Nat) : TK → TK
  | (m, k, e) => if e = 0 then (n + 128 ^ i * m, i + k, 0) else (0, 0, e)

theorem tkS_err : ∀ (f : Nat) (z : Bool) (l : List UInt8), (tkS f z l).2.2 ≠ 0 → (tkS f z l).1 = 0 ∧ (tkS f z l).2.1 = 0
  | 0, _, _, _ => ⟨rfl, rfl⟩
  | f + 1, z, [], _ => ⟨rfl, rfl⟩
  | f + 1, z, c :: r, h => by
    simp only [tkS] at h ⊢
    split at h
    · rename_i h1; rw [if_pos h1]; exact ⟨rfl, rfl⟩
    · rename_i h1
      rw [if_neg h1]
      split at h
      · exact absurd rfl h
      · rename_i h2
        rw [if_neg h2]
        split at h
        · exact absurd rfl h
        · rename_i h3
          simp only [h3, if_false]
          exact ⟨trivial, trivial⟩
theorem comb0 (t : TK) (h : t.2.2 ≠ 0 → t.1 = 0 ∧ t.2.1 = 0) : comb 0 0 t = t := by
  obtain ⟨m, k, e⟩ := t
  unfold comb
  by_cases he : e = 0
  · subst he; simp
  · obtain ⟨h1, h2⟩ := h he
    simp only at h1 h2
    subst h1 h2
    simp [he]
theorem tk_comb (l : List UInt8) : tk l = comb 0 0 (tkS 10 false (l.drop 0)) := by
  rw [comb0 _ (tkS_err _ _ _)]; rfl

/-- One byte more. -/
theorem comb_step {f i n : Nat} {z : Bool} {l : List UInt8} {c : Nat} (hi : i < l.length) (hc : by_ l i = c) (hok : ¬ ((f = 0 ∧ 1 < c) ∨ (c = 0 ∧ z = true))) (h128 : ¬ c < 128) :
    comb i n (tkS (f + 1) z (l.drop i)) = comb (i + 1) (n + c % 128 * 128 ^ i) (tkS f true (l.drop (i + 1))) := by
  rw [List.drop_eq_getElem_cons hi]
  have hcc : (l[i]).toNat = c := by
    rw [← hc]; unfold by_; rw [List.getD_eq_getElem?_getD, List.getElem?_eq_getElem hi]; rfl
  simp only [tkS, hcc, if_neg hok, if_neg h128]
  obtain ⟨m, k, e⟩ := tkS f true (l.drop (i + 1))
  simp only [comb]
  by_cases he : e = 0
  · subst he
    simp only [if_true]
    refine Prod.ext ?_ (Prod.ext ?_ rfl)
    · simp only [Nat.pow_succ, Nat.mul_add, Nat.add_assoc]
      congr 1
      rw [Nat.mul_comm (c % 128), ← Nat.mul_assoc]
    · simp only []; omega
  · simp only [he, if_false]
theorem comb_last {f i n : Nat} {z : Bool} {l : List UInt8} {c : Nat} (hi : i < l.length) (hc : by_ l i = c) (hok : ¬ ((f = 0 ∧ 1 < c) ∨ (c = 0 ∧ z = true))) (h128 : c < 128) :
    comb i n (tkS (f + 1) z (l.drop i)) = (n + c % 128 * 128 ^ i, i + 1, 0) := by
  rw [List.drop_eq_getElem_cons hi]
  have hcc : (l[i]).toNat = c := by
    rw [← hc]; unfold by_; rw [List.getD_eq_getElem?_getD, List.getElem?_eq_getElem hi]; rfl
  simp only [tkS, hcc, if_neg hok, if_pos h128, comb]
  simp only [if_true]
  rw [Nat.mod_eq_of_lt h128, Nat.mul_comm]
theorem comb_bad {f i n : Nat} {z : Bool} {l : List UInt8} {c : Nat} (hi : i < l.length) (hc : by_ l i = c) (hok : (f = 0 ∧ 1 < c) ∨ (c = 0 ∧ z = true)) :
    comb i n (tkS (f + 1) z (l.drop i)) = (0, 0, 1) := by
  rw [List.drop_eq_getElem_cons hi]
  have hcc : (l[i]).toNat = c := by
    rw [← hc]; unfold by_; rw [List.getD_eq_getElem?_getD, List.getElem?_eq_getElem hi]; rfl
  simp only [tkS, hcc, if_pos hok, comb]
  simp
theorem comb_end {f i n : Nat} {z : Bool} {l : List UInt8} (h : l.length ≤ i ∨ f = 0) : comb i n (tkS f z (l.drop i)) = (0, 0, 2) := by
  rcases h with h | h
  · rw [List.drop_eq_nil_of_le h]
    cases f <;> simp [tkS, comb]
  · subst h; simp [tkS, comb]

/-! ### put and take -/
theorem byteN {m : Nat} (h : m < 256) : (UInt8.ofNat m).toNat = m := by
  rw [UInt8.toNat_ofNat']; exact Nat.mod_eq_of_lt h
theorem tkS_put : ∀ (f : Nat) (z : Bool) (n : Nat) (r : List UInt8), (z = true → 0 < n) → n < 2 * 128 ^ f → tkS (f + 1) z (vput n ++ r) = (n, (vput n).length, 0) := by
  intro f
  induction f with
  | zero =>
    intro z n r hz hn
    have hn2 : n < 2 := by simpa using hn
    have hno : ¬ ((0 = 0 ∧ 1 < n) ∨ (n = 0 ∧ z = true)) := by
      rintro (⟨_, h2⟩ | ⟨h1, h2⟩)
      · omega
      · have := hz h2; omega
    rw [vput_lt (by omega)]
    rw [List.cons_append, List.nil_append, tkS, byteN (by omega), if_neg hno, if_pos (by omega)]
    rfl
  | succ f ih =>
    intro z n r hz hn
    have hno : ¬ ((f + 1 = 0 ∧ 1 < n) ∨ (n = 0 ∧ z = true)) := by
      rintro (⟨h1, h2⟩ | ⟨h1, h2⟩)
      · omega
      · have := hz h2; omega
    by_cases h : n < 128
    · rw [vput_lt h]
      rw [List.cons_append, List.nil_append, tkS, byteN (by omega), if_neg hno, if_pos h]
      rfl
    · rw [vput_ge (by omega)]
      rw [List.cons_append, tkS, byteN (by omega), if_neg (by omega), if_neg (by omega), ih true (n / 128) r (fun _ => by omega) (by rw [Nat.pow_succ] at hn; omega)]
      simp only [if_true, List.length_cons]
      refine Prod.ext ?_ rfl
      simp only []
      omega
theorem tkS_take : ∀ (f : Nat) (z : Bool) (l : List UInt8) (n k : Nat), tkS (f + 1) z l = (n, k, 0) → l.take k = vput n ∧ 1 ≤ k ∧ k ≤ l.length ∧ n < 2 * 128 ^ f ∧ (z = true → 0 < n) := by
  intro f
  induction f with
  | zero =>
    intro z l n k h
    cases l with
    | nil => simp [tkS] at h
    | cons c r =>
      rw [tkS] at h
      split at h
      · simp at h
      · rename_i h1
        split at h
        · rename_i h2
          simp only [Prod.mk.injEq] at h
          obtain ⟨rfl, rfl, _⟩ := h
          have h6 : ¬ 1 < c.toNat := fun hh => h1 (.inl ⟨rfl, hh⟩)
          rw [vput_lt h2]
          refine ⟨by simp, by omega, by simp, by simp; omega, fun hz => ?_⟩
          rcases Nat.eq_zero_or_pos c.toNat with h3 | h3
          · exact absurd (.inr ⟨h3, hz⟩) h1
          · exact h3
        · simp [tkS] at h
  | succ f ih =>
    intro z l n k h
    cases l with
    | nil => simp [tkS] at h
    | cons c r =>
      have hc := UInt8.toNat_lt c
      rw [tkS] at h
      split at h
      · simp at h
      · rename_i h1
        split at h
        · rename_i h2
          simp only [Prod.mk.injEq] at h
          obtain ⟨rfl, rfl, _⟩ := h
          rw [vput_lt h2]
          have : 0 < 128 ^ f := Nat.pow_pos (by omega)
          refine ⟨by simp, by omega, by simp, by rw [Nat.pow_succ]; omega, fun hz => ?_⟩
          rcases Nat.eq_zero_or_pos c.toNat with h3 | h3
          · exact absurd (.inr ⟨h3, hz⟩) h1
          · exact h3
        · rename_i h2
          obtain ⟨m, k', e, ht⟩ : ∃ m k' e, tkS (f + 1) true r = (m, k', e) := ⟨_, _, _, rfl⟩
          rw [ht] at h
          simp only at h
          split at h
          · rename_i he
            subst he
            simp only [Prod.mk.injEq] at h
            obtain ⟨rfl, rfl, _⟩ := h
            obtain ⟨i1, i2, i3, i4, i5⟩ := ih true r m k' ht
            have := i5 rfl
            refine ⟨?_, by omega, by simp; omega, by rw [Nat.pow_succ]; omega, fun _ => by omega⟩
            rw [List.take_succ_cons, i1, vput_ge (n := c.toNat % 128 + 128 * m) (by omega)]
            rw [show (c.toNat % 128 + 128 * m) / 128 = m by omega, show (c.toNat % 128 + 128 * m) % 128 + 128 = c.toNat by omega]
            simp
          · rename_i he
            simp only [Prod.mk.injEq] at h
            exact absurd h.2.2 he
theorem tk_put (n : Nat) (r : List UInt8) (hn : n < 18446744073709551616) : tk (vput n ++ r) = (n, (vput n).length, 0) :=
  tkS_put 9 false n r (fun h => by cases h) (by omega)
theorem tk_take {l : List UInt8} {n k : Nat} (h : tk l = (n, k, 0)) : l.take k = vput n ∧ 1 ≤ k ∧ k ≤ l.length ∧ n < 18446744073709551616 := by
  obtain ⟨h1, h2, h3, h4, _⟩ := tkS_take 9 false l n k h
  exact ⟨h1, h2, h3, by omega⟩
end Go.Proofs
