/- The plain law of taking a number off its bytes. No program in sight. -/
import Derived.Test.YtgdlhcaidfokkaaDoorGA
import Derived.Test.YtgdlhcaidfokkaaDoorU1
import Derived.Test.YtgdlhcaidfokkaaDoorGB
import Derived.Test.YtgdlhcaidfokkaaDoorSy24
import Derived.Laws.StructEq
set_option linter.unusedVariables false
set_option linter.unusedSimpArgs false
namespace Go.Proofs
open Go

abbrev TK := Nat × Nat × Int
/-- With f bytes at most, behind another one (z) or not: the number, how many bytes, what is wrong. -/
def tkS : Nat → Bool → List UInt8 → TK
  | 0, _, _ => (0, 0, 2)
  | _ + 1, _, [] => (0, 0, 2)
  | f + 1, z, c :: r => if (f = 0 ∧ 1 < c.toNat) ∨ (c.toNat = 0 ∧ z = true) then (0, 0, 1) else if c.toNat < 128 then (c.toNat, 1, 0)
    else match tkS f true r with
      | (m, k, e) => if e = 0 then (c.toNat % 128 + 128 * m, k + 1, 0) else (0, 0, e)
def tk (l : List UInt8) : TK := tkS 10 false l
def comb (i n : Nat) : TK → TK
  | (m, k, e) => if e = 0 then (n + 128 ^ i * m, i + k, 0) else (0, 0, e)

theorem tkS_err : ∀ (f : Nat) (z : Bool) (l : List UInt8), (tkS f z l).2.2 ≠ 0 → (tkS f z l).1 = 0 ∧ (tkS f z l).2.1 = 0
  | 0, _, _, _ => ⟨rfl, rfl⟩
  | f + 1, z, [], _ => ⟨rfl, rfl⟩
  | f + 1, z, c :: r, h => by
    simp only [tkS] at h ⊢
    split at h
    · rename_i h1; rw [if_pos h1]; exact ⟨rfl, rfl⟩
    · rename_i h1
      rw [if_neg h1]
      split at h
      · exact absurd rfl h
      · rename_i h2
        rw [if_neg h2]
        split at h
        · exact absurd rfl h
        · rename_i h3
          simp only [h3, if_false]
          exact ⟨trivial, trivial⟩
theorem comb0 (t : TK) (h : t.2.2 ≠ 0 → t.1 = 0 ∧ t.2.1 = 0) : comb 0 0 t = t := by
  obtain ⟨m, k, e⟩ := t
  unfold comb
  by_cases he : e = 0
  · subst he; simp
  · obtain ⟨h1, h2⟩ := h he
    simp only at h1 h2
    subst h1 h2
    simp [he]
theorem tk_comb (l : List UInt8) : tk l = comb 0 0 (tkS 10 false (l.drop 0)) := by
  rw [comb0 _ (tkS_err _ _ _)]; rfl

/-- One byte more. -/
theorem comb_step {f i n : Nat} {z : Bool} {l : List UInt8} {c : Nat} (hi : i < l.length) (hc : by_ l i = c) (hok : ¬ ((f = 0 ∧ 1 < c) ∨ (c = 0 ∧ z = true))) (h128 : ¬ c < 128) :
    comb i n (tkS (f + 1) z (l.drop i)) = comb (i + 1) (n + c % 128 * 128 ^ i) (tkS f true (l.drop (i + 1))) := by
  rw [List.drop_eq_getElem_cons hi]
  have hcc : (l[i]).toNat = c := by
    rw [← hc]; unfold by_; rw [List.getD_eq_getElem?_getD, List.getElem?_eq_getElem hi]; rfl
  simp only [tkS, hcc, if_neg hok, if_neg h128]
  obtain ⟨m, k, e⟩ := tkS f true (l.drop (i + 1))
  simp only [comb]
  by_cases he : e = 0
  · subst he
    simp only [if_true]
    refine Prod.ext ?_ (Prod.ext ?_ rfl)
    · simp only [Nat.pow_succ, Nat.mul_add, Nat.add_assoc]
      congr 1
      rw [Nat.mul_comm (c % 128), ← Nat.mul_assoc]
    · simp only []; omega
  · simp only [he, if_false]
theorem comb_last {f i n : Nat} {z : Bool} {l : List UInt8} {c : Nat} (hi : i < l.length) (hc : by_ l i = c) (hok : ¬ ((f = 0 ∧ 1 < c) ∨ (c = 0 ∧ z = true))) (h128 : c < 128) :
    comb i n (tkS (f + 1) z (l.drop i)) = (n + c % 128 * 128 ^ i, i + 1, 0) := by
  rw [List.drop_eq_getElem_cons hi]
  have hcc : (l[i]).toNat = c := by
    rw [← hc]; unfold by_; rw [List.getD_eq_getElem?_getD, List.getElem?_eq_getElem hi]; rfl
  simp only [tkS, hcc, if_neg hok, if_pos h128, comb]
  simp only [if_true]
  rw [Nat.mod_eq_of_lt h128, Nat.mul_comm]
theorem comb_bad {f i n : Nat} {z : Bool} {l : List UInt8} {c : Nat} (hi : i < l.length) (hc : by_ l i = c) (hok : (f = 0 ∧ 1 < c) ∨ (c = 0 ∧ z = true)) :
    comb i n (tkS (f + 1) z (l.drop i)) = (0, 0, 1) := by
  rw [List.drop_eq_getElem_cons hi]
  have hcc : (l[i]).toNat = c := by
    rw [← hc]; unfold by_; rw [List.getD_eq_getElem?_getD, List.getElem?_eq_getElem hi]; rfl
  simp only [tkS, hcc, if_pos hok, comb]
  simp
theorem comb_end {f i n : Nat} {z : Bool} {l : List UInt8} (h : l.length ≤ i ∨ f = 0) : comb i n (tkS f z (l.drop i)) = (0, 0, 2) := by
  rcases h with h | h
  · rw [List.drop_eq_nil_of_le h]
    cases f <;> simp [tkS, comb]
  · subst h; simp [tkS, comb]

/-! ### put and take -/
theorem byteN {m : Nat} (h : m < 256) : (UInt8.ofNat m).toNat = m := by
  rw [UInt8.toNat_ofNat']; exact Nat.mod_eq_of_lt h
theorem tkS_put : ∀ (f : Nat) (z : Bool) (n : Nat) (r : List UInt8), (z = true → 0 < n) → n < 2 * 128 ^ f → tkS (f + 1) z (vput n ++ r) = (n, (vput n).length, 0) := by
  intro f
  induction f with
  | zero =>
    intro z n r hz hn
    have hn2 : n < 2 := by simpa using hn
    have hno : ¬ ((0 = 0 ∧ 1 < n) ∨ (n = 0 ∧ z = true)) := by
      rintro (⟨_, h2⟩ | ⟨h1, h2⟩)
      · omega
      · have := hz h2; omega
    rw [vput_lt (by omega)]
    rw [List.cons_append, List.nil_append, tkS, byteN (by omega), if_neg hno, if_pos (by omega)]
    rfl
  | succ f ih =>
    intro z n r hz hn
    have hno : ¬ ((f + 1 = 0 ∧ 1 < n) ∨ (n = 0 ∧ z = true)) := by
      rintro (⟨h1, h2⟩ | ⟨h1, h2⟩)
      · omega
      · have := hz h2; omega
    by_cases h : n < 128
    · rw [vput_lt h]
      rw [List.cons_append, List.nil_append, tkS, byteN (by omega), if_neg hno, if_pos h]
      rfl
    · rw [vput_ge (by omega)]
      rw [List.cons_append, tkS, byteN (by omega), if_neg (by omega), if_neg (by omega), ih true (n / 128) r (fun _ => by omega) (by rw [Nat.pow_succ] at hn; omega)]
      simp only [if_true, List.length_cons]
      refine Prod.ext ?_ rfl
      simp only []
      omega
theorem tkS_take : ∀ (f : Nat) (z : Bool) (l : List UInt8) (n k : Nat), tkS (f + 1) z l = (n, k, 0) → l.take k = vput n ∧ 1 ≤ k ∧ k ≤ l.length ∧ n < 2 * 128 ^ f ∧ (z = true → 0 < n) := by
  intro f
  induction f with
  | zero =>
    intro z l n k h
    cases l with
    | nil => simp [tkS] at h
    | cons c r =>
      rw [tkS] at h
      split at h
      · simp at h
      · rename_i h1
        split at h
        · rename_i h2
          simp only [Prod.mk.injEq] at h
          obtain ⟨rfl, rfl, _⟩ := h
          have h6 : ¬ 1 < c.toNat := fun hh => h1 (.inl ⟨rfl, hh⟩)
          rw [vput_lt h2]
          refine ⟨by simp, by omega, by simp, by simp; omega, fun hz => ?_⟩
          rcases Nat.eq_zero_or_pos c.toNat with h3 | h3
          · exact absurd (.inr ⟨h3, hz⟩) h1
          · exact h3
        · simp [tkS] at h
  | succ f ih =>
    intro z l n k h
    cases l with
    | nil => simp [tkS] at h
    | cons c r =>
      have hc := UInt8.toNat_lt c
      rw [tkS] at h
      split at h
      · simp at h
      · rename_i h1
        split at h
        · rename_i h2
          simp only [Prod.mk.injEq] at h
          obtain ⟨rfl, rfl, _⟩ := h
          rw [vput_lt h2]
          have : 0 < 128 ^ f := Nat.pow_pos (by omega)
          refine ⟨by simp, by omega, by simp, by rw [Nat.pow_succ]; omega, fun hz => ?_⟩
          rcases Nat.eq_zero_or_pos c.toNat with h3 | h3
          · exact absurd (.inr ⟨h3, hz⟩) h1
          · exact h3
        · rename_i h2
          obtain ⟨m, k', e, ht⟩ : ∃ m k' e, tkS (f + 1) true r = (m, k', e) := ⟨_, _, _, rfl⟩
          rw [ht] at h
          simp only at h
          split at h
          · rename_i he
            subst he
            simp only [Prod.mk.injEq] at h
            obtain ⟨rfl, rfl, _⟩ := h
            obtain ⟨i1, i2, i3, i4, i5⟩ := ih true r m k' ht
            have := i5 rfl
            refine ⟨?_, by omega, by simp; omega, by rw [Nat.pow_succ]; omega, fun _ => by omega⟩
            rw [List.take_succ_cons, i1, vput_ge (n := c.toNat % 128 + 128 * m) (by omega)]
            rw [show (c.toNat % 128 + 128 * m) / 128 = m by omega, show (c.toNat % 128 + 128 * m) % 128 + 128 = c.toNat by omega]
            simp
          · rename_i he
            simp only [Prod.mk.injEq] at h
            exact absurd h.2.2 he
theorem tk_put (n : Nat) (r : List UInt8) (hn : n < 18446744073709551616) : tk (vput n ++ r) = (n, (vput n).length, 0) :=
  tkS_put 9 false n r (fun h => by cases h) (by omega)
theorem tk_take {l : List UInt8} {n k : Nat} (h : tk l = (n, k, 0)) : l.take k = vput n ∧ 1 ≤ k ∧ k ≤ l.length ∧ n < 18446744073709551616 := by
  obtain ⟨h1, h2, h3, h4, _⟩ := tkS_take 9 false l n k h
  exact ⟨h1, h2, h3, by omega⟩
end Go.Proofs

/- Contracts: varint.Take. -/
set_option linter.unusedSimpArgs false
set_option linter.unusedVariables false
set_option maxRecDepth 100000
namespace Go.Proofs
open Go.Sy Go.Lib

abbrev tkA (t : TK) : AV := .tup [U64 (t.1 : Nat), I64 (t.2.1 : Nat), I64 t.2.2]

theorem or64 (n m i : Nat) (hn : n < 128 ^ i) (h : n + m * 128 ^ i < 18446744073709551616) : bitsV .or .u64 (n : Int) ((m * 128 ^ i : Nat) : Int) = ((n + m * 128 ^ i : Nat) : Int) := by
  have h1 : n ||| (m * 128 ^ i) = n + m * 128 ^ i := by
    have h2 : (128 : Nat) ^ i = 2 ^ (7 * i) := by rw [Nat.pow_mul]
    rw [h2] at hn ⊢
    have := Nat.two_pow_add_eq_or_of_lt hn m
    rw [Nat.mul_comm m, Nat.or_comm, ← this, Nat.add_comm]
  simp only [bitsV]
  rw [show IntKind.u64.bits = 64 from rfl, BitVec.toNat_or, BitVec.ofInt_natCast, BitVec.ofInt_natCast, BitVec.toNat_ofNat, BitVec.toNat_ofNat, Nat.mod_eq_of_lt (by omega), Nat.mod_eq_of_lt (by omega), h1]
  exact u64wrap (by omega) (by omega)
theorem and127 (c : Nat) (h : c < 256) : bitsV .and .u8 (c : Int) 127 = ((c % 128 : Nat) : Int) := by
  have h1 : c &&& 127 = c % 128 := by
    have := Nat.and_two_pow_sub_one_eq_mod c 7
    simpa using this
  simp only [bitsV]
  rw [show IntKind.u8.bits = 8 from rfl, BitVec.toNat_and, BitVec.ofInt_natCast, show (BitVec.ofInt 8 127) = BitVec.ofNat 8 127 from rfl, BitVec.toNat_ofNat, BitVec.toNat_ofNat, Nat.mod_eq_of_lt h, show 127 % 2 ^ 8 = 127 from rfl, h1]
  exact u8wrap (by omega) (by omega)
theorem pow_le9 {i : Nat} (h : i ≤ 9) : 128 ^ i ≤ 9223372036854775808 := by
  have : 128 ^ i ≤ 128 ^ 9 := Nat.pow_le_pow_right (by omega) h
  omega

theorem vTake_p (l : List UInt8) (hl : l.length ≤ 9223372036854775000) : FnP Tryd.prog 74 [.s l] (· = tkA (tk l)) := by
  refine FnP.intro Tryd.tabOK Tryd.wide_ Tryd.func74 rfl (by decide) rfl (fun X => ?_)
  have fin : ∀ (t : TK) (r : AV), tk l = t → r = tkA t → r = tkA (tk l) := fun t r h hr => by rw [hr, h]
  repeat (first | refine sc rfl ?_ | refine so rfl ?_ | refine sb rfl ?_ | refine C_scope ?_)
  refine C_loop (fun q : Nat × Nat => ⟨[(0, .s l), (10, I64 (min l.length 10 : Nat)), (11, I64 (q.1 : Nat)), (5, U64 (q.2 : Nat))], []⟩)
    (fun q => q.1 ≤ 10 ∧ q.1 ≤ l.length ∧ q.2 < 128 ^ q.1 ∧ tk l = comb q.1 q.2 (tkS (10 - q.1) (decide (0 < q.1)) (l.drop q.1))) (fun q => 10 - q.1) (0, 0) ⟨by decide, by simp only []; omega, by decide, tk_comb l⟩
    (Le.sub [] ⟨rfl, congrArg (fun x => some (I64 x)) (by omega), rfl, rfl, trivial⟩ rfl) ?_
  rintro ⟨i, n⟩ ⟨hi10, hil, hn, ht⟩
  simp only [] at hi10 hil hn ht
  repeat (first | refine sc rfl ?_ | refine so rfl ?_ | refine sb rfl ?_ | refine C_scope ?_)
  refine C_if rfl (fun h => ?_) (fun h => ?_) <;> simp only [decide_eq_true_eq, decide_eq_false_iff_not] at h
  · have hi : i < l.length ∧ i < 10 := by omega
    obtain ⟨f, hf⟩ : ∃ f, 10 - i = f + 1 := ⟨9 - i, by omega⟩
    rw [hf] at ht
    obtain ⟨c, hc⟩ : ∃ c, by_ l i = c := ⟨_, rfl⟩
    have hc256 : c < 256 := by rw [← hc]; exact by_lt l i
    repeat (first | refine sc rfl ?_ | refine so rfl ?_ | refine sb rfl ?_ | refine C_scope ?_ | refine ⟨by omega, ?_⟩)
    rw [Int.toNat_natCast, getD_by, hc]
    have key : ((f = 0 ∧ 1 < c) ∨ (c = 0 ∧ decide (0 < i) = true)) ↔ ((i = 9 ∧ 1 < c) ∨ (c = 0 ∧ 0 < i)) := by simp only [decide_eq_true_eq]; omega
    refine O_join ⟨[(0, .s l), (10, I64 (min l.length 10 : Nat)), (11, I64 (i : Nat)), (5, U64 (n : Nat)), (6, I64 (i : Nat)), (7, .v (.int .u8 c)), (17, B (decide (i = 9 ∧ 1 < c)))], []⟩ ?_ (fun s h => C_le _ h ?_)
    · have fin2 : ∀ x : Bool, x = decide (i = 9 ∧ 1 < c) → some (B x) = some (B (decide (i = 9 ∧ 1 < c))) := fun x hb => by rw [hb]
      refine O_case 20 rfl (fun h5 => ?_) (fun h5 => ?_) <;> simp at h5 <;> repeat (first | refine sc rfl ?_ | refine so rfl ?_ | refine sb rfl ?_)
      · exact Le.sub [] ⟨rfl, rfl, rfl, rfl, rfl, rfl, fin2 _ (by rw [Bool.eq_iff_iff]; simp; omega), trivial⟩ rfl
      · exact Le.sub [] ⟨rfl, rfl, rfl, rfl, rfl, rfl, fin2 _ (by rw [Bool.eq_iff_iff]; simp; omega), trivial⟩ rfl
    refine C_ifJ ⟨[(0, .s l), (10, I64 (min l.length 10 : Nat)), (11, I64 (i : Nat)), (5, U64 (n : Nat)), (6, I64 (i : Nat)), (7, .v (.int .u8 c)), (17, B (decide ((i = 9 ∧ 1 < c) ∨ (c = 0 ∧ 0 < i))))], []⟩ rfl (fun h1 => ?_) (fun h1 => ?_) (fun s h => C_le _ h ?_)
    · simp only [decide_eq_true_eq] at h1
      repeat (first | refine sc rfl ?_ | refine so rfl ?_ | refine sb rfl ?_)
      exact Le.sub [] ⟨rfl, rfl, rfl, rfl, rfl, rfl, congrArg (fun x => some (B x)) (by rw [Bool.eq_iff_iff]; simp only [decide_eq_true_eq]; omega), trivial⟩ rfl
    · simp only [decide_eq_false_iff_not] at h1
      repeat (first | refine sc rfl ?_ | refine so rfl ?_ | refine sb rfl ?_)
      have fin2 : ∀ x : Bool, x = decide ((i = 9 ∧ 1 < c) ∨ (c = 0 ∧ 0 < i)) → some (B x) = some (B (decide ((i = 9 ∧ 1 < c) ∨ (c = 0 ∧ 0 < i)))) := fun x hb => by rw [hb]
      refine O_case 26 rfl (fun h5 => ?_) (fun h5 => ?_) <;> simp at h5 <;> repeat (first | refine sc rfl ?_ | refine so rfl ?_ | refine sb rfl ?_)
      · exact Le.sub [] ⟨rfl, rfl, rfl, rfl, rfl, rfl, fin2 _ (by rw [Bool.eq_iff_iff]; simp; omega), trivial⟩ rfl
      · exact Le.sub [] ⟨rfl, rfl, rfl, rfl, rfl, rfl, fin2 _ (by rw [Bool.eq_iff_iff]; simp; omega), trivial⟩ rfl
    repeat (first | refine sc rfl ?_ | refine so rfl ?_ | refine sb rfl ?_)
    refine C_if rfl (fun h1 => ?_) (fun h1 => ?_)
    · have h2 := key.2 (of_decide_eq_true h1)
      repeat (first | refine sc rfl ?_ | refine so rfl ?_ | refine sb rfl ?_)
      exact ⟨_, rfl, rfl, fin (0, 0, 1) _ (by rw [ht, comb_bad hi.1 hc h2]) rfl⟩
    have h2 : ¬ ((f = 0 ∧ 1 < c) ∨ (c = 0 ∧ decide (0 < i) = true)) := fun hh => of_decide_eq_false h1 (key.1 hh)
    have hp9 := pow_le9 (i := i) (by omega)
    have hm : c % 128 * 128 ^ i ≤ 127 * 128 ^ i := Nat.mul_le_mul_right _ (by omega)
    have hsum : n + c % 128 * 128 ^ i < 18446744073709551616 := by
      by_cases h9 : i = 9
      · subst h9
        have h3 : c ≤ 1 := by omega
        have h4 : c % 128 * 128 ^ 9 ≤ 1 * 128 ^ 9 := Nat.mul_le_mul_right _ (by omega)
        omega
      · have h4 : 128 ^ i ≤ 128 ^ 8 := Nat.pow_le_pow_right (by omega) (by omega)
        omega
    repeat (first | refine sc rfl ?_ | refine so rfl ?_ | refine sb rfl ?_ | refine ⟨by omega, ?_⟩)
    rw [w64 (x := 7 * (i : Int)) (by omega) (by omega)]
    refine ⟨by omega, ?_⟩
    have hv : bitsV .or .u64 (n : Int) (IntKind.u64.wrap (IntKind.u64.wrap (bitsV .and .u8 (c : Int) 127) * 2 ^ min (7 * (i : Int)).toNat IntKind.u64.bits)) = ((n + c % 128 * 128 ^ i : Nat) : Int) := by
      rw [and127 c hc256, u64wrap (x := ((c % 128 : Nat) : Int)) (by omega) (by omega), show IntKind.u64.bits = 64 from rfl, show min (7 * (i : Int)).toNat 64 = 7 * i by omega]
      have h3 : ((c % 128 : Nat) : Int) * 2 ^ (7 * i) = ((c % 128 * 128 ^ i : Nat) : Int) := by
        have h2 : (128 : Nat) ^ i = 2 ^ (7 * i) := by rw [Nat.pow_mul]
        rw [h2]
        rw [Int.natCast_mul, Int.natCast_pow]
        rfl
      rw [h3, u64wrap (by omega) (by omega), or64 n _ i hn hsum]
    repeat (first | refine sc rfl ?_ | refine so rfl ?_ | refine sb rfl ?_)
    rw [hv]
    repeat (first | refine sc rfl ?_ | refine so rfl ?_ | refine sb rfl ?_)
    refine C_if rfl (fun h3 => ?_) (fun h3 => ?_) <;> simp only [decide_eq_true_eq, decide_eq_false_iff_not] at h3
    · repeat (first | refine sc rfl ?_ | refine so rfl ?_ | refine sb rfl ?_)
      rw [w64 (by omega) (by omega)]
      exact ⟨_, rfl, rfl, fin (n + c % 128 * 128 ^ i, i + 1, 0) _ (by rw [ht, comb_last hi.1 hc h2 (by omega)]) rfl⟩
    · repeat (first | refine sc rfl ?_ | refine so rfl ?_ | refine sb rfl ?_)
      rw [w64 (by omega) (by omega)]
      refine ⟨(i + 1, n + c % 128 * 128 ^ i), ⟨by simp only []; omega, by simp only []; omega, ?_, ?_⟩, by simp only []; omega, Le.sub [] ⟨rfl, rfl, rfl, rfl, trivial⟩ rfl⟩
      · simp only [Nat.pow_succ]
        omega
      · simp only []
        rw [ht, comb_step hi.1 hc h2 (by omega), show 10 - (i + 1) = f by omega, show decide (0 < i + 1) = true from decide_eq_true (by omega)]
  · repeat (first | refine sc rfl ?_ | refine so rfl ?_ | refine sb rfl ?_ | refine C_scope ?_)
    refine ⟨_, rfl, rfl, fin (0, 0, 2) _ ?_ rfl⟩
    rw [ht, comb_end (by omega)]
end Go.Proofs

/- Contracts: the reader of bytes, by functions that it is handed. -/
set_option linter.unusedSimpArgs false
set_option linter.unusedVariables false
set_option maxRecDepth 100000
namespace Go.Proofs
open Go.Sy Go.Lib

theorem takeI_stop (b : List UInt8) (at_ : Nat) (e : Int) (R : RP) (he : e ≠ 0) : FnBox Tryd.prog 72 98 [.s b, I64 (at_ : Nat), I64 e] [.p R] (fun r cells => r = I64 0 ∧ cells = [.s b, I64 (at_ : Nat), I64 e]) := by
  refine FnBox.intro Tryd.tabOK Tryd.wide_ Tryd.func72 rfl (by decide) rfl rfl (fun X => ?_)
  repeat (first | refine sc rfl ?_ | refine so rfl ?_ | refine sb rfl ?_)
  refine O_isnil Tryd.underlying61 rfl rfl rfl ?_
  repeat (first | refine sc rfl ?_ | refine so rfl ?_ | refine sb rfl ?_)
  refine C_true rfl (by simpa using he) ?_
  repeat (first | refine sc rfl ?_ | refine so rfl ?_ | refine sb rfl ?_)
  exact ⟨_, _, _, rfl, rfl, rfl, rfl, rfl, rfl⟩

theorem takeI_err (b : List UInt8) (at_ : Nat) (R : RP) (f : FuncId) (caps : List AV) (k e2 : Int) (x : Int) (hclo : IsClo (.p R) f caps) (himm : (.p R : AV).imm = true) (hat : at_ ≤ b.length)
    (hf : FnP Tryd.prog f ([.s (b.drop at_)] ++ caps) (· = .tup [I64 x, I64 k, I64 e2])) (he : e2 ≠ 0) :
    FnBox Tryd.prog 72 98 [.s b, I64 (at_ : Nat), I64 0] [.p R] (fun r cells => r = I64 0 ∧ cells = [.s b, I64 (at_ : Nat), I64 e2]) := by
  refine FnBox.intro Tryd.tabOK Tryd.wide_ Tryd.func72 rfl (by decide) rfl rfl (fun X => ?_)
  repeat (first | refine sc rfl ?_ | refine so rfl ?_ | refine sb rfl ?_)
  refine O_isnil Tryd.underlying61 rfl rfl rfl ?_
  repeat (first | refine sc rfl ?_ | refine so rfl ?_ | refine sb rfl ?_)
  refine C_false rfl rfl ?_
  repeat (first | refine sc rfl ?_ | refine so rfl ?_ | refine sb rfl ?_)
  refine C_drawD rfl (by kernel_rfl) ?_
  repeat (first | refine sd rfl ?_ | refine ⟨by omega, ?_⟩)
  rw [Int.toNat_natCast]
  refine D_callV hclo himm hf rfl rfl rfl rfl rfl ?_
  repeat (first | refine sd rfl ?_)
  repeat (first | refine sc rfl ?_ | refine so rfl ?_ | refine sb rfl ?_)
  refine C_true rfl (by simpa using he) ?_
  repeat (first | refine sc rfl ?_ | refine so rfl ?_ | refine sb rfl ?_)
  exact ⟨_, _, _, rfl, rfl, rfl, rfl, rfl, rfl⟩

theorem takeI_ok (b : List UInt8) (at_ : Nat) (R : RP) (f : FuncId) (caps : List AV) (k : Nat) (x : Int) (hclo : IsClo (.p R) f caps) (himm : (.p R : AV).imm = true) (hat : at_ ≤ b.length)
    (hf : FnP Tryd.prog f ([.s (b.drop at_)] ++ caps) (· = .tup [I64 x, I64 (k : Nat), I64 0])) (hk : at_ + k ≤ b.length) (hb : b.length ≤ 9223372036854775000) :
    FnBox Tryd.prog 72 98 [.s b, I64 (at_ : Nat), I64 0] [.p R] (fun r cells => r = I64 x ∧ cells = [.s b, I64 ((at_ + k : Nat) : Int), I64 0]) := by
  refine FnBox.intro Tryd.tabOK Tryd.wide_ Tryd.func72 rfl (by decide) rfl rfl (fun X => ?_)
  repeat (first | refine sc rfl ?_ | refine so rfl ?_ | refine sb rfl ?_)
  refine O_isnil Tryd.underlying61 rfl rfl rfl ?_
  repeat (first | refine sc rfl ?_ | refine so rfl ?_ | refine sb rfl ?_)
  refine C_false rfl rfl ?_
  repeat (first | refine sc rfl ?_ | refine so rfl ?_ | refine sb rfl ?_)
  refine C_drawD rfl (by kernel_rfl) ?_
  repeat (first | refine sd rfl ?_ | refine ⟨by omega, ?_⟩)
  rw [Int.toNat_natCast]
  refine D_callV hclo himm hf rfl rfl rfl rfl rfl ?_
  repeat (first | refine sd rfl ?_)
  repeat (first | refine sc rfl ?_ | refine so rfl ?_ | refine sb rfl ?_)
  refine C_false rfl rfl ?_
  repeat (first | refine sc rfl ?_ | refine so rfl ?_ | refine sb rfl ?_)
  rw [w64 (by omega) (by omega)]
  repeat (first | refine sc rfl ?_ | refine so rfl ?_ | refine sb rfl ?_)
  exact ⟨_, _, _, rfl, rfl, rfl, rfl, rfl, rfl⟩

theorem takeU_stop (b : List UInt8) (at_ : Nat) (e : Int) (R : Value) (he : e ≠ 0) : FnBox Tryd.prog 75 98 [.s b, I64 (at_ : Nat), I64 e] [.v R] (fun r cells => r = U64 0 ∧ cells = [.s b, I64 (at_ : Nat), I64 e]) := by
  refine FnBox.intro Tryd.tabOK Tryd.wide_ Tryd.func75 rfl (by decide) rfl rfl (fun X => ?_)
  repeat (first | refine sc rfl ?_ | refine so rfl ?_ | refine sb rfl ?_)
  refine O_isnil Tryd.underlying61 rfl rfl rfl ?_
  repeat (first | refine sc rfl ?_ | refine so rfl ?_ | refine sb rfl ?_)
  refine C_true rfl (by simpa using he) ?_
  repeat (first | refine sc rfl ?_ | refine so rfl ?_ | refine sb rfl ?_)
  exact ⟨_, _, _, rfl, rfl, rfl, rfl, rfl, rfl⟩

theorem takeU_err (b : List UInt8) (at_ : Nat) (R : Value) (f : FuncId) (caps : List AV) (k e2 : Int) (x : Int) (hclo : IsClo (.v R) f caps) (himm : (.v R : AV).imm = true) (hat : at_ ≤ b.length)
    (hf : FnP Tryd.prog f ([.s (b.drop at_)] ++ caps) (· = .tup [U64 x, I64 k, I64 e2])) (he : e2 ≠ 0) :
    FnBox Tryd.prog 75 98 [.s b, I64 (at_ : Nat), I64 0] [.v R] (fun r cells => r = U64 0 ∧ cells = [.s b, I64 (at_ : Nat), I64 e2]) := by
  refine FnBox.intro Tryd.tabOK Tryd.wide_ Tryd.func75 rfl (by decide) rfl rfl (fun X => ?_)
  repeat (first | refine sc rfl ?_ | refine so rfl ?_ | refine sb rfl ?_)
  refine O_isnil Tryd.underlying61 rfl rfl rfl ?_
  repeat (first | refine sc rfl ?_ | refine so rfl ?_ | refine sb rfl ?_)
  refine C_false rfl rfl ?_
  repeat (first | refine sc rfl ?_ | refine so rfl ?_ | refine sb rfl ?_)
  refine C_drawD rfl (by kernel_rfl) ?_
  repeat (first | refine sd rfl ?_ | refine ⟨by omega, ?_⟩)
  rw [Int.toNat_natCast]
  refine D_callV hclo himm hf rfl rfl rfl rfl rfl ?_
  repeat (first | refine sd rfl ?_)
  repeat (first | refine sc rfl ?_ | refine so rfl ?_ | refine sb rfl ?_)
  refine C_true rfl (by simpa using he) ?_
  repeat (first | refine sc rfl ?_ | refine so rfl ?_ | refine sb rfl ?_)
  exact ⟨_, _, _, rfl, rfl, rfl, rfl, rfl, rfl⟩

theorem takeU_ok (b : List UInt8) (at_ : Nat) (R : Value) (f : FuncId) (caps : List AV) (k : Nat) (x : Int) (hclo : IsClo (.v R) f caps) (himm : (.v R : AV).imm = true) (hat : at_ ≤ b.length)
    (hf : FnP Tryd.prog f ([.s (b.drop at_)] ++ caps) (· = .tup [U64 x, I64 (k : Nat), I64 0])) (hk : at_ + k ≤ b.length) (hb : b.length ≤ 9223372036854775000) :
    FnBox Tryd.prog 75 98 [.s b, I64 (at_ : Nat), I64 0] [.v R] (fun r cells => r = U64 x ∧ cells = [.s b, I64 ((at_ + k : Nat) : Int), I64 0]) := by
  refine FnBox.intro Tryd.tabOK Tryd.wide_ Tryd.func75 rfl (by decide) rfl rfl (fun X => ?_)
  repeat (first | refine sc rfl ?_ | refine so rfl ?_ | refine sb rfl ?_)
  refine O_isnil Tryd.underlying61 rfl rfl rfl ?_
  repeat (first | refine sc rfl ?_ | refine so rfl ?_ | refine sb rfl ?_)
  refine C_false rfl rfl ?_
  repeat (first | refine sc rfl ?_ | refine so rfl ?_ | refine sb rfl ?_)
  refine C_drawD rfl (by kernel_rfl) ?_
  repeat (first | refine sd rfl ?_ | refine ⟨by omega, ?_⟩)
  rw [Int.toNat_natCast]
  refine D_callV hclo himm hf rfl rfl rfl rfl rfl ?_
  repeat (first | refine sd rfl ?_)
  repeat (first | refine sc rfl ?_ | refine so rfl ?_ | refine sb rfl ?_)
  refine C_false rfl rfl ?_
  repeat (first | refine sc rfl ?_ | refine so rfl ?_ | refine sb rfl ?_)
  rw [w64 (by omega) (by omega)]
  repeat (first | refine sc rfl ?_ | refine so rfl ?_ | refine sb rfl ?_)
  exact ⟨_, _, _, rfl, rfl, rfl, rfl, rfl, rfl⟩

theorem takeS_stop (b : List UInt8) (at_ : Nat) (e : Int) (R : Value) (he : e ≠ 0) : FnBox Tryd.prog 76 98 [.s b, I64 (at_ : Nat), I64 e] [.v R] (fun r cells => r = .s [] ∧ cells = [.s b, I64 (at_ : Nat), I64 e]) := by
  refine FnBox.intro Tryd.tabOK Tryd.wide_ Tryd.func76 rfl (by decide) rfl rfl (fun X => ?_)
  repeat (first | refine sc rfl ?_ | refine so rfl ?_ | refine sb rfl ?_)
  refine O_isnil Tryd.underlying61 rfl rfl rfl ?_
  repeat (first | refine sc rfl ?_ | refine so rfl ?_ | refine sb rfl ?_)
  refine C_true rfl (by simpa using he) ?_
  repeat (first | refine sc rfl ?_ | refine so rfl ?_ | refine sb rfl ?_)
  exact ⟨_, _, _, rfl, rfl, rfl, rfl, rfl, rfl⟩

theorem takeS_err (b : List UInt8) (at_ : Nat) (R : Value) (f : FuncId) (caps : List AV) (k e2 : Int) (x : List UInt8) (hclo : IsClo (.v R) f caps) (himm : (.v R : AV).imm = true) (hat : at_ ≤ b.length)
    (hf : FnP Tryd.prog f ([.s (b.drop at_)] ++ caps) (· = .tup [.s x, I64 k, I64 e2])) (he : e2 ≠ 0) :
    FnBox Tryd.prog 76 98 [.s b, I64 (at_ : Nat), I64 0] [.v R] (fun r cells => r = .s [] ∧ cells = [.s b, I64 (at_ : Nat), I64 e2]) := by
  refine FnBox.intro Tryd.tabOK Tryd.wide_ Tryd.func76 rfl (by decide) rfl rfl (fun X => ?_)
  repeat (first | refine sc rfl ?_ | refine so rfl ?_ | refine sb rfl ?_)
  refine O_isnil Tryd.underlying61 rfl rfl rfl ?_
  repeat (first | refine sc rfl ?_ | refine so rfl ?_ | refine sb rfl ?_)
  refine C_false rfl rfl ?_
  repeat (first | refine sc rfl ?_ | refine so rfl ?_ | refine sb rfl ?_)
  refine C_drawD rfl (by kernel_rfl) ?_
  repeat (first | refine sd rfl ?_ | refine ⟨by omega, ?_⟩)
  rw [Int.toNat_natCast]
  refine D_callV hclo himm hf rfl rfl rfl rfl rfl ?_
  repeat (first | refine sd rfl ?_)
  repeat (first | refine sc rfl ?_ | refine so rfl ?_ | refine sb rfl ?_)
  refine C_true rfl (by simpa using he) ?_
  repeat (first | refine sc rfl ?_ | refine so rfl ?_ | refine sb rfl ?_)
  exact ⟨_, _, _, rfl, rfl, rfl, rfl, rfl, rfl⟩

theorem takeS_ok (b : List UInt8) (at_ : Nat) (R : Value) (f : FuncId) (caps : List AV) (k : Nat) (x : List UInt8) (hclo : IsClo (.v R) f caps) (himm : (.v R : AV).imm = true) (hat : at_ ≤ b.length)
    (hf : FnP Tryd.prog f ([.s (b.drop at_)] ++ caps) (· = .tup [.s x, I64 (k : Nat), I64 0])) (hk : at_ + k ≤ b.length) (hb : b.length ≤ 9223372036854775000) :
    FnBox Tryd.prog 76 98 [.s b, I64 (at_ : Nat), I64 0] [.v R] (fun r cells => r = .s x ∧ cells = [.s b, I64 ((at_ + k : Nat) : Int), I64 0]) := by
  refine FnBox.intro Tryd.tabOK Tryd.wide_ Tryd.func76 rfl (by decide) rfl rfl (fun X => ?_)
  repeat (first | refine sc rfl ?_ | refine so rfl ?_ | refine sb rfl ?_)
  refine O_isnil Tryd.underlying61 rfl rfl rfl ?_
  repeat (first | refine sc rfl ?_ | refine so rfl ?_ | refine sb rfl ?_)
  refine C_false rfl rfl ?_
  repeat (first | refine sc rfl ?_ | refine so rfl ?_ | refine sb rfl ?_)
  refine C_drawD rfl (by kernel_rfl) ?_
  repeat (first | refine sd rfl ?_ | refine ⟨by omega, ?_⟩)
  rw [Int.toNat_natCast]
  refine D_callV hclo himm hf rfl rfl rfl rfl rfl ?_
  repeat (first | refine sd rfl ?_)
  repeat (first | refine sc rfl ?_ | refine so rfl ?_ | refine sb rfl ?_)
  refine C_false rfl rfl ?_
  repeat (first | refine sc rfl ?_ | refine so rfl ?_ | refine sb rfl ?_)
  rw [w64 (by omega) (by omega)]
  repeat (first | refine sc rfl ?_ | refine so rfl ?_ | refine sb rfl ?_)
  exact ⟨_, _, _, rfl, rfl, rfl, rfl, rfl, rfl⟩

end Go.Proofs

/- Contracts: the reader's methods. -/
set_option linter.unusedSimpArgs false
set_option linter.unusedVariables false
set_option maxRecDepth 100000
namespace Go.Proofs
open Go.Sy Go.Lib

theorem tk_zero {l : List UInt8} (h : (tk l).2.2 ≠ 0) : tk l = (0, 0, (tk l).2.2) := by
  obtain ⟨h1, h2⟩ := tkS_err 10 false l h
  exact Prod.ext h1 (Prod.ext h2 rfl)

theorem IntF_p (l : List UInt8) (hl : l.length ≤ 9223372036854775000) : FnP Tryd.prog 73 [.s l, .cp [I64 1048576]]
    (· = .tup [I64 (IntKind.i64.wrap ((tk l).1 : Nat)), I64 ((tk l).2.1 : Nat), I64 (if (tk l).2.2 = 0 ∧ 1048576 < (tk l).1 then 3 else (tk l).2.2)]) := by
  refine FnP.intro Tryd.tabOK Tryd.wide_ Tryd.func73 rfl (by decide) rfl (fun X => ?_)
  repeat (first | refine sc rfl ?_ | refine so rfl ?_ | refine sb rfl ?_)
  refine O_call (vTake_p l hl) (by rfl) (by rfl) (by rfl) (by rfl) (fun r hr => ?_)
  subst hr
  obtain ⟨n, k, e, ht⟩ : ∃ n k e, tk l = (n, k, e) := ⟨_, _, _, rfl⟩
  rw [ht]
  simp only []
  repeat (first | refine sc rfl ?_ | refine so rfl ?_ | refine sb rfl ?_)
  refine O_join ⟨[(6, U64 (n : Nat)), (7, I64 (k : Nat)), (8, I64 e), (23, B (decide (e = 0 ∧ 1048576 < n)))], []⟩ ?_ (fun s h => C_le _ h ?_)
  · have fin2 : ∀ x : Bool, x = decide (e = 0 ∧ 1048576 < n) → some (B x) = some (B (decide (e = 0 ∧ 1048576 < n))) := fun x hb => by rw [hb]
    refine O_case 17 rfl (fun h5 => ?_) (fun h5 => ?_) <;> simp at h5 <;> repeat (first | refine sc rfl ?_ | refine so rfl ?_ | refine sb rfl ?_)
    · rw [show IntKind.u64.wrap (max 1048576 0) = 1048576 by decide]
      refine Le.sub [] ⟨rfl, rfl, rfl, fin2 _ ?_, trivial⟩ rfl
      rw [Bool.eq_iff_iff, decide_eq_true_eq, decide_eq_true_eq]
      omega
    · exact Le.sub [] ⟨rfl, rfl, rfl, fin2 _ (by rw [Bool.eq_iff_iff]; simp; omega), trivial⟩ rfl
  refine C_ifJ ⟨[(6, U64 (n : Nat)), (7, I64 (k : Nat)), (8, I64 (if e = 0 ∧ 1048576 < n then 3 else e))], []⟩ rfl (fun h1 => ?_) (fun h1 => ?_) (fun s h => C_le _ h ?_)
  · rw [if_pos (of_decide_eq_true h1)]
    repeat (first | refine sc rfl ?_ | refine so rfl ?_ | refine sb rfl ?_)
    exact Le.sub [] ⟨rfl, rfl, rfl, trivial⟩ rfl
  · rw [if_neg (of_decide_eq_false h1)]
    repeat (first | refine sc rfl ?_ | refine so rfl ?_ | refine sb rfl ?_)
    exact Le.sub [] ⟨rfl, rfl, rfl, trivial⟩ rfl
  repeat (first | refine sc rfl ?_ | refine so rfl ?_ | refine sb rfl ?_)
  exact ⟨_, rfl, rfl, rfl⟩

theorem RestF_p (l : List UInt8) : FnP Tryd.prog 77 [.s l] (· = .tup [.s l, I64 (l.length : Nat), I64 0]) := by
  refine FnP.intro Tryd.tabOK Tryd.wide_ Tryd.func77 rfl (by decide) rfl (fun X => ?_)
  repeat (first | refine sc rfl ?_ | refine so rfl ?_ | refine sb rfl ?_)
  exact ⟨_, rfl, rfl, rfl⟩

theorem Read_p (l : List UInt8) : FnNew Tryd.prog 43 98 [.s l] (· = [.s l, I64 0, I64 0]) := by
  refine FnNew.intro Tryd.tabOK Tryd.wide_ Tryd.func43 rfl (by decide) rfl (fun X => ?_)
  repeat (first | refine sc rfl ?_ | refine so rfl ?_ | refine sb rfl ?_)
  exact ⟨5, _, _, rfl, rfl, rfl, rfl⟩

/-- What a number up to the greatest status is. -/
theorem Int_ok (b : List UInt8) (n k : Nat) (ht : tk b = (n, k, 0)) (hn : n ≤ 1048576) (hb : b.length ≤ 9223372036854775000) :
    FnBox Tryd.prog 44 98 [.s b, I64 0, I64 0] [I64 1048576] (fun r cells => r = I64 (n : Nat) ∧ cells = [.s b, I64 (k : Nat), I64 0]) := by
  have hk := tk_take ht
  refine FnBox.intro Tryd.tabOK Tryd.wide_ Tryd.func44 rfl (by decide) rfl rfl (fun X => ?_)
  repeat (first | refine sc rfl ?_ | refine so rfl ?_ | refine sb rfl ?_)
  refine O_le _ (Le.freezebox 3 rfl rfl rfl) ?_
  repeat (first | refine sc rfl ?_ | refine so rfl ?_ | refine sb rfl ?_)
  refine O_makeFunc rfl rfl rfl rfl ?_
  repeat (first | refine sc rfl ?_ | refine so rfl ?_ | refine sb rfl ?_)
  have hI := IntF_p b hb
  rw [ht] at hI
  rw [if_neg (show ¬ (((n, k, (0 : Int)) : TK).2.2 = 0 ∧ 1048576 < ((n, k, (0 : Int)) : TK).1) from fun h => by have h2 : 1048576 < n := h.2; omega)] at hI
  simp only [] at hI
  rw [w64 (by omega) (by omega)] at hI
  refine O_callBox (takeI_ok b 0 (cloRP 73 [.cp [I64 1048576]]) 73 [.cp [I64 1048576]] k n (isClo_p _ _) rfl (by omega) hI (by omega) hb) rfl rfl rfl rfl rfl rfl rfl rfl (fun r cells hp => ?_)
  obtain ⟨rfl, rfl⟩ := hp
  rw [Nat.zero_add]
  repeat (first | refine sc rfl ?_ | refine so rfl ?_ | refine sb rfl ?_)
  exact ⟨_, _, _, rfl, rfl, rfl, rfl, rfl, rfl⟩
theorem Int_err (b : List UInt8) (ht : (tk b).2.2 ≠ 0 ∨ 1048576 < (tk b).1) (hb : b.length ≤ 9223372036854775000) :
    FnBox Tryd.prog 44 98 [.s b, I64 0, I64 0] [I64 1048576] (fun r cells => ∃ e : Int, e ≠ 0 ∧ r = I64 0 ∧ cells = [.s b, I64 0, I64 e]) := by
  refine FnBox.intro Tryd.tabOK Tryd.wide_ Tryd.func44 rfl (by decide) rfl rfl (fun X => ?_)
  repeat (first | refine sc rfl ?_ | refine so rfl ?_ | refine sb rfl ?_)
  refine O_le _ (Le.freezebox 3 rfl rfl rfl) ?_
  repeat (first | refine sc rfl ?_ | refine so rfl ?_ | refine sb rfl ?_)
  refine O_makeFunc rfl rfl rfl rfl ?_
  repeat (first | refine sc rfl ?_ | refine so rfl ?_ | refine sb rfl ?_)
  have hI := IntF_p b hb
  have he : (if (tk b).2.2 = 0 ∧ 1048576 < (tk b).1 then 3 else (tk b).2.2) ≠ 0 := by
    split
    · decide
    · rename_i h; rcases ht with h2 | h2
      · exact h2
      · intro h3; exact h ⟨h3, h2⟩
  refine O_callBox (takeI_err b 0 (cloRP 73 [.cp [I64 1048576]]) 73 [.cp [I64 1048576]] ((tk b).2.1 : Nat) _ _ (isClo_p _ _) rfl (by omega) hI he) rfl rfl rfl rfl rfl rfl rfl rfl (fun r cells hp => ?_)
  obtain ⟨rfl, rfl⟩ := hp
  repeat (first | refine sc rfl ?_ | refine so rfl ?_ | refine sb rfl ?_)
  exact ⟨_, _, _, rfl, rfl, rfl, rfl, _, he, rfl, rfl⟩

theorem Num_stop (b : List UInt8) (at_ : Nat) (e : Int) (he : e ≠ 0) :
    FnBox Tryd.prog 45 98 [.s b, I64 (at_ : Nat), I64 e] [] (fun r cells => r = U64 0 ∧ cells = [.s b, I64 (at_ : Nat), I64 e]) := by
  refine FnBox.intro Tryd.tabOK Tryd.wide_ Tryd.func45 rfl (by decide) rfl rfl (fun X => ?_)
  repeat (first | refine sc rfl ?_ | refine so rfl ?_ | refine sb rfl ?_)
  refine O_callBox (takeU_stop b at_ e (.func (.func 74) #[] #[]) he) rfl rfl rfl rfl rfl rfl rfl rfl (fun r cells hp => ?_)
  obtain ⟨rfl, rfl⟩ := hp
  repeat (first | refine sc rfl ?_ | refine so rfl ?_ | refine sb rfl ?_)
  exact ⟨_, _, _, rfl, rfl, rfl, rfl, rfl, rfl⟩
theorem Num_ok (b : List UInt8) (at_ n k : Nat) (hat : at_ ≤ b.length) (ht : tk (b.drop at_) = (n, k, 0)) (hb : b.length ≤ 9223372036854775000) :
    FnBox Tryd.prog 45 98 [.s b, I64 (at_ : Nat), I64 0] [] (fun r cells => r = U64 (n : Nat) ∧ cells = [.s b, I64 ((at_ + k : Nat) : Int), I64 0]) := by
  have hk := tk_take ht
  rw [List.length_drop] at hk
  refine FnBox.intro Tryd.tabOK Tryd.wide_ Tryd.func45 rfl (by decide) rfl rfl (fun X => ?_)
  repeat (first | refine sc rfl ?_ | refine so rfl ?_ | refine sb rfl ?_)
  have hI := vTake_p (b.drop at_) (by rw [List.length_drop]; omega)
  rw [ht] at hI
  refine O_callBox (takeU_ok b at_ (.func (.func 74) #[] #[]) 74 [] k n (isClo_func _) rfl hat hI (by omega) hb) rfl rfl rfl rfl rfl rfl rfl rfl (fun r cells hp => ?_)
  obtain ⟨rfl, rfl⟩ := hp
  repeat (first | refine sc rfl ?_ | refine so rfl ?_ | refine sb rfl ?_)
  exact ⟨_, _, _, rfl, rfl, rfl, rfl, rfl, rfl⟩
theorem Num_err (b : List UInt8) (at_ : Nat) (hat : at_ ≤ b.length) (ht : (tk (b.drop at_)).2.2 ≠ 0) (hb : b.length ≤ 9223372036854775000) :
    FnBox Tryd.prog 45 98 [.s b, I64 (at_ : Nat), I64 0] [] (fun r cells => ∃ e : Int, e ≠ 0 ∧ r = U64 0 ∧ cells = [.s b, I64 (at_ : Nat), I64 e]) := by
  refine FnBox.intro Tryd.tabOK Tryd.wide_ Tryd.func45 rfl (by decide) rfl rfl (fun X => ?_)
  repeat (first | refine sc rfl ?_ | refine so rfl ?_ | refine sb rfl ?_)
  have hI := vTake_p (b.drop at_) (by rw [List.length_drop]; omega)
  refine O_callBox (takeU_err b at_ (.func (.func 74) #[] #[]) 74 [] _ _ _ (isClo_func _) rfl hat hI ht) rfl rfl rfl rfl rfl rfl rfl rfl (fun r cells hp => ?_)
  obtain ⟨rfl, rfl⟩ := hp
  repeat (first | refine sc rfl ?_ | refine so rfl ?_ | refine sb rfl ?_)
  exact ⟨_, _, _, rfl, rfl, rfl, rfl, _, ht, rfl, rfl⟩

theorem Rest_stop (b : List UInt8) (at_ : Nat) (e : Int) (he : e ≠ 0) :
    FnBox Tryd.prog 46 98 [.s b, I64 (at_ : Nat), I64 e] [] (fun r cells => r = .s [] ∧ cells = [.s b, I64 (at_ : Nat), I64 e]) := by
  refine FnBox.intro Tryd.tabOK Tryd.wide_ Tryd.func46 rfl (by decide) rfl rfl (fun X => ?_)
  repeat (first | refine sc rfl ?_ | refine so rfl ?_ | refine sb rfl ?_)
  refine O_callBox (takeS_stop b at_ e (.func (.func 77) #[] #[]) he) rfl rfl rfl rfl rfl rfl rfl rfl (fun r cells hp => ?_)
  obtain ⟨rfl, rfl⟩ := hp
  repeat (first | refine sc rfl ?_ | refine so rfl ?_ | refine sb rfl ?_)
  exact ⟨_, _, _, rfl, rfl, rfl, rfl, rfl, rfl⟩
theorem Rest_ok (b : List UInt8) (at_ : Nat) (hat : at_ ≤ b.length) (hb : b.length ≤ 9223372036854775000) :
    FnBox Tryd.prog 46 98 [.s b, I64 (at_ : Nat), I64 0] [] (fun r cells => r = .s (b.drop at_) ∧ cells = [.s b, I64 ((b.length : Nat) : Int), I64 0]) := by
  refine FnBox.intro Tryd.tabOK Tryd.wide_ Tryd.func46 rfl (by decide) rfl rfl (fun X => ?_)
  repeat (first | refine sc rfl ?_ | refine so rfl ?_ | refine sb rfl ?_)
  refine O_callBox (takeS_ok b at_ (.func (.func 77) #[] #[]) 77 [] (b.drop at_).length (b.drop at_) (isClo_func _) rfl hat (RestF_p _) (by rw [List.length_drop]; omega) hb) rfl rfl rfl rfl rfl rfl rfl rfl (fun r cells hp => ?_)
  obtain ⟨rfl, rfl⟩ := hp
  rw [show at_ + (b.drop at_).length = b.length by rw [List.length_drop]; omega]
  repeat (first | refine sc rfl ?_ | refine so rfl ?_ | refine sb rfl ?_)
  exact ⟨_, _, _, rfl, rfl, rfl, rfl, rfl, rfl⟩

theorem Done_err (b : List UInt8) (at_ : Nat) (e : Int) (he : e ≠ 0) :
    FnBox Tryd.prog 47 98 [.s b, I64 (at_ : Nat), I64 e] [] (fun r cells => r = I64 e ∧ cells = [.s b, I64 (at_ : Nat), I64 e]) := by
  refine FnBox.intro Tryd.tabOK Tryd.wide_ Tryd.func47 rfl (by decide) rfl rfl (fun X => ?_)
  repeat (first | refine sc rfl ?_ | refine so rfl ?_ | refine sb rfl ?_ | refine C_scope ?_)
  refine O_isnil Tryd.underlying61 rfl rfl rfl ?_
  repeat (first | refine sc rfl ?_ | refine so rfl ?_ | refine sb rfl ?_ | refine C_scope ?_)
  refine C_false rfl rfl ?_
  repeat (first | refine sc rfl ?_ | refine so rfl ?_ | refine sb rfl ?_ | refine C_scope ?_)
  refine C_true rfl (by simpa using he) ?_
  repeat (first | refine sc rfl ?_ | refine so rfl ?_ | refine sb rfl ?_ | refine C_scope ?_)
  exact ⟨_, _, _, rfl, rfl, rfl, rfl, rfl, rfl⟩
theorem Done_ok (b : List UInt8) (hb : b.length ≤ 9223372036854775000) :
    FnBox Tryd.prog 47 98 [.s b, I64 ((b.length : Nat) : Int), I64 0] [] (fun r cells => r = I64 0 ∧ cells = [.s b, I64 ((b.length : Nat) : Int), I64 0]) := by
  refine FnBox.intro Tryd.tabOK Tryd.wide_ Tryd.func47 rfl (by decide) rfl rfl (fun X => ?_)
  repeat (first | refine sc rfl ?_ | refine so rfl ?_ | refine sb rfl ?_ | refine C_scope ?_)
  refine O_isnil Tryd.underlying61 rfl rfl rfl ?_
  repeat (first | refine sc rfl ?_ | refine so rfl ?_ | refine sb rfl ?_ | refine C_scope ?_)
  refine C_false rfl rfl ?_
  repeat (first | refine sc rfl ?_ | refine so rfl ?_ | refine sb rfl ?_ | refine C_scope ?_)
  refine C_false rfl rfl ?_
  repeat (first | refine sc rfl ?_ | refine so rfl ?_ | refine sb rfl ?_ | refine C_scope ?_)
  refine C_drawD rfl (by kernel_rfl) ?_
  repeat (first | refine sd rfl ?_)
  refine C_false rfl (by simp) ?_
  repeat (first | refine sc rfl ?_ | refine so rfl ?_ | refine sb rfl ?_ | refine C_scope ?_)
  exact ⟨_, _, _, rfl, rfl, rfl, rfl, rfl, rfl⟩
end Go.Proofs

/- Contracts: frame.Head, frame.Take, reply.Take. -/
set_option linter.unusedSimpArgs false
set_option linter.unusedVariables false
set_option maxRecDepth 100000
namespace Go.Proofs
open Go.Sy Go.Lib

def lenB (b : List UInt8) : Nat := by_ b 2 * 256 + by_ b 3
theorem lenB_lt (b : List UInt8) : lenB b < 65536 := by
  have := by_lt b 2; have := by_lt b 3; unfold lenB; omega
theorem lenB_prog (b : List UInt8) : bitsV .or .i64 (IntKind.i64.wrap (IntKind.i64.wrap ((b.getD (Int.toNat 2) 0).toNat : Int) * 2 ^ min (Int.toNat 8) IntKind.i64.bits)) (IntKind.i64.wrap ((b.getD (Int.toNat 3) 0).toNat : Int)) = (lenB b : Int) := by
  have h0 := by_lt b 2
  have h1 := by_lt b 3
  rw [show (2 : Int) ^ min (Int.toNat 8) IntKind.i64.bits = 256 by decide]
  show bitsV .or .i64 (IntKind.i64.wrap (IntKind.i64.wrap (by_ b 2 : Int) * 256)) (IntKind.i64.wrap (by_ b 3 : Int)) = _
  rw [w64 (x := (by_ b 2 : Int)) (by omega) (by omega), w64 (x := (by_ b 3 : Int)) (by omega) (by omega), w64 (by omega) (by omega), show ((by_ b 2 : Int) * 256) = ((by_ b 2 * 256 : Nat) : Int) by omega, or8 _ _ (by omega) h1]
  rfl
theorem byte_prog (b : List UInt8) (i : Nat) : IntKind.i64.wrap ((b.getD i 0).toNat : Int) = (by_ b i : Int) := by
  have := by_lt b i
  rw [getD_by, w64 (by omega) (by omega)]

def headE (b : List UInt8) : Int := if b.length < 4 then 2 else if ¬ (1 ≤ by_ b 0 ∧ by_ b 0 ≤ 9) then 4 else if 1024 < lenB b then 3 else 0
def headA (b : List UInt8) : AV := if headE b = 0 then .tup [I64 (by_ b 0 : Nat), I64 (by_ b 1 : Nat), I64 (lenB b : Nat), I64 0] else .tup [I64 0, I64 0, I64 0, I64 (headE b)]

theorem Head_p (b : List UInt8) (hb : b.length ≤ 9223372036854775000) : FnP Tryd.prog 71 [.s b] (· = headA b) := by
  refine FnP.intro Tryd.tabOK Tryd.wide_ Tryd.func71 rfl (by decide) rfl (fun X => ?_)
  have fin : ∀ e : Int, headE b = e → e ≠ 0 → AV.tup [I64 0, I64 0, I64 0, I64 e] = headA b := fun e h h0 => by
    unfold headA; rw [if_neg (by rw [h]; exact h0), h]
  repeat (first | refine sc rfl ?_ | refine so rfl ?_ | refine sb rfl ?_ | refine C_scope ?_)
  refine C_if rfl (fun h => ?_) (fun h => ?_) <;> simp only [decide_eq_true_eq, decide_eq_false_iff_not] at h
  · repeat (first | refine sc rfl ?_ | refine so rfl ?_ | refine sb rfl ?_)
    exact ⟨_, rfl, rfl, fin 2 (by unfold headE; rw [if_pos (by omega)]) (by decide)⟩
  repeat (first | refine sc rfl ?_ | refine so rfl ?_ | refine sb rfl ?_ | refine C_scope ?_)
  refine C_drawD rfl (by kernel_rfl) ?_
  repeat (first | refine sd rfl ?_ | refine And.intro (by omega) ?_ | refine And.intro (by decide) ?_)
  rw [lenB_prog, show IntKind.i64.wrap ((b.getD (Int.toNat 0) 0).toNat : Int) = (by_ b 0 : Int) from byte_prog b 0]
  have hl := lenB_lt b
  have h0 := by_lt b 0
  repeat (first | refine sc rfl ?_ | refine so rfl ?_ | refine sb rfl ?_ | refine C_scope ?_)
  refine O_call (known_p (by_ b 0 : Int)) (by rfl) (by rfl) (by rfl) (by rfl) (fun r hr => ?_)
  subst hr
  repeat (first | refine sc rfl ?_ | refine so rfl ?_ | refine sb rfl ?_ | refine C_scope ?_)
  refine C_if rfl (fun h1 => ?_) (fun h1 => ?_) <;> simp only [Bool.not_eq_true', Bool.not_eq_false', decide_eq_true_eq, decide_eq_false_iff_not] at h1
  · repeat (first | refine sc rfl ?_ | refine so rfl ?_ | refine sb rfl ?_ | refine C_scope ?_)
    exact ⟨_, rfl, rfl, fin 4 (by unfold headE; rw [if_neg (by omega), if_pos (by omega)]) (by decide)⟩
  repeat (first | refine sc rfl ?_ | refine so rfl ?_ | refine sb rfl ?_ | refine C_scope ?_)
  refine C_if rfl (fun h2 => ?_) (fun h2 => ?_) <;> simp only [decide_eq_true_eq, decide_eq_false_iff_not] at h2
  · repeat (first | refine sc rfl ?_ | refine so rfl ?_ | refine sb rfl ?_ | refine C_scope ?_)
    exact ⟨_, rfl, rfl, fin 3 (by unfold headE; rw [if_neg (by omega), if_neg (by omega), if_pos (by omega)]) (by decide)⟩
  repeat (first | refine sc rfl ?_ | refine so rfl ?_ | refine sb rfl ?_ | refine C_scope ?_)
  refine C_drawD rfl (by kernel_rfl) ?_
  repeat (first | refine sd rfl ?_ | refine And.intro (by omega) ?_ | refine And.intro (by decide) ?_)
  rw [show IntKind.i64.wrap ((b.getD (Int.toNat 1) 0).toNat : Int) = (by_ b 1 : Int) from byte_prog b 1]
  repeat (first | refine sc rfl ?_ | refine so rfl ?_ | refine sb rfl ?_ | refine C_scope ?_)
  refine ⟨_, rfl, rfl, ?_⟩
  have h3 : headE b = 0 := by unfold headE; rw [if_neg (by omega), if_neg (by omega), if_neg (by omega)]
  unfold headA
  rw [if_pos h3]

def frE (b : List UInt8) : Int := if headE b = 0 then (if b.length - 4 < lenB b then 2 else 0) else headE b
def frA (b : List UInt8) : AV := if frE b = 0 then .tup [.agg [I64 (by_ b 0 : Nat), I64 (by_ b 1 : Nat), .s ((b.drop 4).take (lenB b))], I64 ((4 + lenB b : Nat) : Int), I64 0] else .tup [.agg [I64 0, I64 0, .s []], I64 0, I64 (frE b)]

theorem fTake_p (b : List UInt8) (hb : b.length ≤ 9223372036854775000) : FnP Tryd.prog 42 [.s b] (· = frA b) := by
  refine FnP.intro Tryd.tabOK Tryd.wide_ Tryd.func42 rfl (by decide) rfl (fun X => ?_)
  have fin : ∀ e : Int, frE b = e → e ≠ 0 → AV.tup [.agg [I64 0, I64 0, .s []], I64 0, I64 e] = frA b := fun e h h0 => by
    unfold frA; rw [if_neg (by rw [h]; exact h0), h]
  have hl := lenB_lt b
  repeat (first | refine sc rfl ?_ | refine so rfl ?_ | refine sb rfl ?_ | refine C_scope ?_)
  refine O_call (Head_p b hb) (by rfl) (by rfl) (by rfl) (by rfl) (fun r hr => ?_)
  subst hr
  by_cases h0 : headE b = 0
  · have h4 : 4 ≤ b.length := by
      unfold headE at h0
      split at h0
      · cases h0
      · omega
    rw [show headA b = .tup [I64 (by_ b 0 : Nat), I64 (by_ b 1 : Nat), I64 (lenB b : Nat), I64 0] by unfold headA; rw [if_pos h0]]
    repeat (first | refine sc rfl ?_ | refine so rfl ?_ | refine sb rfl ?_ | refine C_scope ?_)
    refine C_false rfl rfl ?_
    repeat (first | refine sc rfl ?_ | refine so rfl ?_ | refine sb rfl ?_ | refine C_scope ?_)
    rw [w64 (x := (b.length : Int) - 4) (by omega) (by omega)]
    refine C_if rfl (fun h2 => ?_) (fun h2 => ?_) <;> simp only [decide_eq_true_eq, decide_eq_false_iff_not] at h2
    · repeat (first | refine sc rfl ?_ | refine so rfl ?_ | refine sb rfl ?_ | refine C_scope ?_)
      exact ⟨_, rfl, rfl, fin 2 (by unfold frE; rw [if_pos h0, if_pos (by omega)]) (by decide)⟩
    · repeat (first | refine sc rfl ?_ | refine so rfl ?_ | refine sb rfl ?_ | refine C_scope ?_)
      rw [w64 (by omega) (by omega)]
      repeat (first | refine sc rfl ?_ | refine so rfl ?_ | refine sb rfl ?_ | refine C_scope ?_ | refine And.intro (by omega) ?_)
      refine ⟨_, rfl, rfl, ?_⟩
      have h3 : frE b = 0 := by unfold frE; rw [if_pos h0, if_neg (by omega)]
      unfold frA
      rw [if_pos h3, show ((4 : Int) + (lenB b : Int)).toNat - Int.toNat 4 = lenB b by omega]
      rfl
  · rw [show headA b = .tup [I64 0, I64 0, I64 0, I64 (headE b)] by unfold headA; rw [if_neg h0]]
    repeat (first | refine sc rfl ?_ | refine so rfl ?_ | refine sb rfl ?_ | refine C_scope ?_)
    refine C_true rfl (by simpa using h0) ?_
    repeat (first | refine sc rfl ?_ | refine so rfl ?_ | refine sb rfl ?_ | refine C_scope ?_)
    exact ⟨_, rfl, rfl, fin _ (by unfold frE; rw [if_neg h0]) h0⟩
end Go.Proofs

/- Contracts: reply.Take. -/
set_option linter.unusedSimpArgs false
set_option linter.unusedVariables false
set_option maxRecDepth 100000
namespace Go.Proofs
open Go.Sy Go.Lib

def hdr (b : List UInt8) : Bool := decide (4 ≤ b.length ∧ by_ b 0 = 9 ∧ by_ b 1 = 0 ∧ lenB b ≤ 1024 ∧ 4 + lenB b = b.length)
/-- The reply of bytes: its id, its status, its data. -/
def tkR (b : List UInt8) : Option (Nat × Nat × List UInt8) :=
  if hdr b ∧ upOK (b.drop 4) then
    (if (tk (unpL (b.drop 4))).2.2 = 0 ∧ (tk (unpL (b.drop 4))).1 ≤ 1048576 then
      (if (tk ((unpL (b.drop 4)).drop (tk (unpL (b.drop 4))).2.1)).2.2 = 0 then
        some ((tk ((unpL (b.drop 4)).drop (tk (unpL (b.drop 4))).2.1)).1, (tk (unpL (b.drop 4))).1, (unpL (b.drop 4)).drop ((tk (unpL (b.drop 4))).2.1 + (tk ((unpL (b.drop 4)).drop (tk (unpL (b.drop 4))).2.1)).2.1))
      else none)
    else none)
  else none
def rA : Option (Nat × Nat × List UInt8) → AV
  | none => .tup [.agg [U64 0, I64 0, .s []], I64 1]
  | some (id, st, d) => .tup [.agg [U64 (id : Nat), I64 (st : Nat), .s d], I64 0]

theorem frA_of (b : List UInt8) : (frE b = 0 ∧ frA b = .tup [.agg [I64 (by_ b 0 : Nat), I64 (by_ b 1 : Nat), .s ((b.drop 4).take (lenB b))], I64 ((4 + lenB b : Nat) : Int), I64 0]) ∨
    (frE b ≠ 0 ∧ frA b = .tup [.agg [I64 0, I64 0, .s []], I64 0, I64 (frE b)]) := by
  by_cases h : frE b = 0
  · left; exact ⟨h, by unfold frA; rw [if_pos h]⟩
  · right; exact ⟨h, by unfold frA; rw [if_neg h]⟩
theorem hdr_of {b : List UInt8} (h : frE b ≠ 0) : hdr b = false := by
  unfold hdr; rw [decide_eq_false_iff_not]
  rintro ⟨h1, h2, h3, h4, h5⟩
  apply h
  have h6 : headE b = 0 := by unfold headE; rw [if_neg (by omega), if_neg (by omega), if_neg (by omega)]
  unfold frE
  rw [if_pos h6, if_neg (by omega)]
theorem frE_zero {b : List UInt8} (h : frE b = 0) : 4 ≤ b.length ∧ 1 ≤ by_ b 0 ∧ by_ b 0 ≤ 9 ∧ lenB b ≤ 1024 ∧ lenB b ≤ b.length - 4 := by
  unfold frE at h
  split at h
  · rename_i h1
    unfold headE at h1
    split at h1
    · cases h1
    · split at h1
      · cases h1
      · split at h1
        · cases h1
        · split at h
          · cases h
          · omega
  · rename_i h1; exact absurd h h1
theorem unp_len (b : List UInt8) : (unpL b).length ≤ b.length := by
  unfold unpL; split
  · rw [List.length_take, List.length_drop]; omega
  · simp

theorem rTake_p (b : List UInt8) (hb : b.length ≤ 9223372036854775000) : FnP Tryd.prog 27 [.s b] (· = rA (tkR b)) := by
  refine FnP.intro Tryd.tabOK Tryd.wide_ Tryd.func27 rfl (by decide) rfl (fun X => ?_)
  have fin : tkR b = none → AV.tup [.agg [U64 0, I64 0, .s []], I64 1] = rA (tkR b) := fun h => by rw [h]; rfl
  have hl := lenB_lt b
  have b0 := by_lt b 0
  have b1 := by_lt b 1
  repeat (first | refine sc rfl ?_ | refine so rfl ?_ | refine sb rfl ?_)
  refine O_call (fTake_p b hb) (by rfl) (by rfl) (by rfl) (by rfl) (fun r hr => ?_)
  subst hr
  rcases frA_of b with ⟨hE, hA⟩ | ⟨hE, hA⟩
  case inr =>
    rw [hA]
    repeat (first | refine sc rfl ?_ | refine so rfl ?_ | refine sb rfl ?_)
    refine O_true 20 rfl (by simpa using hE) ?_
    repeat (first | refine sc rfl ?_ | refine so rfl ?_ | refine sb rfl ?_)
    refine C_true rfl rfl ?_
    repeat (first | refine sc rfl ?_ | refine so rfl ?_ | refine sb rfl ?_)
    refine ⟨_, rfl, rfl, fin ?_⟩
    unfold tkR
    rw [if_neg (by rw [hdr_of hE]; simp)]
  case inl =>
    have hz := frE_zero hE
    rw [hA]
    repeat (first | refine sc rfl ?_ | refine so rfl ?_ | refine sb rfl ?_)
    refine O_join ⟨[(2, .bp 2 0), (3, I64 0), (4, .bp 4 0), (35, B (!hdr b))], [.box 4 58 [I64 (by_ b 0 : Nat), I64 (by_ b 1 : Nat), .s ((b.drop 4).take (lenB b))], .box 2 35 [U64 0, I64 0, .s []]]⟩ ?_ (fun s h => C_le _ h ?_)
    · have fin2 : ∀ x : Bool, x = (!hdr b) → some (B x) = some (B (!hdr b)) := fun x hb => by rw [hb]
      have hbad : ¬ (by_ b 0 = 9 ∧ by_ b 1 = 0 ∧ 4 + lenB b = b.length) → (!hdr b) = true := fun h => by
        have : hdr b = false := by unfold hdr; rw [decide_eq_false_iff_not]; omega
        rw [this]; rfl
      refine O_case 26 rfl (fun h5 => ?_) (fun h5 => ?_) <;> simp at h5 <;> repeat (first | refine sc rfl ?_ | refine so rfl ?_ | refine sb rfl ?_)
      · exact Le.sub [4, 2] ⟨rfl, rfl, rfl, fin2 _ (hbad (by omega)).symm, trivial⟩ rfl
      · refine O_case 31 rfl (fun h6 => ?_) (fun h6 => ?_) <;> simp at h6 <;> repeat (first | refine sc rfl ?_ | refine so rfl ?_ | refine sb rfl ?_)
        · exact Le.sub [4, 2] ⟨rfl, rfl, rfl, fin2 _ (hbad (by omega)).symm, trivial⟩ rfl
        · refine Le.sub [4, 2] ⟨rfl, rfl, rfl, fin2 _ ?_, trivial⟩ rfl
          by_cases h7 : by_ b 1 = 0
          · have : hdr b = true := by unfold hdr; rw [decide_eq_true_eq]; omega
            rw [this, h7]; rfl
          · rw [hbad (by omega)]
            simp; omega
    refine C_if rfl (fun h1 => ?_) (fun h1 => ?_) <;> simp only [Bool.not_eq_true', Bool.not_eq_false'] at h1
    · repeat (first | refine sc rfl ?_ | refine so rfl ?_ | refine sb rfl ?_)
      refine ⟨_, rfl, rfl, fin ?_⟩
      unfold tkR
      rw [if_neg (by rw [h1]; simp)]
    have h1' := h1
    unfold hdr at h1'
    rw [decide_eq_true_eq] at h1'
    obtain ⟨q1, q2, q3, q4, q5⟩ := h1'
    have hbody : (b.drop 4).take (lenB b) = b.drop 4 := List.take_of_length_le (by rw [List.length_drop]; omega)
    rw [hbody]
    repeat (first | refine sc rfl ?_ | refine so rfl ?_ | refine sb rfl ?_)
    refine O_call (Unpad_p (b.drop 4) (by rw [List.length_drop]; omega)) (by rfl) (by rfl) (by rfl) (by rfl) (fun r hr => ?_)
    subst hr
    repeat (first | refine sc rfl ?_ | refine so rfl ?_ | refine sb rfl ?_)
    by_cases hu : upOK (b.drop 4) = true
    case neg =>
      refine C_true rfl (by unfold unpE; rw [if_neg hu]; rfl) ?_
      repeat (first | refine sc rfl ?_ | refine so rfl ?_ | refine sb rfl ?_)
      refine ⟨_, rfl, rfl, fin ?_⟩
      unfold tkR
      rw [if_neg (fun h => hu h.2)]
    refine C_false rfl (by unfold unpE; rw [if_pos hu]; rfl) ?_
    have hsl := unp_len (b.drop 4)
    rw [List.length_drop] at hsl
    unfold tkR at fin ⊢
    rw [if_pos ⟨h1, hu⟩] at fin ⊢
    obtain ⟨s, hs⟩ : ∃ s, unpL (b.drop 4) = s := ⟨_, rfl⟩
    rw [hs] at fin hsl ⊢
    repeat (first | refine sc rfl ?_ | refine so rfl ?_ | refine sb rfl ?_)
    refine O_callNew (Read_p s) rfl rfl rfl rfl rfl rfl (fun cells hp _ => ?_) (fun cells hp => by rw [hp]; rfl)
    subst hp
    repeat (first | refine sc rfl ?_ | refine so rfl ?_ | refine sb rfl ?_)
    obtain ⟨st, k, e1, ht⟩ : ∃ n k e, tk s = (n, k, e) := ⟨_, _, _, rfl⟩
    by_cases hi : e1 = 0 ∧ st ≤ 1048576
    case neg =>
      rw [ht] at fin ⊢
      simp only [] at fin ⊢
      rw [if_neg hi] at fin ⊢
      refine O_callBox (Int_err s (by rw [ht]; simp only []; omega) (by omega)) rfl rfl rfl rfl rfl rfl rfl rfl (fun r cells hp => ?_)
      obtain ⟨e, he, rfl, rfl⟩ := hp
      repeat (first | refine sc rfl ?_ | refine so rfl ?_ | refine sb rfl ?_)
      refine O_callBox (Num_stop s 0 e he) rfl rfl rfl rfl rfl rfl rfl rfl (fun r cells hp => ?_)
      obtain ⟨rfl, rfl⟩ := hp
      repeat (first | refine sc rfl ?_ | refine so rfl ?_ | refine sb rfl ?_)
      refine O_callBox (Rest_stop s 0 e he) rfl rfl rfl rfl rfl rfl rfl rfl (fun r cells hp => ?_)
      obtain ⟨rfl, rfl⟩ := hp
      repeat (first | refine sc rfl ?_ | refine so rfl ?_ | refine sb rfl ?_)
      refine O_callBox (Done_err s 0 e he) rfl rfl rfl rfl rfl rfl rfl rfl (fun r cells hp => ?_)
      obtain ⟨rfl, rfl⟩ := hp
      repeat (first | refine sc rfl ?_ | refine so rfl ?_ | refine sb rfl ?_)
      refine C_true rfl (by simpa using he) ?_
      repeat (first | refine sc rfl ?_ | refine so rfl ?_ | refine sb rfl ?_)
      exact ⟨_, rfl, rfl, fin rfl⟩
    obtain ⟨rfl, hst⟩ := hi
    have hk := tk_take ht
    rw [ht] at fin ⊢
    simp only [] at fin ⊢
    rw [if_pos ⟨trivial, hst⟩] at fin ⊢
    refine O_callBox (Int_ok s st k ht hst (by omega)) rfl rfl rfl rfl rfl rfl rfl rfl (fun r cells hp => ?_)
    obtain ⟨rfl, rfl⟩ := hp
    repeat (first | refine sc rfl ?_ | refine so rfl ?_ | refine sb rfl ?_)
    obtain ⟨id, k2, e2, ht2⟩ : ∃ n j e, tk (s.drop k) = (n, j, e) := ⟨_, _, _, rfl⟩
    rw [ht2] at fin ⊢
    simp only [] at fin ⊢
    by_cases he2 : e2 = 0
    case neg =>
      rw [if_neg he2] at fin ⊢
      refine O_callBox (Num_err s k hk.2.2.1 (by rw [ht2]; exact he2) (by omega)) rfl rfl rfl rfl rfl rfl rfl rfl (fun r cells hp => ?_)
      obtain ⟨e, he, rfl, rfl⟩ := hp
      repeat (first | refine sc rfl ?_ | refine so rfl ?_ | refine sb rfl ?_)
      refine O_callBox (Rest_stop s k e he) rfl rfl rfl rfl rfl rfl rfl rfl (fun r cells hp => ?_)
      obtain ⟨rfl, rfl⟩ := hp
      repeat (first | refine sc rfl ?_ | refine so rfl ?_ | refine sb rfl ?_)
      refine O_callBox (Done_err s k e he) rfl rfl rfl rfl rfl rfl rfl rfl (fun r cells hp => ?_)
      obtain ⟨rfl, rfl⟩ := hp
      repeat (first | refine sc rfl ?_ | refine so rfl ?_ | refine sb rfl ?_)
      refine C_true rfl (by simpa using he) ?_
      repeat (first | refine sc rfl ?_ | refine so rfl ?_ | refine sb rfl ?_)
      exact ⟨_, rfl, rfl, fin rfl⟩
    subst he2
    rw [if_pos rfl] at fin ⊢
    have hk2 := tk_take ht2
    rw [List.length_drop] at hk2
    refine O_callBox (Num_ok s k id k2 hk.2.2.1 ht2 (by omega)) rfl rfl rfl rfl rfl rfl rfl rfl (fun r cells hp => ?_)
    obtain ⟨rfl, rfl⟩ := hp
    repeat (first | refine sc rfl ?_ | refine so rfl ?_ | refine sb rfl ?_)
    refine O_callBox (Rest_ok s (k + k2) (by omega) (by omega)) rfl rfl rfl rfl rfl rfl rfl rfl (fun r cells hp => ?_)
    obtain ⟨rfl, rfl⟩ := hp
    repeat (first | refine sc rfl ?_ | refine so rfl ?_ | refine sb rfl ?_)
    refine O_callBox (Done_ok s (by omega)) rfl rfl rfl rfl rfl rfl rfl rfl (fun r cells hp => ?_)
    obtain ⟨rfl, rfl⟩ := hp
    repeat (first | refine sc rfl ?_ | refine so rfl ?_ | refine sb rfl ?_)
    refine C_false rfl rfl ?_
    repeat (first | refine sc rfl ?_ | refine so rfl ?_ | refine sb rfl ?_)
    exact ⟨_, rfl, rfl, rfl⟩
end Go.Proofs

/- The plain law of replies: what is put is taken, and what is taken was put. -/
set_option linter.unusedSimpArgs false
set_option linter.unusedVariables false
set_option maxRecDepth 100000
namespace Go.Proofs
open Go.Sy Go.Lib

theorem hd4 (n : Nat) : [b8 9, b8 0, b8 ((n : Int) / 256), b8 (n : Int)] = [b8 9, b8 0] ++ hd2 (n : Int) := rfl
theorem take_drop_all {s : List UInt8} {k k2 : Nat} : s = s.take k ++ (s.drop k).take k2 ++ s.drop (k + k2) := by
  rw [← List.drop_drop, List.append_assoc, List.take_append_drop, List.take_append_drop]

/-- What is taken was put. -/
theorem put_of_take {b : List UInt8} {id st : Nat} {d : List UInt8} (h : tkR b = some (id, st, d)) : st ≤ 1048576 ∧ id < 18446744073709551616 ∧ rputE id (st : Int) d = 0 ∧ rputL id (st : Int) d = b := by
  unfold tkR at h
  split at h
  case isFalse => cases h
  rename_i h1
  split at h
  case isFalse => cases h
  rename_i h2
  split at h
  case isFalse => cases h
  rename_i h3
  obtain ⟨s, hs⟩ : ∃ s, unpL (b.drop 4) = s := ⟨_, rfl⟩
  rw [hs] at h h2 h3
  obtain ⟨n1, k, e1, ht⟩ : ∃ n k e, tk s = (n, k, e) := ⟨_, _, _, rfl⟩
  rw [ht] at h h2 h3
  obtain ⟨n2, k2, e2, ht2⟩ : ∃ n j e, tk (s.drop k) = (n, j, e) := ⟨_, _, _, rfl⟩
  simp only [] at h h2 h3
  rw [ht2] at h h3
  simp only [Option.some.injEq, Prod.mk.injEq] at h h3
  obtain ⟨rfl, rfl, rfl⟩ := h
  obtain ⟨rfl, hst⟩ := h2
  subst h3
  have t1 := tk_take ht
  have t2 := tk_take ht2
  obtain ⟨p1, p2, p3⟩ := pad_unp (b.drop 4) h1.2
  rw [hs] at p1 p2
  have hrp : rp n2 (n1 : Int) (s.drop (k + k2)) = s := by
    unfold rp
    rw [Int.toNat_natCast, ← t1.1, ← t2.1]
    exact take_drop_all.symm
  refine ⟨hst, t2.2.2.2, ?_, ?_⟩
  · rw [rput_is, if_pos (by omega), hrp, if_pos (by omega)]
  · have hE : rputE n2 (n1 : Int) (s.drop (k + k2)) = 0 := by rw [rput_is, if_pos (by omega), hrp, if_pos (by omega)]
    obtain ⟨-, -, -, hL⟩ := rput_ok hE
    rw [hL, hrp, p1]
    have hh := h1.1
    unfold hdr at hh
    rw [decide_eq_true_eq] at hh
    obtain ⟨q1, q2, q3, q4, q5⟩ := hh
    match b, q1 with
    | x :: y :: z :: w :: r, _ =>
      have e1 : x.toNat = 9 := q2
      have e2 : y.toNat = 0 := q3
      have e3 : lenB (x :: y :: z :: w :: r) = z.toNat * 256 + w.toNat := rfl
      rw [e3] at q4 q5
      simp only [List.length_cons] at q5
      have e4 : ((x :: y :: z :: w :: r).drop 4) = r := rfl
      rw [e4, hd4, show (r.length : Nat) = z.toNat * 256 + w.toNat by omega, hd2_of]
      have e5 : b8 9 = x := u8_of x 9 (by rw [e1]; rfl)
      have e6 : b8 0 = y := u8_of y 0 (by rw [e2]; rfl)
      rw [e5, e6]
      rfl

theorem hd2_by' (n : Nat) (h1 : n ≤ 1024) : ∃ x y : UInt8, hd2 (n : Int) = [x, y] ∧ x.toNat * 256 + y.toNat = n := by
  refine ⟨UInt8.ofNat (n / 256), UInt8.ofNat (n % 256), ?_, ?_⟩
  · have := hd2_of (UInt8.ofNat (n / 256)) (UInt8.ofNat (n % 256))
    rw [UInt8.toNat_ofNat', UInt8.toNat_ofNat', Nat.mod_eq_of_lt (by omega), Nat.mod_eq_of_lt (by omega)] at this
    rw [← this]
    congr 1
    omega
  · rw [UInt8.toNat_ofNat', UInt8.toNat_ofNat', Nat.mod_eq_of_lt (by omega), Nat.mod_eq_of_lt (by omega)]
    omega

/-- What is put is taken. -/
theorem take_of_put {n : Nat} {st : Int} {d : List UInt8} (hn : n < 18446744073709551616) (h : rputE n st d = 0) : tkR (rputL n st d) = some (n, st.toNat, d) := by
  obtain ⟨h1, h2, h3, hL⟩ := rput_ok h
  obtain ⟨u1, u2, u3⟩ := unp_pad _ h3
  have hpl := padL_le (rp n st d)
  have hp2 := pad_len (rp n st d) h3
  have hc := cls_bd (n := ((rp n st d).length : Int)) (by omega) (by omega)
  have hd4 : (rputL n st d).drop 4 = padL (rp n st d) := by rw [hL]; rfl
  have hlen : (rputL n st d).length = (padL (rp n st d)).length + 4 := by rw [hL]; simp
  obtain ⟨x, y, e1, e2⟩ := hd2_by' (padL (rp n st d)).length (by omega)
  have hlb : lenB (rputL n st d) = (padL (rp n st d)).length := by
    rw [hL]
    show (b8 ((padL (rp n st d)).length / 256)).toNat * 256 + (b8 (padL (rp n st d)).length).toNat = _
    have : [b8 (((padL (rp n st d)).length : Int) / 256), b8 ((padL (rp n st d)).length : Int)] = [x, y] := e1
    simp only [List.cons.injEq, and_true] at this
    rw [this.1, this.2]
    exact e2
  have hh : hdr (rputL n st d) = true := by
    unfold hdr
    rw [decide_eq_true_eq, hlb]
    refine ⟨by omega, by rw [hL]; rfl, by rw [hL]; rfl, hpl, by omega⟩
  have ht : tk (rp n st d) = (st.toNat, (vput st.toNat).length, 0) := by
    unfold rp
    rw [List.append_assoc]
    exact tk_put _ _ (by omega)
  have hdr1 : (rp n st d).drop (vput st.toNat).length = vput n ++ d := by
    unfold rp
    rw [List.append_assoc, List.drop_left]
  have ht2 : tk (vput n ++ d) = (n, (vput n).length, 0) := tk_put _ _ hn
  unfold tkR
  rw [hd4, if_pos ⟨hh, u2⟩, u3, ht]
  simp only []
  rw [hdr1, ht2, if_pos ⟨trivial, by omega⟩]
  simp only []
  rw [if_pos trivial, ← List.drop_drop, hdr1, List.drop_left]
end Go.Proofs

/- Two replies that are the same. -/
set_option linter.unusedSimpArgs false
set_option linter.unusedVariables false
namespace Go.Proofs
open Go.Sy
theorem stood35 : Tryd.prog.stoodInHeld 35 = false := by kernel_rfl
theorem eqIn_int {P : Program} {t : Nat} {k : IntKind} (h : P.underlying t = some (.int k)) (a : Int) (w : World) (d : Nat) : (Op.equalIn (d + 1) t (.int k a) (.int k a)).run P w = .ok true w := by
  simp [Op.equalIn, run_underlying h]
theorem eqIn_str {P : Program} {t : Nat} (h : P.underlying t = some .string) (a : List UInt8) (w : World) (d : Nat) : (Op.equalIn (d + 1) t (S a) (S a)).run P w = .ok true w := by
  simp [Op.equalIn, run_underlying h, S]
  rw [beq_toListBytes]
  exact beq_self_eq_true _
theorem eq35 (a b : Int) (l : List UInt8) (w : World) (d : Nat) : (Op.equalIn (d + 2) 35 (.agg #[.int .u64 a, .int .i64 b, S l]) (.agg #[.int .u64 a, .int .i64 b, S l])).run Tryd.prog w = .ok true w := by
  have h0 := eqIn_int Tryd.underlying31 a w d
  have h1 := eqIn_int Tryd.underlying26 b w d
  have h2 := eqIn_str Tryd.underlying9 l w d
  rw [Op.equalIn]
  simp only [Sem.run_bind, run_underlying Tryd.underlying35, Result.andThen_ok, run_program, stood35]
  simp [part, h0, h1, h2]
theorem eqv35 (a b : Int) (l : List UInt8) (w : World) : (Op.equal 35 (.agg #[.int .u64 a, .int .i64 b, S l]) (.agg #[.int .u64 a, .int .i64 b, S l])).run Tryd.prog w = .ok true w := eq35 a b l w 9998
theorem noGuard35 : Tryd.prog.eqGuardType Tryd.prog.depth 35 = false := by kernel_rfl
theorem bop35 (a b : Int) (l : List UInt8) (w : World) (x y : Operand) : (do eqGuard .eql 35 x y (.agg #[.int .u64 a, .int .i64 b, S l]) (.agg #[.int .u64 a, .int .i64 b, S l]); binOp .eql 35 (.agg #[.int .u64 a, .int .i64 b, S l]) (.agg #[.int .u64 a, .int .i64 b, S l]) : Sem Value).run Tryd.prog w = .ok (.bool true) w := by
  have h := eqv35 a b l w
  simp [eqGuard, binOp, h, noGuard35]
theorem bop35n (a b : Int) (l : List UInt8) (w : World) (x y : Operand) : (do eqGuard .neq 35 x y (.agg #[.int .u64 a, .int .i64 b, S l]) (.agg #[.int .u64 a, .int .i64 b, S l]); binOp .neq 35 (.agg #[.int .u64 a, .int .i64 b, S l]) (.agg #[.int .u64 a, .int .i64 b, S l]) : Sem Value).run Tryd.prog w = .ok (.bool false) w := by
  have h := eqv35 a b l w
  simp [eqGuard, binOp, h, noGuard35]
end Go.Proofs
namespace Go.Proofs
open Go.Sy
section
variable {X : Ctx Tryd.prog Tryd.tab} {n : Nat} {e : Env} {a : Act} {w : World} {ops : Array Oper} {K : St → Prop}
theorem rep_reply {e : Env} {x y : Int} {l : List UInt8} {v : Value} (h : Rep e (.agg [U64 x, I64 y, .s l]) v) : v = .agg #[.int .u64 x, .int .i64 y, S l] := by
  simp only [Rep, RepL] at h
  obtain ⟨ys, rfl, z1, zs1, h1, rfl, _, z2, zs2, h2, rfl, _, z3, zs3, h3, rfl, _, rfl⟩ := h
  congr 1
  apply Array.ext'
  rw [h1, h2, h3]
theorem D_ne35 {base : List (Nat × AV)} {c : List Ch} {done : Done} {dst : Nat} {xo yo : Operand} {u ty : TypeId} {pos : String} {aft : Array Edge} {gd : Option (Nat × Bool)} {rest : List Oper} {x y : Int} {l : List UInt8}
    (hx : opd (availL done aft.toList base) xo = some (.agg [U64 x, I64 y, .s l])) (hy : opd (availL done aft.toList base) yo = some (.agg [U64 x, I64 y, .s l]))
    (hg : guardA ops ⟨availL done aft.toList base, c⟩ ⟨some dst, .binOp .neq 35 xo yo u, ty, pos, aft, gd⟩ = some true) (hd : Nat.blt dst n = true)
    (k : SymD X n ops base c K rest (done ++ [(some dst, B false)])) : SymD X n ops base c K (⟨some dst, .binOp .neq 35 xo yo u, ty, pos, aft, gd⟩ :: rest) done :=
  D_val (B false) hg hd (fun e a w r => ⟨.bool false, by simp [Rep], fun w' _ => by
    have e1 := rep_reply (opd_sound r hx)
    have e2 := rep_reply (opd_sound r hy)
    have := bop35n x y l w' xo yo
    simp only [execOp, e1, e2]
    rw [Sem.run_bind, this]
    rfl⟩) k
theorem D_eq35 {base : List (Nat × AV)} {c : List Ch} {done : Done} {dst : Nat} {xo yo : Operand} {u ty : TypeId} {pos : String} {aft : Array Edge} {gd : Option (Nat × Bool)} {rest : List Oper} {x y : Int} {l : List UInt8}
    (hx : opd (availL done aft.toList base) xo = some (.agg [U64 x, I64 y, .s l])) (hy : opd (availL done aft.toList base) yo = some (.agg [U64 x, I64 y, .s l]))
    (hg : guardA ops ⟨availL done aft.toList base, c⟩ ⟨some dst, .binOp .eql 35 xo yo u, ty, pos, aft, gd⟩ = some true) (hd : Nat.blt dst n = true)
    (k : SymD X n ops base c K rest (done ++ [(some dst, B true)])) : SymD X n ops base c K (⟨some dst, .binOp .eql 35 xo yo u, ty, pos, aft, gd⟩ :: rest) done :=
  D_val (B true) hg hd (fun e a w r => ⟨.bool true, by simp [Rep], fun w' _ => by
    have e1 := rep_reply (opd_sound r hx)
    have e2 := rep_reply (opd_sound r hy)
    have := bop35 x y l w' xo yo
    simp only [execOp, e1, e2]
    rw [Sem.run_bind, this]
    rfl⟩) k
end
end Go.Proofs

/- The law ReplyBack. -/
set_option linter.unusedSimpArgs false
set_option linter.unusedVariables false
set_option maxRecDepth 100000
namespace Go.Proofs
open Go.Sy Go.Lib

theorem tkR_nil : tkR [] = none := by
  unfold tkR
  rw [if_neg (by rintro ⟨h, _⟩; revert h; decide)]
theorem rput_cases (n : Nat) (st : Int) (d : List UInt8) : rputE n st d = 0 ∨ (rputE n st d = 1 ∧ rputL n st d = [] ∧ ¬ (0 ≤ st ∧ st ≤ 1048576)) ∨ (rputE n st d = 3 ∧ rputL n st d = [] ∧ 0 ≤ st ∧ st ≤ 1048576 ∧ ¬ (rp n st d).length ≤ 1022) := by
  rw [rput_is]
  by_cases h : 0 ≤ st ∧ st ≤ 1048576
  · by_cases h2 : (rp n st d).length ≤ 1022
    · left; rw [if_pos h, if_pos h2]
    · right; right
      rw [if_pos h, if_neg h2]
      refine ⟨rfl, ?_, h.1, h.2, h2⟩
      unfold rputL
      rw [if_pos h, if_neg (fun h3 => h2 ((clsE_iff _).1 h3))]
  · right; left
    rw [if_neg h]
    refine ⟨rfl, ?_, h⟩
    unfold rputL
    rw [if_neg h]
theorem fail_ok (n : Nat) (st : Int) (hn : n < 18446744073709551616) : tkR (rfail n st) = some (n, (if 0 ≤ st ∧ st ≤ 1048576 then st else 1).toNat, []) := by
  obtain ⟨q, hq⟩ : ∃ q, (if 0 ≤ st ∧ st ≤ 1048576 then st else 1) = q := ⟨_, rfl⟩
  have hb : 0 ≤ q ∧ q ≤ 1048576 := by rw [← hq]; split <;> omega
  unfold rfail
  rw [hq]
  refine take_of_put hn ?_
  have l1 := vput_len10 (n := q.toNat) (by omega)
  have l2 := vput_len10 hn
  rw [rput_is, if_pos hb, if_pos (by rw [rp_len]; simp; omega)]
theorem rfail_len (n : Nat) (st : Int) : (rfail n st).length ≤ 1028 := by
  unfold rfail
  rcases rput_cases n (if 0 ≤ st ∧ st ≤ 1048576 then st else 1) [] with h | ⟨_, h, _⟩ | ⟨_, h, _⟩
  · obtain ⟨_, _, _, h2⟩ := rput_ok h
    rw [h2]
    have := padL_le (rp n (if 0 ≤ st ∧ st ≤ 1048576 then st else 1) [])
    simp only [List.length_append, List.length_cons, List.length_nil]
    omega
  · rw [h]; simp
  · rw [h]; simp

def rid (Y : Option (Nat × Nat × List UInt8)) : Nat := match Y with | none => 0 | some (i, _, _) => i
def rst (Y : Option (Nat × Nat × List UInt8)) : Nat := match Y with | none => 0 | some (_, s, _) => s
def rdat (Y : Option (Nat × Nat × List UInt8)) : List UInt8 := match Y with | none => [] | some (_, _, d) => d
def rer (Y : Option (Nat × Nat × List UInt8)) : Int := match Y with | none => 1 | some _ => 0
theorem rA_eq (Y : Option (Nat × Nat × List UInt8)) : rA Y = .tup [.agg [U64 (rid Y : Nat), I64 (rst Y : Nat), .s (rdat Y)], I64 (rer Y)] := by
  cases Y with
  | none => rfl
  | some y => obtain ⟨i, s, d⟩ := y; rfl
theorem rer_put {b : List UInt8} (h : rer (tkR b) = 0) : rid (tkR b) < 18446744073709551616 ∧ rputE (rid (tkR b)) (rst (tkR b) : Nat) (rdat (tkR b)) = 0 ∧ rputL (rid (tkR b)) (rst (tkR b) : Nat) (rdat (tkR b)) = b := by
  cases hy : tkR b with
  | none => rw [hy] at h; cases h
  | some y =>
    obtain ⟨i, s, d⟩ := y
    obtain ⟨h1, h2, h3, h4⟩ := put_of_take hy
    exact ⟨h2, h3, h4⟩
theorem rdat_len (b : List UInt8) : (rdat (tkR b)).length ≤ b.length := by
  cases hy : tkR b with
  | none => simp [rdat]
  | some y =>
    obtain ⟨i, s, d⟩ := y
    show d.length ≤ b.length
    unfold tkR at hy
    split at hy
    case isFalse => cases hy
    split at hy
    case isFalse => cases hy
    split at hy
    case isFalse => cases hy
    simp only [Option.some.injEq, Prod.mk.injEq] at hy
    rw [← hy.2.2, List.length_drop]
    have := unp_len (b.drop 4)
    rw [List.length_drop] at this
    omega

theorem lawRBack_p (n : Nat) (st : Int) (d b : List UInt8) (hn : n < 18446744073709551616) (hd : d.length ≤ 140737488355308) (hb : b.length ≤ 140737488355308) : FnP Tryd.prog 10 [.agg [U64 (n : Int), I64 st, .s d], .s b] (· = B true) := by
  refine FnP.intro Tryd.tabOK Tryd.wide_ Tryd.func10 rfl (by decide) rfl (fun X => ?_)
  repeat (first | refine sc rfl ?_ | refine so rfl ?_ | refine sb rfl ?_)
  refine O_call (ours35_p (n : Int) st d) (by rfl) (by rfl) (by rfl) (by rfl) (fun r hr => ?_)
  subst hr
  repeat (first | refine sc rfl ?_ | refine so rfl ?_ | refine sb rfl ?_)
  refine O_call (rPut_p n st d hn hd) (by rfl) (by rfl) (by rfl) (by rfl) (fun r hr => ?_)
  subst hr
  repeat (first | refine sc rfl ?_ | refine so rfl ?_ | refine sb rfl ?_)
  have hc := rput_cases n st d
  have hT : rputE n st d = 0 → tkR (rputL n st d) = some (n, st.toNat, d) := take_of_put hn
  have hst0 : rputE n st d = 0 → 0 ≤ st ∧ st ≤ 1048576 := fun h => let ⟨h1, h2, _⟩ := rput_ok h; ⟨h1, h2⟩
  have hLl : (rputL n st d).length ≤ 1028 := by
    rcases hc with h | ⟨_, h, _⟩ | ⟨_, h, _⟩
    · obtain ⟨_, _, _, h2⟩ := rput_ok h
      rw [h2]
      have := padL_le (rp n st d)
      simp only [List.length_append, List.length_cons, List.length_nil]
      omega
    · rw [h]; simp
    · rw [h]; simp
  obtain ⟨A, hA⟩ : ∃ A, rputL n st d = A := ⟨_, rfl⟩
  obtain ⟨E, hE⟩ : ∃ A, rputE n st d = A := ⟨_, rfl⟩
  rw [hA, hE] at hc hT ⊢
  rw [hE] at hst0
  rw [hA] at hLl
  refine O_call (rTake_p A (by omega)) (by rfl) (by rfl) (by rfl) (by rfl) (fun r hr => ?_)
  subst hr
  rcases hc with hc | ⟨hc, hc2, hc3⟩ | ⟨hc, hc2, hc3⟩
  case' inl =>
    subst hc
    obtain ⟨s1, s2⟩ := hst0 rfl
    rw [hT rfl]
    have e1 : rA (some (n, st.toNat, d)) = .tup [.agg [U64 (n : Nat), I64 st, .s d], I64 0] := by
      show AV.tup [.agg [U64 (n : Nat), I64 ((st.toNat : Nat) : Int), .s d], I64 0] = _
      rw [show ((st.toNat : Nat) : Int) = st by omega]
    rw [e1]
    repeat (first | refine sc rfl ?_ | refine so rfl ?_ | refine sb rfl ?_)
    refine C_drawD rfl (by kernel_rfl) ?_
    repeat (first | refine sd rfl ?_)
    refine D_call (ours35_p (n : Int) st d) rfl rfl rfl rfl ?_
    refine D_ne35 rfl rfl rfl rfl ?_
    repeat (first | refine sd rfl ?_)
    repeat (first | refine sc rfl ?_ | refine so rfl ?_ | refine sb rfl ?_)
    refine C_false rfl rfl ?_
    repeat (first | refine sc rfl ?_ | refine so rfl ?_ | refine sb rfl ?_)
    refine O_join ⟨[(1, .s b), (2, .bp 2 0), (6, I64 0), (9, B (decide (0 ≤ st ∧ st ≤ 1048576)))], [.box 2 33 [U64 (n : Int), I64 st, .s d]]⟩ ?_ (fun s' h' => C_le _ h' ?_)
    · have fin : ∀ x : Bool, x = decide (0 ≤ st ∧ st ≤ 1048576) → some (B x) = some (B (decide (0 ≤ st ∧ st ≤ 1048576))) := fun x hb => by rw [hb]
      refine O_case 50 rfl (fun h5 => ?_) (fun h5 => ?_) <;> simp only [decide_eq_true_eq, decide_eq_false_iff_not] at h5 <;> repeat (first | refine sc rfl ?_ | refine so rfl ?_ | refine sb rfl ?_)
      · exact Le.sub [2] ⟨rfl, rfl, rfl, fin _ (by rw [Bool.eq_iff_iff]; simp only [decide_eq_true_eq]; omega), trivial⟩ rfl
      · exact Le.sub [2] ⟨rfl, rfl, rfl, fin _ (by rw [Bool.eq_iff_iff]; simp only [decide_eq_true_eq, Bool.false_eq_true, false_iff]; omega), trivial⟩ rfl
    repeat (first | refine sc rfl ?_ | refine so rfl ?_ | refine sb rfl ?_)
    refine O_join ⟨[(1, .s b), (2, .bp 2 0), (9, B (decide (0 ≤ st ∧ st ≤ 1048576))), (79, B false)], [.box 2 33 [U64 (n : Int), I64 st, .s d]]⟩ ?_ (fun s' h' => C_le _ h' ?_)
    · refine O_false 57 rfl (by rw [decide_eq_true ⟨s1, s2⟩]; rfl) ?_
      repeat (first | refine sc rfl ?_ | refine so rfl ?_ | refine sb rfl ?_)
      refine O_true 63 rfl (decide_eq_true ⟨s1, s2⟩) ?_
      repeat (first | refine sc rfl ?_ | refine so rfl ?_ | refine sb rfl ?_)
      refine O_case 68 rfl (fun h5 => ?_) (fun h5 => ?_) <;> repeat (first | refine sc rfl ?_ | refine so rfl ?_ | refine sb rfl ?_)
      · refine O_call (Long_p d.length) (by rfl) (by rfl) (by rfl) (by rfl) (fun r hr => ?_)
        subst hr
        repeat (first | refine sc rfl ?_ | refine so rfl ?_ | refine sb rfl ?_)
        refine O_case 75 rfl (fun h6 => ?_) (fun h6 => ?_) <;> repeat (first | refine sc rfl ?_ | refine so rfl ?_ | refine sb rfl ?_)
        · exact Le.sub [2] ⟨rfl, rfl, rfl, rfl, trivial⟩ rfl
        · exact Le.sub [2] ⟨rfl, rfl, rfl, rfl, trivial⟩ rfl
      · exact Le.sub [2] ⟨rfl, rfl, rfl, rfl, trivial⟩ rfl
  case' inr.inl =>
    subst hc hc2
    rw [tkR_nil]
    unfold rA
    repeat (first | refine sc rfl ?_ | refine so rfl ?_ | refine sb rfl ?_)
    refine C_drawD rfl (by kernel_rfl) ?_
    repeat (first | refine sd rfl ?_)
    repeat (first | refine sc rfl ?_ | refine so rfl ?_ | refine sb rfl ?_)
    refine C_false rfl rfl ?_
    repeat (first | refine sc rfl ?_ | refine so rfl ?_ | refine sb rfl ?_)
    refine O_join ⟨[(1, .s b), (2, .bp 2 0), (6, I64 1), (9, B (decide (0 ≤ st ∧ st ≤ 1048576)))], [.box 2 33 [U64 (n : Int), I64 st, .s d]]⟩ ?_ (fun s' h' => C_le _ h' ?_)
    · have fin : ∀ x : Bool, x = decide (0 ≤ st ∧ st ≤ 1048576) → some (B x) = some (B (decide (0 ≤ st ∧ st ≤ 1048576))) := fun x hb => by rw [hb]
      refine O_case 50 rfl (fun h5 => ?_) (fun h5 => ?_) <;> simp only [decide_eq_true_eq, decide_eq_false_iff_not] at h5 <;> repeat (first | refine sc rfl ?_ | refine so rfl ?_ | refine sb rfl ?_)
      · exact Le.sub [2] ⟨rfl, rfl, rfl, fin _ (by rw [Bool.eq_iff_iff]; simp only [decide_eq_true_eq]; omega), trivial⟩ rfl
      · exact Le.sub [2] ⟨rfl, rfl, rfl, fin _ (by rw [Bool.eq_iff_iff]; simp only [decide_eq_true_eq, Bool.false_eq_true, false_iff]; omega), trivial⟩ rfl
    repeat (first | refine sc rfl ?_ | refine so rfl ?_ | refine sb rfl ?_)
    refine O_join ⟨[(1, .s b), (2, .bp 2 0), (9, B (decide (0 ≤ st ∧ st ≤ 1048576))), (79, B false)], [.box 2 33 [U64 (n : Int), I64 st, .s d]]⟩ ?_ (fun s' h' => C_le _ h' ?_)
    · refine O_true 57 rfl (by rw [decide_eq_false hc3]; rfl) ?_
      repeat (first | refine sc rfl ?_ | refine so rfl ?_ | refine sb rfl ?_)
      refine O_false 63 rfl (decide_eq_false hc3) ?_
      repeat (first | refine sc rfl ?_ | refine so rfl ?_ | refine sb rfl ?_)
      exact Le.sub [2] ⟨rfl, rfl, rfl, rfl, trivial⟩ rfl
  case' inr.inr =>
    subst hc hc2
    rw [tkR_nil]
    unfold rA
    repeat (first | refine sc rfl ?_ | refine so rfl ?_ | refine sb rfl ?_)
    refine C_drawD rfl (by kernel_rfl) ?_
    repeat (first | refine sd rfl ?_)
    repeat (first | refine sc rfl ?_ | refine so rfl ?_ | refine sb rfl ?_)
    refine C_false rfl rfl ?_
    repeat (first | refine sc rfl ?_ | refine so rfl ?_ | refine sb rfl ?_)
    refine O_join ⟨[(1, .s b), (2, .bp 2 0), (6, I64 3), (9, B (decide (0 ≤ st ∧ st ≤ 1048576)))], [.box 2 33 [U64 (n : Int), I64 st, .s d]]⟩ ?_ (fun s' h' => C_le _ h' ?_)
    · have fin : ∀ x : Bool, x = decide (0 ≤ st ∧ st ≤ 1048576) → some (B x) = some (B (decide (0 ≤ st ∧ st ≤ 1048576))) := fun x hb => by rw [hb]
      refine O_case 50 rfl (fun h5 => ?_) (fun h5 => ?_) <;> simp only [decide_eq_true_eq, decide_eq_false_iff_not] at h5 <;> repeat (first | refine sc rfl ?_ | refine so rfl ?_ | refine sb rfl ?_)
      · exact Le.sub [2] ⟨rfl, rfl, rfl, fin _ (by rw [Bool.eq_iff_iff]; simp only [decide_eq_true_eq]; omega), trivial⟩ rfl
      · exact Le.sub [2] ⟨rfl, rfl, rfl, fin _ (by rw [Bool.eq_iff_iff]; simp only [decide_eq_true_eq, Bool.false_eq_true, false_iff]; omega), trivial⟩ rfl
    repeat (first | refine sc rfl ?_ | refine so rfl ?_ | refine sb rfl ?_)
    refine O_join ⟨[(1, .s b), (2, .bp 2 0), (9, B (decide (0 ≤ st ∧ st ≤ 1048576))), (79, B false)], [.box 2 33 [U64 (n : Int), I64 st, .s d]]⟩ ?_ (fun s' h' => C_le _ h' ?_)
    · have s12 : 0 ≤ st ∧ st ≤ 1048576 := ⟨hc3.1, hc3.2.1⟩
      refine O_false 57 rfl (by rw [decide_eq_true s12]; rfl) ?_
      repeat (first | refine sc rfl ?_ | refine so rfl ?_ | refine sb rfl ?_)
      refine O_true 63 rfl (decide_eq_true s12) ?_
      repeat (first | refine sc rfl ?_ | refine so rfl ?_ | refine sb rfl ?_)
      refine O_case 68 rfl (fun h5 => ?_) (fun h5 => ?_) <;> repeat (first | refine sc rfl ?_ | refine so rfl ?_ | refine sb rfl ?_)
      · refine O_call (Long_p d.length) (by rfl) (by rfl) (by rfl) (by rfl) (fun r hr => ?_)
        subst hr
        repeat (first | refine sc rfl ?_ | refine so rfl ?_ | refine sb rfl ?_)
        have h7 : 1011 < (d.length : Int) := by
          refine Int.not_le.1 fun h8 => hc3.2.2 ?_
          have l2 := vput_len10 hn
          have h9 : st < 128 := of_decide_eq_true h5
          rw [rp_len, vput_lt (by omega)]
          simp only [List.length_cons, List.length_nil]
          omega
        refine O_false 75 rfl (by rw [decide_eq_true h7]; rfl) ?_
        repeat (first | refine sc rfl ?_ | refine so rfl ?_ | refine sb rfl ?_)
        exact Le.sub [2] ⟨rfl, rfl, rfl, rfl, trivial⟩ rfl
      · exact Le.sub [2] ⟨rfl, rfl, rfl, rfl, trivial⟩ rfl
  all_goals
    clear hT hst0 hLl hA hE
    refine C_false rfl rfl ?_
    repeat (first | refine sc rfl ?_ | refine so rfl ?_ | refine sb rfl ?_)
    refine O_call (rTake_p b (by omega)) (by rfl) (by rfl) (by rfl) (by rfl) (fun r hr => ?_)
    subst hr
    rw [rA_eq]
    have hrp := @rer_put b
    have hdl := rdat_len b
    obtain ⟨Y, hY⟩ : ∃ Y, tkR b = Y := ⟨_, rfl⟩
    rw [hY] at hrp hdl ⊢
    repeat (first | refine sc rfl ?_ | refine so rfl ?_ | refine sb rfl ?_)
    refine C_ifJ ⟨[(2, .bp 2 0), (9, B (decide (0 ≤ st ∧ st ≤ 1048576)))], [.box 2 33 [U64 (n : Int), I64 st, .s d]]⟩ rfl (fun h1 => ?_) (fun h1 => ?_) (fun s' h' => C_le _ h' ?_)
    · obtain ⟨g1, g2, g3⟩ := hrp (by simpa using h1)
      repeat (first | refine sc rfl ?_ | refine so rfl ?_ | refine sb rfl ?_)
      refine O_call (rPut_p (rid Y) (rst Y : Nat) (rdat Y) g1 (by omega)) (by rfl) (by rfl) (by rfl) (by rfl) (fun r hr => ?_)
      subst hr
      rw [g2, g3]
      repeat (first | refine sc rfl ?_ | refine so rfl ?_ | refine sb rfl ?_)
      refine O_false 95 rfl (by simp) ?_
      repeat (first | refine sc rfl ?_ | refine so rfl ?_ | refine sb rfl ?_)
      refine C_false rfl rfl ?_
      repeat (first | refine sc rfl ?_ | refine so rfl ?_ | refine sb rfl ?_)
      exact Le.sub [2] ⟨rfl, rfl, trivial⟩ rfl
    · repeat (first | refine sc rfl ?_ | refine so rfl ?_ | refine sb rfl ?_)
      exact Le.sub [2] ⟨rfl, rfl, trivial⟩ rfl
    repeat (first | refine sc rfl ?_ | refine so rfl ?_ | refine sb rfl ?_)
    refine O_call (rFail_p n st hn) (by rfl) (by rfl) (by rfl) (by rfl) (fun r hr => ?_)
    subst hr
    have hfl := rfail_len n st
    have hfo := fail_ok n st hn
    generalize rfail n st = F at *
    repeat (first | refine sc rfl ?_ | refine so rfl ?_ | refine sb rfl ?_)
    refine O_call (rTake_p F (by omega)) (by rfl) (by rfl) (by rfl) (by rfl) (fun r hr => ?_)
    subst hr
    obtain ⟨q, hq⟩ : ∃ q, (if 0 ≤ st ∧ st ≤ 1048576 then st else 1) = q := ⟨_, rfl⟩
    rw [hq] at hfo
    rw [hfo, show rA (some (n, q.toNat, [])) = AV.tup [.agg [U64 (n : Nat), I64 ((q.toNat : Nat) : Int), .s []], I64 0] from rfl]
    by_cases hm : 0 ≤ st ∧ st ≤ 1048576
    · rw [if_pos hm] at hq
      subst hq
      rw [show ((st.toNat : Nat) : Int) = st by omega]
      repeat (first | refine sc rfl ?_ | refine so rfl ?_ | refine sb rfl ?_)
      refine O_true 117 rfl (by simp) ?_
      repeat (first | refine sc rfl ?_ | refine so rfl ?_ | refine sb rfl ?_)
      refine O_true 128 rfl (by simp) ?_
      repeat (first | refine sc rfl ?_ | refine so rfl ?_ | refine sb rfl ?_)
      refine O_call awake35_p (by rfl) (by rfl) (by rfl) (by rfl) (fun r hr => ?_)
      subst hr
      repeat (first | refine sc rfl ?_ | refine so rfl ?_ | refine sb rfl ?_)
      exact ⟨_, rfl, rfl, rfl⟩
    · rw [if_neg hm] at hq
      subst hq
      repeat (first | refine sc rfl ?_ | refine so rfl ?_ | refine sb rfl ?_)
      refine O_true 117 rfl (by simp) ?_
      repeat (first | refine sc rfl ?_ | refine so rfl ?_ | refine sb rfl ?_)
      refine O_false 128 rfl (by simp; omega) ?_
      repeat (first | refine sc rfl ?_ | refine so rfl ?_ | refine sb rfl ?_)
      refine O_true 131 rfl (by rw [decide_eq_false hm]; rfl) ?_
      repeat (first | refine sc rfl ?_ | refine so rfl ?_ | refine sb rfl ?_)
      refine O_call awake35_p (by rfl) (by rfl) (by rfl) (by rfl) (fun r hr => ?_)
      subst hr
      repeat (first | refine sc rfl ?_ | refine so rfl ?_ | refine sb rfl ?_)
      exact ⟨_, rfl, rfl, rfl⟩
end Go.Proofs
