/- Numbers as bytes: the plain law; contracts of varint and of the document's. -/
import Derived.Test.YtekmhpkomhjbpaaGreatDoorF5
import Derived.RangeFuncNested
import Derived.OrdersIn
import Derived.StillTail
import Derived.RangeFuncBox
import Derived.RangeFuncLeaves
import Derived.Shelf.Abstract
import Derived.WalkKit
import Derived.OwnWalkIn
import Derived.TacticsInMore
import Derived.LoopNIn
import Derived.LoopIn
import Derived.StillTailTactics
set_option linter.unusedSimpArgs false
set_option linter.unusedVariables false
set_option maxRecDepth 100000
namespace Go.Proofs
open Go.Sy Go.Lib

abbrev U64 (n : Int) : AV := .v (.int .u64 n)

/-- A number's bytes. -/
def vput (n : Nat) : List UInt8 := if h : n < 128 then [UInt8.ofNat n] else UInt8.ofNat (n % 128 + 128) :: vput (n / 128)
termination_by n
decreasing_by omega
theorem vput_lt {n : Nat} (h : n < 128) : vput n = [UInt8.ofNat n] := by rw [vput, dif_pos h]
theorem vput_ge {n : Nat} (h : ¬ n < 128) : vput n = UInt8.ofNat (n % 128 + 128) :: vput (n / 128) := by rw [vput, dif_neg h]

theorem u8wrap {x : Int} (h : 0 ≤ x) (h2 : x < 256) : IntKind.u8.wrap x = x := by
  simp only [IntKind.wrap, show IntKind.u8.signed = false from rfl, show IntKind.u8.bits = 8 from rfl, Bool.false_and, Bool.false_eq_true, if_false]
  omega
theorem u64wrap {x : Int} (h : 0 ≤ x) (h2 : x < 18446744073709551616) : IntKind.u64.wrap x = x := by
  simp only [IntKind.wrap, show IntKind.u64.signed = false from rfl, show IntKind.u64.bits = 64 from rfl, Bool.false_and, Bool.false_eq_true, if_false]
  omega

abbrev TK := Nat × Nat × Int
/-- With f bytes at most, behind another one (z) or not: the number, how many bytes, what is wrong. -/
def tkS : Nat → Bool → List UInt8 → TK
  | 0, _, _ => (0, 0, 2)
  | _ + 1, _, [] => (0, 0, 2)
  | f + 1, z, c :: r => if (f = 0 ∧ 1 < c.toNat) ∨ (c.toNat = 0 ∧ z = true) then (0, 0, 1) else if c.toNat < 128 then (c.toNat, 1, 0)
    else match tkS f true r with
      | (m, k, e) => if e = 0 then (c.toNat % 128 + 128 * m, k + 1, 0) else (0, 0, e)
def tk (l : List UInt8) : TK := tkS 10 false l
def comb (i n : Nat) : TK → TK
  | (m, k, e) => if e = 0 then (n + 128 ^ i * m, i + k, 0) else (0, 0, e)

theorem tkS_err : ∀ (f : Nat) (z : Bool) (l : List UInt8), (tkS f z l).2.2 ≠ 0 → (tkS f z l).1 = 0 ∧ (tkS f z l).2.1 = 0
  | 0, _, _, _ => ⟨rfl, rfl⟩
  | f + 1, z, [], _ => ⟨rfl, rfl⟩
  | f + 1, z, c :: r, h => by
    simp only [tkS] at h ⊢
    split at h
    · rename_i h1; rw [if_pos h1]; exact ⟨rfl, rfl⟩
    · rename_i h1
      rw [if_neg h1]
      split at h
      · exact absurd rfl h
      · rename_i h2
        rw [if_neg h2]
        split at h
        · exact absurd rfl h
        · rename_i h3
          simp only [h3, if_false]
          exact ⟨trivial, trivial⟩
theorem comb0 (t : TK) (h : t.2.2 ≠ 0 → t.1 = 0 ∧ t.2.1 = 0) : comb 0 0 t = t := by
  obtain ⟨m, k, e⟩ := t
  unfold comb
  by_cases he : e = 0
  · subst he; simp
  · obtain ⟨h1, h2⟩ := h he
    simp only at h1 h2
    subst h1 h2
    simp [he]
theorem tk_comb (l : List UInt8) : tk l = comb 0 0 (tkS 10 false (l.drop 0)) := by
  rw [comb0 _ (tkS_err _ _ _)]; rfl

/-- One byte more. -/
theorem comb_step {f i n : Nat} {z : Bool} {l : List UInt8} {c : Nat} (hi : i < l.length) (hc : by_ l i = c) (hok : ¬ ((f = 0 ∧ 1 < c) ∨ (c = 0 ∧ z = true))) (h128 : ¬ c < 128) :
    comb i n (tkS (f + 1) z (l.drop i)) = comb (i + 1) (n + c % 128 * 128 ^ i) (tkS f true (l.drop (i + 1))) := by
  rw [List.drop_eq_getElem_cons hi]
  have hcc : (l[i]).toNat = c := by
    rw [← hc]; unfold by_; rw [List.getD_eq_getElem?_getD, List.getElem?_eq_getElem hi]; rfl
  simp only [tkS, hcc, if_neg hok, if_neg h128]
  obtain ⟨m, k, e⟩ := tkS f true (l.drop (i + 1))
  simp only [comb]
  by_cases he : e = 0
  · subst he
    simp only [if_true]
    refine Prod.ext ?_ (Prod.ext ?_ rfl)
    · simp only [Nat.pow_succ, Nat.mul_add, Nat.add_assoc]
      congr 1
      rw [Nat.mul_comm (c % 128), ← Nat.mul_assoc]
    · simp only []; omega
  · simp only [he, if_false]
theorem comb_last {f i n : Nat} {z : Bool} {l : List UInt8} {c : Nat} (hi : i < l.length) (hc : by_ l i = c) (hok : ¬ ((f = 0 ∧ 1 < c) ∨ (c = 0 ∧ z = true))) (h128 : c < 128) :
    comb i n (tkS (f + 1) z (l.drop i)) = (n + c % 128 * 128 ^ i, i + 1, 0) := by
  rw [List.drop_eq_getElem_cons hi]
  have hcc : (l[i]).toNat = c := by
    rw [← hc]; unfold by_; rw [List.getD_eq_getElem?_getD, List.getElem?_eq_getElem hi]; rfl
  simp only [tkS, hcc, if_neg hok, if_pos h128, comb]
  simp only [if_true]
  rw [Nat.mod_eq_of_lt h128, Nat.mul_comm]
theorem comb_bad {f i n : Nat} {z : Bool} {l : List UInt8} {c : Nat} (hi : i < l.length) (hc : by_ l i = c) (hok : (f = 0 ∧ 1 < c) ∨ (c = 0 ∧ z = true)) :
    comb i n (tkS (f + 1) z (l.drop i)) = (0, 0, 1) := by
  rw [List.drop_eq_getElem_cons hi]
  have hcc : (l[i]).toNat = c := by
    rw [← hc]; unfold by_; rw [List.getD_eq_getElem?_getD, List.getElem?_eq_getElem hi]; rfl
  simp only [tkS, hcc, if_pos hok, comb]
  simp
theorem comb_end {f i n : Nat} {z : Bool} {l : List UInt8} (h : l.length ≤ i ∨ f = 0) : comb i n (tkS f z (l.drop i)) = (0, 0, 2) := by
  rcases h with h | h
  · rw [List.drop_eq_nil_of_le h]
    cases f <;> simp [tkS, comb]
  · subst h; simp [tkS, comb]

/-! ### put and take -/
theorem tkS_take : ∀ (f : Nat) (z : Bool) (l : List UInt8) (n k : Nat), tkS (f + 1) z l = (n, k, 0) → l.take k = vput n ∧ 1 ≤ k ∧ k ≤ l.length ∧ n < 2 * 128 ^ f ∧ (z = true → 0 < n) := by
  intro f
  induction f with
  | zero =>
    intro z l n k h
    cases l with
    | nil => simp [tkS] at h
    | cons c r =>
      rw [tkS] at h
      split at h
      · simp at h
      · rename_i h1
        split at h
        · rename_i h2
          simp only [Prod.mk.injEq] at h
          obtain ⟨rfl, rfl, _⟩ := h
          have h6 : ¬ 1 < c.toNat := fun hh => h1 (.inl ⟨rfl, hh⟩)
          rw [vput_lt h2]
          refine ⟨by simp, by omega, by simp, by simp; omega, fun hz => ?_⟩
          rcases Nat.eq_zero_or_pos c.toNat with h3 | h3
          · exact absurd (.inr ⟨h3, hz⟩) h1
          · exact h3
        · simp [tkS] at h
  | succ f ih =>
    intro z l n k h
    cases l with
    | nil => simp [tkS] at h
    | cons c r =>
      have hc := UInt8.toNat_lt c
      rw [tkS] at h
      split at h
      · simp at h
      · rename_i h1
        split at h
        · rename_i h2
          simp only [Prod.mk.injEq] at h
          obtain ⟨rfl, rfl, _⟩ := h
          rw [vput_lt h2]
          have : 0 < 128 ^ f := Nat.pow_pos (by omega)
          refine ⟨by simp, by omega, by simp, by rw [Nat.pow_succ]; omega, fun hz => ?_⟩
          rcases Nat.eq_zero_or_pos c.toNat with h3 | h3
          · exact absurd (.inr ⟨h3, hz⟩) h1
          · exact h3
        · rename_i h2
          obtain ⟨m, k', e, ht⟩ : ∃ m k' e, tkS (f + 1) true r = (m, k', e) := ⟨_, _, _, rfl⟩
          rw [ht] at h
          simp only at h
          split at h
          · rename_i he
            subst he
            simp only [Prod.mk.injEq] at h
            obtain ⟨rfl, rfl, _⟩ := h
            obtain ⟨i1, i2, i3, i4, i5⟩ := ih true r m k' ht
            have := i5 rfl
            refine ⟨?_, by omega, by simp; omega, by rw [Nat.pow_succ]; omega, fun _ => by omega⟩
            rw [List.take_succ_cons, i1, vput_ge (n := c.toNat % 128 + 128 * m) (by omega)]
            rw [show (c.toNat % 128 + 128 * m) / 128 = m by omega, show (c.toNat % 128 + 128 * m) % 128 + 128 = c.toNat by omega]
            simp
          · rename_i he
            simp only [Prod.mk.injEq] at h
            exact absurd h.2.2 he
theorem tk_take {l : List UInt8} {n k : Nat} (h : tk l = (n, k, 0)) : l.take k = vput n ∧ 1 ≤ k ∧ k ≤ l.length ∧ n < 18446744073709551616 := by
  obtain ⟨h1, h2, h3, h4, _⟩ := tkS_take 9 false l n k h
  exact ⟨h1, h2, h3, by omega⟩

/-- The low byte with the mark that more follow. -/
theorem or128 (n : Nat) : bitsV .or .u8 (IntKind.u8.wrap (n : Int)) 128 = ((n % 128 + 128 : Nat) : Int) := by
  have hw : IntKind.u8.wrap (n : Int) = ((n % 256 : Nat) : Int) := by
    simp only [IntKind.wrap, show IntKind.u8.signed = false from rfl, show IntKind.u8.bits = 8 from rfl, Bool.false_and, Bool.false_eq_true, if_false]
    omega
  rw [hw]
  have : ∀ m : Fin 256, bitsV .or .u8 ((m.val : Nat) : Int) 128 = ((m.val % 128 + 128 : Nat) : Int) := by decide +kernel
  have h := this ⟨n % 256, Nat.mod_lt _ (by omega)⟩
  simp only at h
  rw [h]
  omega

theorem vput_len2 : ∀ (k n : Nat), n < 128 ^ (k + 1) → (vput n).length ≤ k + 1
  | 0, n, h => by rw [vput_lt (by simpa using h)]; simp
  | k + 1, n, h => by
    by_cases hn : n < 128
    · rw [vput_lt hn]; simp
    · rw [vput_ge hn, List.length_cons]
      have : n / 128 < 128 ^ (k + 1) := by
        rw [Nat.div_lt_iff_lt_mul (by omega)]
        rw [Nat.pow_succ] at h
        exact h
      have := vput_len2 k (n / 128) this
      omega
theorem vput_len10 {n : Nat} (h : n < 18446744073709551616) : (vput n).length ≤ 10 := vput_len2 9 n (Nat.lt_of_lt_of_le h (by decide))

theorem byte_of {m : Nat} (h : m < 256) : ((UInt8.ofNat m).toNat : Int) = (m : Int) := by
  rw [UInt8.toNat_ofNat_of_lt' (by simpa using h)]

theorem Put83_p (n : Nat) (hn : n < 18446744073709551616) : FnP Tryz.prog 190 [U64 (n : Int)] (· = .s (vput n)) := by
  refine FnP.intro Tryz.tabOK Tryz.wide_ Tryz.func190 rfl (by decide) rfl (fun X => ?_)
  repeat (first | refine sc rfl ?_ | refine so rfl ?_ | refine sb rfl ?_ | refine C_scope ?_)
  refine C_loop (fun p : Nat × List UInt8 => ⟨[(0, U64 (p.1 : Int)), (3, .own 16)], [VEC 16 5 1 U8c p.2]⟩) (fun p => p.1 ≤ n ∧ p.2 ++ vput p.1 = vput n) (fun p => p.1) (n, []) ⟨Nat.le_refl _, rfl⟩
    ((Le.nilvec (α := UInt8) U8c 3 16 5 1 rfl rfl rfl).trans (Le.sub [16] ⟨rfl, rfl, trivial⟩ rfl)) ?_
  rintro ⟨m, l⟩ ⟨hm, hl⟩
  simp only at hm hl
  have h10 := vput_len10 hn
  rw [← hl, List.length_append] at h10
  repeat (first | refine sc rfl ?_ | refine so rfl ?_ | refine sb rfl ?_)
  refine C_if rfl (fun h => ?_) (fun h => ?_) <;> simp only [decide_eq_true_eq, decide_eq_false_iff_not] at h
  · have hb : IntKind.u8.wrap (m : Int) = ((UInt8.ofNat m).toNat : Int) := by rw [byte_of (by omega), u8wrap (by omega) (by omega)]
    refine sc rfl ?_
    refine sc rfl ?_
    repeat (first | refine so rfl ?_)
    rw [hb]
    repeat (first | refine sb rfl ?_)
    refine O_push U8c l (UInt8.ofNat m) [(0, U64 (m : Int))] rfl rfl rfl rfl rfl rfl rfl rfl rfl rfl ⟨rfl, trivial⟩ rfl rfl (by omega) (by simp only [maxLen]; omega) ?_
    repeat (first | refine sc rfl ?_ | refine so rfl ?_ | refine sb rfl ?_)
    refine O_text (l ++ [UInt8.ofNat m]) rfl rfl rfl rfl rfl (by rw [List.length_append, List.length_singleton]; omega) rfl ?_
    repeat (first | refine sc rfl ?_ | refine so rfl ?_ | refine sb rfl ?_)
    exact ⟨_, rfl, rfl, by rw [← hl, vput_lt (by omega)]⟩
  · repeat (first | refine sc rfl ?_ | refine so rfl ?_)
    rw [or128, ← byte_of (show m % 128 + 128 < 256 by omega)]
    repeat (first | refine sb rfl ?_)
    refine O_push U8c l (UInt8.ofNat (m % 128 + 128)) [(0, U64 (m : Int))] rfl rfl rfl rfl rfl rfl rfl rfl rfl rfl ⟨rfl, trivial⟩ rfl rfl (by omega) (by simp only [maxLen]; omega) ?_
    repeat (first | refine sc rfl ?_ | refine so rfl ?_ | refine ⟨by decide, ?_⟩)
    have e1 : (m : Int).fdiv (2 ^ min (Int.toNat 7) IntKind.u64.bits) = ((m / 128 : Nat) : Int) := by
      rw [show (2 : Int) ^ min (Int.toNat 7) IntKind.u64.bits = 128 by decide, Int.fdiv_eq_ediv_of_nonneg _ (by decide)]
      omega
    rw [e1]
    repeat (first | refine sc rfl ?_ | refine so rfl ?_)
    exact ⟨(m / 128, l ++ [UInt8.ofNat (m % 128 + 128)]), ⟨by omega, by rw [← hl, vput_ge (show ¬ m < 128 by omega), List.append_assoc]; rfl⟩, by simp only; omega, Le.sub [16] ⟨rfl, rfl, trivial⟩ rfl⟩

abbrev tkA (t : TK) : AV := .tup [U64 (t.1 : Nat), I64 (t.2.1 : Nat), I64 t.2.2]

theorem or64 (n m i : Nat) (hn : n < 128 ^ i) (h : n + m * 128 ^ i < 18446744073709551616) : bitsV .or .u64 (n : Int) ((m * 128 ^ i : Nat) : Int) = ((n + m * 128 ^ i : Nat) : Int) := by
  have h1 : n ||| (m * 128 ^ i) = n + m * 128 ^ i := by
    have h2 : (128 : Nat) ^ i = 2 ^ (7 * i) := by rw [Nat.pow_mul]
    rw [h2] at hn ⊢
    have := Nat.two_pow_add_eq_or_of_lt hn m
    rw [Nat.mul_comm m, Nat.or_comm, ← this, Nat.add_comm]
  simp only [bitsV]
  rw [show IntKind.u64.bits = 64 from rfl, BitVec.toNat_or, BitVec.ofInt_natCast, BitVec.ofInt_natCast, BitVec.toNat_ofNat, BitVec.toNat_ofNat, Nat.mod_eq_of_lt (by omega), Nat.mod_eq_of_lt (by omega), h1]
  exact u64wrap (by omega) (by omega)
theorem and127 (c : Nat) (h : c < 256) : bitsV .and .u8 (c : Int) 127 = ((c % 128 : Nat) : Int) := by
  have h1 : c &&& 127 = c % 128 := by
    have := Nat.and_two_pow_sub_one_eq_mod c 7
    simpa using this
  simp only [bitsV]
  rw [show IntKind.u8.bits = 8 from rfl, BitVec.toNat_and, BitVec.ofInt_natCast, show (BitVec.ofInt 8 127) = BitVec.ofNat 8 127 from rfl, BitVec.toNat_ofNat, BitVec.toNat_ofNat, Nat.mod_eq_of_lt h, show 127 % 2 ^ 8 = 127 from rfl, h1]
  exact u8wrap (by omega) (by omega)
theorem pow_le9 {i : Nat} (h : i ≤ 9) : 128 ^ i ≤ 9223372036854775808 := by
  have : 128 ^ i ≤ 128 ^ 9 := Nat.pow_le_pow_right (by omega) h
  omega

theorem vTake_p (l : List UInt8) (hl : l.length ≤ 9223372036854775807) : FnP Tryz.prog 131 [.s l] (· = tkA (tk l)) := by
  refine FnP.intro Tryz.tabOK Tryz.wide_ Tryz.func131 rfl (by decide) rfl (fun X => ?_)
  have fin : ∀ (t : TK) (r : AV), tk l = t → r = tkA t → r = tkA (tk l) := fun t r h hr => by rw [hr, h]
  repeat (first | refine sc rfl ?_ | refine so rfl ?_ | refine sb rfl ?_ | refine C_scope ?_)
  refine C_loop (fun q : Nat × Nat => ⟨[(0, .s l), (10, I64 (min l.length 10 : Nat)), (11, I64 (q.1 : Nat)), (5, U64 (q.2 : Nat))], []⟩)
    (fun q => q.1 ≤ 10 ∧ q.1 ≤ l.length ∧ q.2 < 128 ^ q.1 ∧ tk l = comb q.1 q.2 (tkS (10 - q.1) (decide (0 < q.1)) (l.drop q.1))) (fun q => 10 - q.1) (0, 0) ⟨by decide, by simp only []; omega, by decide, tk_comb l⟩
    (Le.sub [] ⟨rfl, congrArg (fun x => some (I64 x)) (by omega), rfl, rfl, trivial⟩ rfl) ?_
  rintro ⟨i, n⟩ ⟨hi10, hil, hn, ht⟩
  simp only [] at hi10 hil hn ht
  repeat (first | refine sc rfl ?_ | refine so rfl ?_ | refine sb rfl ?_ | refine C_scope ?_)
  refine C_if rfl (fun h => ?_) (fun h => ?_) <;> simp only [decide_eq_true_eq, decide_eq_false_iff_not] at h
  · have hi : i < l.length ∧ i < 10 := by omega
    obtain ⟨f, hf⟩ : ∃ f, 10 - i = f + 1 := ⟨9 - i, by omega⟩
    rw [hf] at ht
    obtain ⟨c, hc⟩ : ∃ c, by_ l i = c := ⟨_, rfl⟩
    have hc256 : c < 256 := by rw [← hc]; exact by_lt l i
    repeat (first | refine sc rfl ?_ | refine so rfl ?_ | refine sb rfl ?_ | refine C_scope ?_ | refine ⟨by omega, ?_⟩)
    rw [Int.toNat_natCast, getD_by, hc]
    have key : ((f = 0 ∧ 1 < c) ∨ (c = 0 ∧ decide (0 < i) = true)) ↔ ((i = 9 ∧ 1 < c) ∨ (c = 0 ∧ 0 < i)) := by simp only [decide_eq_true_eq]; omega
    refine O_join ⟨[(0, .s l), (10, I64 (min l.length 10 : Nat)), (11, I64 (i : Nat)), (5, U64 (n : Nat)), (6, I64 (i : Nat)), (7, .v (.int .u8 c)), (17, B (decide (i = 9 ∧ 1 < c)))], []⟩ ?_ (fun s h => C_le _ h ?_)
    · have fin2 : ∀ x : Bool, x = decide (i = 9 ∧ 1 < c) → some (B x) = some (B (decide (i = 9 ∧ 1 < c))) := fun x hb => by rw [hb]
      refine O_case 20 rfl (fun h5 => ?_) (fun h5 => ?_) <;> simp at h5 <;> repeat (first | refine sc rfl ?_ | refine so rfl ?_ | refine sb rfl ?_)
      · exact Le.sub [] ⟨rfl, rfl, rfl, rfl, rfl, rfl, fin2 _ (by rw [Bool.eq_iff_iff]; simp; omega), trivial⟩ rfl
      · exact Le.sub [] ⟨rfl, rfl, rfl, rfl, rfl, rfl, fin2 _ (by rw [Bool.eq_iff_iff]; simp; omega), trivial⟩ rfl
    refine C_ifJ ⟨[(0, .s l), (10, I64 (min l.length 10 : Nat)), (11, I64 (i : Nat)), (5, U64 (n : Nat)), (6, I64 (i : Nat)), (7, .v (.int .u8 c)), (17, B (decide ((i = 9 ∧ 1 < c) ∨ (c = 0 ∧ 0 < i))))], []⟩ rfl (fun h1 => ?_) (fun h1 => ?_) (fun s h => C_le _ h ?_)
    · simp only [decide_eq_true_eq] at h1
      repeat (first | refine sc rfl ?_ | refine so rfl ?_ | refine sb rfl ?_)
      exact Le.sub [] ⟨rfl, rfl, rfl, rfl, rfl, rfl, congrArg (fun x => some (B x)) (by rw [Bool.eq_iff_iff]; simp only [decide_eq_true_eq]; omega), trivial⟩ rfl
    · simp only [decide_eq_false_iff_not] at h1
      repeat (first | refine sc rfl ?_ | refine so rfl ?_ | refine sb rfl ?_)
      have fin2 : ∀ x : Bool, x = decide ((i = 9 ∧ 1 < c) ∨ (c = 0 ∧ 0 < i)) → some (B x) = some (B (decide ((i = 9 ∧ 1 < c) ∨ (c = 0 ∧ 0 < i)))) := fun x hb => by rw [hb]
      refine O_case 26 rfl (fun h5 => ?_) (fun h5 => ?_) <;> simp at h5 <;> repeat (first | refine sc rfl ?_ | refine so rfl ?_ | refine sb rfl ?_)
      · exact Le.sub [] ⟨rfl, rfl, rfl, rfl, rfl, rfl, fin2 _ (by rw [Bool.eq_iff_iff]; simp; omega), trivial⟩ rfl
      · exact Le.sub [] ⟨rfl, rfl, rfl, rfl, rfl, rfl, fin2 _ (by rw [Bool.eq_iff_iff]; simp; omega), trivial⟩ rfl
    repeat (first | refine sc rfl ?_ | refine so rfl ?_ | refine sb rfl ?_)
    refine C_if rfl (fun h1 => ?_) (fun h1 => ?_)
    · have h2 := key.2 (of_decide_eq_true h1)
      repeat (first | refine sc rfl ?_ | refine so rfl ?_ | refine sb rfl ?_)
      exact ⟨_, rfl, rfl, fin (0, 0, 1) _ (by rw [ht, comb_bad hi.1 hc h2]) rfl⟩
    have h2 : ¬ ((f = 0 ∧ 1 < c) ∨ (c = 0 ∧ decide (0 < i) = true)) := fun hh => of_decide_eq_false h1 (key.1 hh)
    have hp9 := pow_le9 (i := i) (by omega)
    have hm : c % 128 * 128 ^ i ≤ 127 * 128 ^ i := Nat.mul_le_mul_right _ (by omega)
    have hsum : n + c % 128 * 128 ^ i < 18446744073709551616 := by
      by_cases h9 : i = 9
      · subst h9
        have h3 : c ≤ 1 := by omega
        have h4 : c % 128 * 128 ^ 9 ≤ 1 * 128 ^ 9 := Nat.mul_le_mul_right _ (by omega)
        omega
      · have h4 : 128 ^ i ≤ 128 ^ 8 := Nat.pow_le_pow_right (by omega) (by omega)
        omega
    repeat (first | refine sc rfl ?_ | refine so rfl ?_ | refine sb rfl ?_ | refine ⟨by omega, ?_⟩)
    rw [w64 (x := 7 * (i : Int)) (by omega) (by omega)]
    refine ⟨by omega, ?_⟩
    have hv : bitsV .or .u64 (n : Int) (IntKind.u64.wrap (IntKind.u64.wrap (bitsV .and .u8 (c : Int) 127) * 2 ^ min (7 * (i : Int)).toNat IntKind.u64.bits)) = ((n + c % 128 * 128 ^ i : Nat) : Int) := by
      rw [and127 c hc256, u64wrap (x := ((c % 128 : Nat) : Int)) (by omega) (by omega), show IntKind.u64.bits = 64 from rfl, show min (7 * (i : Int)).toNat 64 = 7 * i by omega]
      have h3 : ((c % 128 : Nat) : Int) * 2 ^ (7 * i) = ((c % 128 * 128 ^ i : Nat) : Int) := by
        have h2 : (128 : Nat) ^ i = 2 ^ (7 * i) := by rw [Nat.pow_mul]
        rw [h2]
        rw [Int.natCast_mul, Int.natCast_pow]
        rfl
      rw [h3, u64wrap (by omega) (by omega), or64 n _ i hn hsum]
    repeat (first | refine sc rfl ?_ | refine so rfl ?_ | refine sb rfl ?_)
    rw [hv]
    repeat (first | refine sc rfl ?_ | refine so rfl ?_ | refine sb rfl ?_)
    refine C_if rfl (fun h3 => ?_) (fun h3 => ?_) <;> simp only [decide_eq_true_eq, decide_eq_false_iff_not] at h3
    · repeat (first | refine sc rfl ?_ | refine so rfl ?_ | refine sb rfl ?_)
      rw [w64 (by omega) (by omega)]
      exact ⟨_, rfl, rfl, fin (n + c % 128 * 128 ^ i, i + 1, 0) _ (by rw [ht, comb_last hi.1 hc h2 (by omega)]) rfl⟩
    · repeat (first | refine sc rfl ?_ | refine so rfl ?_ | refine sb rfl ?_)
      rw [w64 (by omega) (by omega)]
      refine ⟨(i + 1, n + c % 128 * 128 ^ i), ⟨by simp only []; omega, by simp only []; omega, ?_, ?_⟩, by simp only []; omega, Le.sub [] ⟨rfl, rfl, rfl, rfl, trivial⟩ rfl⟩
      · simp only [Nat.pow_succ]
        omega
      · simp only []
        rw [ht, comb_step hi.1 hc h2 (by omega), show 10 - (i + 1) = f by omega, show decide (0 < i + 1) = true from decide_eq_true (by omega)]
  · repeat (first | refine sc rfl ?_ | refine so rfl ?_ | refine sb rfl ?_ | refine C_scope ?_)
    refine ⟨_, rfl, rfl, fin (0, 0, 2) _ ?_ rfl⟩
    rw [ht, comb_end (by omega)]

end Go.Proofs

/- Regions whose order is drawn, in rounds of ranges over functions. -/
set_option linter.unusedSimpArgs false
set_option linter.unusedVariables false
set_option maxRecDepth 100000
namespace Go

section
variable {P : Program} {ops : Array Oper} {md : Region.Mode} {Q : Exit → Act → World → Prop}

end
end Go

/- The places of a configuration: the iterator. -/
set_option linter.unusedSimpArgs false
set_option linter.unusedVariables false
set_option maxRecDepth 100000
namespace Go.Proofs
open Go.RowKit Go.Shelf

attribute [local go_sem] Oper.semAt_some

def loP (i : Nat) : Int := if i = 0 then 1040 else 0
def hiP (i : Nat) : Int := if i = 4 then 64 else if i = 5 then 64 else if i = 6 then 16 else 1048576
abbrev plV (B i : Nat) : Value := .agg #[.pointer (some ⟨B, i, none⟩), .int .i64 (loP i), .int .i64 (hiP i)]
abbrev encP (B i : Nat) : Array Value := #[.int .i64 (i : Int), plV B i]

end Go.Proofs

/- The places of a configuration: the function that makes the iterator. -/
set_option linter.unusedSimpArgs false
set_option linter.unusedVariables false
set_option maxRecDepth 100000
namespace Go.Proofs
open Go.Sy Go.Lib

end Go.Proofs

/- Orders, rows, events: data (printed by gen.py) -/
set_option linter.unusedSimpArgs false
set_option linter.unusedVariables false
set_option maxRecDepth 100000
namespace Go.Proofs
open Go.Sy Go.Lib

structure Cf where
  quantum : Int
  rate : Int
  burst : Int
  mem : Int
  slots : Int
  outs : Int
  conns : Int
  state : Int
  decode : Int

instance : Inhabited Cf := ⟨⟨0, 0, 0, 0, 0, 0, 0, 0, 0⟩⟩
structure Ord where
  id : Int
  op : Int
  owner : Int
  conf : Cf

instance : Inhabited Ord := ⟨⟨0, 0, 0, default⟩⟩
structure Nte where
  conn : Int
  owner : Int
  kind : Int
  body : List UInt8
  err : Int
  reply : List UInt8

instance : Inhabited Nte := ⟨⟨0, 0, 0, [], 0, []⟩⟩
def Nte.c (x : Nte) : List AV := [I64 x.conn, I64 x.owner, I64 x.kind, .s x.body, I64 x.err, .s x.reply]
structure Rw where
  fat : Int
  act : Int
  note : Nte

instance : Inhabited Rw := ⟨⟨0, 0, default⟩⟩
structure Evt where
  kind : Int
  conn : Int
  num : Int
  bytes : List UInt8

instance : Inhabited Evt := ⟨⟨0, 0, 0, []⟩⟩
def Evt.c (x : Evt) : List AV := [I64 x.kind, I64 x.conn, .v (.int .u64 x.num), .s x.bytes]
structure Lod where
  tokens : Int
  mem : Int
  slots : Int
  outs : Int

instance : Inhabited Lod := ⟨⟨0, 0, 0, 0⟩⟩
structure Vw where
  conf : Cf
  rests : Bool
  load : Lod
  waits : Int
  cost : Int
  conns : Int
  state : Int
  kept : Int
  tombs : Int
  text : List UInt8

instance : Inhabited Vw := ⟨⟨default, false, default, 0, 0, 0, 0, 0, 0, []⟩⟩
def Vw.c (x : Vw) : List AV := [I64 x.conf.quantum, I64 x.conf.rate, I64 x.conf.burst, I64 x.conf.mem, I64 x.conf.slots, I64 x.conf.outs, I64 x.conf.conns, I64 x.conf.state, I64 x.conf.decode, B x.rests, I64 x.load.tokens, I64 x.load.mem, I64 x.load.slots, I64 x.load.outs, I64 x.waits, I64 x.cost, I64 x.conns, I64 x.state, I64 x.kept, I64 x.tombs, .s x.text]
structure Cal where
  id : Int
  wait : Int
  num : Int
  args : List UInt8

instance : Inhabited Cal := ⟨⟨0, 0, 0, []⟩⟩
structure Bnd where
  id : Int
  num : Int
  service : List UInt8
  method : List UInt8
  op : Int

instance : Inhabited Bnd := ⟨⟨0, 0, [], [], 0⟩⟩
structure Frm where
  kind : Int
  flags : Int
  body : List UInt8

instance : Inhabited Frm := ⟨⟨0, 0, []⟩⟩
def Frm.c (x : Frm) : List AV := [I64 x.kind, I64 x.flags, .s x.body]
structure Itm where
  conn : Int
  frame : Frm
  arrived : Int

instance : Inhabited Itm := ⟨⟨0, default, 0⟩⟩
structure Rpl where
  id : Int
  status : Int
  data : List UInt8

instance : Inhabited Rpl := ⟨⟨0, 0, []⟩⟩
structure Stp where
  kind : Int
  most : Int

instance : Inhabited Stp := ⟨⟨0, 0⟩⟩
structure Got where
  num : Int
  text : List UInt8
  fat : Int
  e : Int

instance : Inhabited Got := ⟨⟨0, [], 0, 0⟩⟩
structure Bdg where
  epoch : Int
  tag : Int

instance : Inhabited Bdg := ⟨⟨0, 0⟩⟩
structure Hlo where
  owner : Int
  epoch : Int
  tag : Int

instance : Inhabited Hlo := ⟨⟨0, 0, 0⟩⟩
end Go.Proofs

/- Small functions (printed by gen.py) -/
set_option linter.unusedSimpArgs false
set_option linter.unusedVariables false
set_option maxRecDepth 100000
namespace Go.Proofs
open Go.Sy Go.Lib

noncomputable def AsksB_F (k : Int) : Option (Bool) :=
  Option.bind (α := Bool) (cond (k == 2) (some (k == 2)) (cond (k == 3) (some (k == 3)) (cond (k == 4) (some (k == 4)) (cond (k == 6) (some (k == 6)) (some (k == 7)))))) (fun m1 => cond m1 (some true) (some false))
end Go.Proofs

/- Small functions of the document (printed by gen.py) -/
set_option linter.unusedSimpArgs false
set_option linter.unusedVariables false
set_option maxRecDepth 100000
namespace Go.Proofs
open Go.Sy Go.Lib

end Go.Proofs

/- The server's parts: accounts, buckets. -/
set_option linter.unusedSimpArgs false
set_option linter.unusedVariables false
set_option maxRecDepth 100000
namespace Go.Proofs
open Go.Sy Go.Lib

abbrev accA (g : Nat) (l t : Int) : Abs := boxA g 177 [I64 l, I64 t]
theorem accSet_A (g : Nat) (l t x : Int) : FnA Tryz.prog 227 [PT g 0, I64 x] [accA g l t] (fun r cs' => cs' = [accA g (max 0 (min x 1048576)) t]) := by
  refine FnA.intro Tryz.tabOK Tryz.wide_ Tryz.func227 rfl (by decide) rfl (fun X => ?_)
  repeat (first | refine sc rfl ?_ | refine so rfl ?_ | refine sb rfl ?_)
  refine O_Xd (X_ptrnnil Tryz.underlying287 rfl rfl rfl) ?_
  repeat (first | refine sc rfl ?_ | refine so rfl ?_ | refine sb rfl ?_)
  refine C_true rfl rfl ?_
  repeat (first | refine sc rfl ?_ | refine so rfl ?_ | refine sb rfl ?_)
  first
    | refine O_Xn (X_storeP 0 (writes_box (by show 0 < 2; decide)) rfl rfl rfl rfl rfl rfl rfl) ?_
    | refine O_Xn (X_storeP 1 (writes_box (by show 0 < 2; decide)) rfl rfl rfl rfl rfl rfl rfl) ?_
    | refine O_Xn (X_storeP 2 (writes_box (by show 0 < 2; decide)) rfl rfl rfl rfl rfl rfl rfl) ?_
    | refine O_Xn (X_storeP 3 (writes_box (by show 0 < 2; decide)) rfl rfl rfl rfl rfl rfl rfl) ?_
    | refine O_Xn (X_storeP 4 (writes_box (by show 0 < 2; decide)) rfl rfl rfl rfl rfl rfl rfl) ?_
  repeat (first | refine sc rfl ?_ | refine so rfl ?_ | refine sb rfl ?_)
  first
    | exact ⟨_, [_], _, rfl, pickA_perm (is := [0]) (As := [_]) rfl, rfl, rfl⟩
    | exact ⟨_, [_], _, rfl, pickA_perm (is := [1]) (As := [_]) rfl, rfl, rfl⟩
    | exact ⟨_, [_], _, rfl, pickA_perm (is := [2]) (As := [_]) rfl, rfl, rfl⟩
    | exact ⟨_, [_], _, rfl, pickA_perm (is := [3]) (As := [_]) rfl, rfl, rfl⟩
    | exact ⟨_, [_], _, rfl, pickA_perm (is := [4]) (As := [_]) rfl, rfl, rfl⟩
theorem accNew_A (x : Int) : FnA Tryz.prog 184 [I64 x] [] (fun r cs' => ∃ g, r = PT g 0 ∧ cs' = [accA g (max 0 (min x 1048576)) 0]) := by
  refine FnA.intro Tryz.tabOK Tryz.wide_ Tryz.func184 rfl (by decide) rfl (fun X => ?_)
  iterate 11 (first | refine sc rfl ?_ | refine so rfl ?_ | refine sb rfl ?_)
  refine C_absb 3 rfl rfl rfl (fun g => ?_)
  repeat (first | refine sc rfl ?_ | refine so rfl ?_ | refine sb rfl ?_)
  first
    | refine O_callA [0] (accSet_A g 0 0 x) (by rfl) (by rfl) (by rfl) (by rfl) (by rfl) ?_
    | refine O_callA [1] (accSet_A g 0 0 x) (by rfl) (by rfl) (by rfl) (by rfl) (by rfl) ?_
    | refine O_callA [2] (accSet_A g 0 0 x) (by rfl) (by rfl) (by rfl) (by rfl) (by rfl) ?_
    | refine O_callA [3] (accSet_A g 0 0 x) (by rfl) (by rfl) (by rfl) (by rfl) (by rfl) ?_
    | refine O_callA [4] (accSet_A g 0 0 x) (by rfl) (by rfl) (by rfl) (by rfl) (by rfl) ?_
  rintro r cs' rfl
  repeat (first | refine sc rfl ?_ | refine so rfl ?_ | refine sb rfl ?_)
  first
    | exact ⟨_, [_], _, rfl, pickA_perm (is := [0]) (As := [_]) rfl, rfl, g, rfl, rfl⟩
    | exact ⟨_, [_], _, rfl, pickA_perm (is := [1]) (As := [_]) rfl, rfl, g, rfl, rfl⟩
    | exact ⟨_, [_], _, rfl, pickA_perm (is := [2]) (As := [_]) rfl, rfl, g, rfl, rfl⟩
    | exact ⟨_, [_], _, rfl, pickA_perm (is := [3]) (As := [_]) rfl, rfl, g, rfl, rfl⟩
    | exact ⟨_, [_], _, rfl, pickA_perm (is := [4]) (As := [_]) rfl, rfl, g, rfl, rfl⟩

end Go.Proofs

/- The server's parts: buckets. -/
set_option linter.unusedSimpArgs false
set_option linter.unusedVariables false
set_option maxRecDepth 100000
namespace Go.Proofs
open Go.Sy Go.Lib

abbrev wi (x : Int) : Int := max 0 (min x 1048576)
abbrev bktA (g : Nat) (r b l : Int) : Abs := boxA g 175 [I64 r, I64 b, I64 l]
theorem within_c (x lo hi : Int) : FnP Tryz.prog 268 [I64 x, I64 lo, I64 hi] (· = I64 (max lo (min x hi))) := by
  refine FnP.intro Tryz.tabOK Tryz.wide_ Tryz.func268 rfl (by decide) rfl (fun X => ?_)
  repeat (first | refine sc rfl ?_ | refine so rfl ?_ | refine sb rfl ?_)
  exact ⟨_, rfl, rfl, rfl⟩
theorem bktSet_A (g : Nat) (r b l x y : Int) : FnA Tryz.prog 226 [PT g 0, I64 x, I64 y] [bktA g r b l] (fun _ cs' => cs' = [bktA g (wi x) (wi y) (min l (wi y))]) := by
  refine FnA.intro Tryz.tabOK Tryz.wide_ Tryz.func226 rfl (by decide) rfl (fun X => ?_)
  repeat (first | refine sc rfl ?_ | refine so rfl ?_ | refine sb rfl ?_)
  refine O_Xd (X_ptrnil Tryz.underlying269 rfl rfl rfl) ?_
  repeat (first | refine sc rfl ?_ | refine so rfl ?_ | refine sb rfl ?_)
  refine C_false rfl rfl ?_
  repeat (first | refine sc rfl ?_ | refine so rfl ?_ | refine sb rfl ?_)
  refine O_call (within_c x 0 1048576) (by rfl) (by rfl) (by rfl) (by rfl) (fun r' hr => ?_)
  subst hr
  repeat (first | refine sc rfl ?_ | refine so rfl ?_ | refine sb rfl ?_)
  refine O_call (within_c y 0 1048576) (by rfl) (by rfl) (by rfl) (by rfl) (fun r' hr => ?_)
  subst hr
  repeat (first | refine sc rfl ?_ | refine so rfl ?_ | refine sb rfl ?_)
  first
    | refine O_Xn (X_storeP 0 (writes_box (by show 0 < 3; decide)) rfl rfl rfl rfl rfl rfl rfl) ?_
    | refine O_Xn (X_storeP 1 (writes_box (by show 0 < 3; decide)) rfl rfl rfl rfl rfl rfl rfl) ?_
    | refine O_Xn (X_storeP 2 (writes_box (by show 0 < 3; decide)) rfl rfl rfl rfl rfl rfl rfl) ?_
    | refine O_Xn (X_storeP 3 (writes_box (by show 0 < 3; decide)) rfl rfl rfl rfl rfl rfl rfl) ?_
    | refine O_Xn (X_storeP 4 (writes_box (by show 0 < 3; decide)) rfl rfl rfl rfl rfl rfl rfl) ?_
  repeat (first | refine sc rfl ?_ | refine so rfl ?_ | refine sb rfl ?_)
  first
    | refine O_Xn (X_storeP 0 (writes_box (by show 1 < 3; decide)) rfl rfl rfl rfl rfl rfl rfl) ?_
    | refine O_Xn (X_storeP 1 (writes_box (by show 1 < 3; decide)) rfl rfl rfl rfl rfl rfl rfl) ?_
    | refine O_Xn (X_storeP 2 (writes_box (by show 1 < 3; decide)) rfl rfl rfl rfl rfl rfl rfl) ?_
    | refine O_Xn (X_storeP 3 (writes_box (by show 1 < 3; decide)) rfl rfl rfl rfl rfl rfl rfl) ?_
    | refine O_Xn (X_storeP 4 (writes_box (by show 1 < 3; decide)) rfl rfl rfl rfl rfl rfl rfl) ?_
  repeat (first | refine sc rfl ?_ | refine so rfl ?_ | refine sb rfl ?_)
  refine C_drawU 20 10 rfl (by kernel_rfl) (by kernel_rfl) (by kernel_rfl) ?_
  repeat (first | refine sd rfl ?_ | refine sdb rfl ?_ | refine sds rfl ?_)
  refine D_X (I64 l) (X_loadP 0 (reads_box 2) rfl rfl rfl rfl rfl rfl) ?_
  repeat (first | refine sd rfl ?_ | refine sdb rfl ?_ | refine sds rfl ?_)
  refine D_X (I64 (wi y)) (X_loadP 0 (reads_box 1) rfl rfl rfl rfl rfl rfl) ?_
  repeat (first | refine sd rfl ?_ | refine sdb rfl ?_ | refine sds rfl ?_)
  repeat (first | refine sc rfl ?_ | refine so rfl ?_ | refine sb rfl ?_)
  first
    | refine O_Xn (X_storeP 0 (writes_box (by show 2 < 3; decide)) rfl rfl rfl rfl rfl rfl rfl) ?_
    | refine O_Xn (X_storeP 1 (writes_box (by show 2 < 3; decide)) rfl rfl rfl rfl rfl rfl rfl) ?_
    | refine O_Xn (X_storeP 2 (writes_box (by show 2 < 3; decide)) rfl rfl rfl rfl rfl rfl rfl) ?_
    | refine O_Xn (X_storeP 3 (writes_box (by show 2 < 3; decide)) rfl rfl rfl rfl rfl rfl rfl) ?_
    | refine O_Xn (X_storeP 4 (writes_box (by show 2 < 3; decide)) rfl rfl rfl rfl rfl rfl rfl) ?_
  repeat (first | refine sc rfl ?_ | refine so rfl ?_ | refine sb rfl ?_)
  first
    | exact ⟨_, [_], _, rfl, pickA_perm (is := [0]) (As := [_]) rfl, rfl, rfl⟩
    | exact ⟨_, [_], _, rfl, pickA_perm (is := [1]) (As := [_]) rfl, rfl, rfl⟩
    | exact ⟨_, [_], _, rfl, pickA_perm (is := [2]) (As := [_]) rfl, rfl, rfl⟩
    | exact ⟨_, [_], _, rfl, pickA_perm (is := [3]) (As := [_]) rfl, rfl, rfl⟩
    | exact ⟨_, [_], _, rfl, pickA_perm (is := [4]) (As := [_]) rfl, rfl, rfl⟩
theorem bktNew_A (x y : Int) : FnA Tryz.prog 183 [I64 x, I64 y] [] (fun r cs' => ∃ g, r = PT g 0 ∧ cs' = [bktA g (wi x) (wi y) (wi y)]) := by
  refine FnA.intro Tryz.tabOK Tryz.wide_ Tryz.func183 rfl (by decide) rfl (fun X => ?_)
  iterate 11 (first | refine sc rfl ?_ | refine so rfl ?_ | refine sb rfl ?_)
  refine C_absb 5 rfl rfl rfl (fun g => ?_)
  repeat (first | refine sc rfl ?_ | refine so rfl ?_ | refine sb rfl ?_)
  first
    | refine O_callA [0] (bktSet_A g 0 0 0 x y) (by rfl) (by rfl) (by rfl) (by rfl) (by rfl) ?_
    | refine O_callA [1] (bktSet_A g 0 0 0 x y) (by rfl) (by rfl) (by rfl) (by rfl) (by rfl) ?_
    | refine O_callA [2] (bktSet_A g 0 0 0 x y) (by rfl) (by rfl) (by rfl) (by rfl) (by rfl) ?_
    | refine O_callA [3] (bktSet_A g 0 0 0 x y) (by rfl) (by rfl) (by rfl) (by rfl) (by rfl) ?_
    | refine O_callA [4] (bktSet_A g 0 0 0 x y) (by rfl) (by rfl) (by rfl) (by rfl) (by rfl) ?_
  rintro r cs' rfl
  repeat (first | refine sc rfl ?_ | refine so rfl ?_ | refine sb rfl ?_)
  first
    | refine O_loadP 0 (reads_box 1) rfl rfl rfl rfl rfl rfl ?_
    | refine O_loadP 1 (reads_box 1) rfl rfl rfl rfl rfl rfl ?_
    | refine O_loadP 2 (reads_box 1) rfl rfl rfl rfl rfl rfl ?_
    | refine O_loadP 3 (reads_box 1) rfl rfl rfl rfl rfl rfl ?_
    | refine O_loadP 4 (reads_box 1) rfl rfl rfl rfl rfl rfl ?_
  repeat (first | refine sc rfl ?_ | refine so rfl ?_ | refine sb rfl ?_)
  first
    | refine O_Xn (X_storeP 0 (writes_box (by show 2 < 3; decide)) rfl rfl rfl rfl rfl rfl rfl) ?_
    | refine O_Xn (X_storeP 1 (writes_box (by show 2 < 3; decide)) rfl rfl rfl rfl rfl rfl rfl) ?_
    | refine O_Xn (X_storeP 2 (writes_box (by show 2 < 3; decide)) rfl rfl rfl rfl rfl rfl rfl) ?_
    | refine O_Xn (X_storeP 3 (writes_box (by show 2 < 3; decide)) rfl rfl rfl rfl rfl rfl rfl) ?_
    | refine O_Xn (X_storeP 4 (writes_box (by show 2 < 3; decide)) rfl rfl rfl rfl rfl rfl rfl) ?_
  repeat (first | refine sc rfl ?_ | refine so rfl ?_ | refine sb rfl ?_)
  first
    | exact ⟨_, [_], _, rfl, pickA_perm (is := [0]) (As := [_]) rfl, rfl, g, rfl, rfl⟩
    | exact ⟨_, [_], _, rfl, pickA_perm (is := [1]) (As := [_]) rfl, rfl, g, rfl, rfl⟩
    | exact ⟨_, [_], _, rfl, pickA_perm (is := [2]) (As := [_]) rfl, rfl, g, rfl, rfl⟩
    | exact ⟨_, [_], _, rfl, pickA_perm (is := [3]) (As := [_]) rfl, rfl, g, rfl, rfl⟩
    | exact ⟨_, [_], _, rfl, pickA_perm (is := [4]) (As := [_]) rfl, rfl, g, rfl, rfl⟩

/-- The gate's tokens. -/
abbrev gatA (g : Nat) (r b l m1 m2 s1 s2 o1 o2 : Int) (q : Bool) : Abs := boxA g 179 [I64 r, I64 b, I64 l, I64 m1, I64 m2, I64 s1, I64 s2, I64 o1, I64 o2, B q]
end Go.Proofs

/- The server's parts: dice, tags (of a new server). -/
set_option linter.unusedSimpArgs false
set_option linter.unusedVariables false
set_option maxRecDepth 100000
namespace Go.Proofs
open Go.Sy Go.Lib

abbrev z63 : List AV := [U64 0,U64 0,U64 0,U64 0,U64 0,U64 0,U64 0,U64 0,U64 0,U64 0,U64 0,U64 0,U64 0,U64 0,U64 0,U64 0,U64 0,U64 0,U64 0,U64 0,U64 0,U64 0,U64 0,U64 0,U64 0,U64 0,U64 0,U64 0,U64 0,U64 0,U64 0,U64 0,U64 0,U64 0,U64 0,U64 0,U64 0,U64 0,U64 0,U64 0,U64 0,U64 0,U64 0,U64 0,U64 0,U64 0,U64 0,U64 0,U64 0,U64 0,U64 0,U64 0,U64 0,U64 0,U64 0,U64 0,U64 0,U64 0,U64 0,U64 0,U64 0,U64 0,U64 0]
abbrev diceA (g : Nat) (x f k : Int) : Abs := boxA g 110 (U64 x :: (z63 ++ [I64 f, I64 k]))
theorem diceNew_A : FnA Tryz.prog 126 [] [] (fun r cs' => ∃ g, r = PT g 0 ∧ cs' = [diceA g 0 0 0]) := by
  refine FnA.intro Tryz.tabOK Tryz.wide_ Tryz.func126 rfl (by decide) rfl (fun X => ?_)
  iterate 9 (first | refine sc rfl ?_ | refine so rfl ?_ | refine sb rfl ?_)
  refine O_absb 0 rfl rfl rfl (fun g => ?_)
  repeat (first | refine sc rfl ?_ | refine so rfl ?_ | refine sb rfl ?_)
  first
    | exact ⟨_, [_], _, rfl, pickA_perm (is := [0]) (As := [_]) rfl, rfl, g, rfl, rfl⟩
    | exact ⟨_, [_], _, rfl, pickA_perm (is := [1]) (As := [_]) rfl, rfl, g, rfl, rfl⟩
    | exact ⟨_, [_], _, rfl, pickA_perm (is := [2]) (As := [_]) rfl, rfl, g, rfl, rfl⟩
    | exact ⟨_, [_], _, rfl, pickA_perm (is := [3]) (As := [_]) rfl, rfl, g, rfl, rfl⟩
    | exact ⟨_, [_], _, rfl, pickA_perm (is := [4]) (As := [_]) rfl, rfl, g, rfl, rfl⟩
theorem dicePut_A (g : Nat) (x : Int) : FnA Tryz.prog 72 [PT g 0, U64 x] [diceA g 0 0 0] (fun r cs' => r = B true ∧ cs' = [diceA g x 0 1]) := by
  refine FnA.intro Tryz.tabOK Tryz.wide_ Tryz.func72 rfl (by decide) rfl (fun X => ?_)
  repeat (first | refine sc rfl ?_ | refine so rfl ?_ | refine sb rfl ?_)
  refine O_Xd (X_ptrnil Tryz.underlying233 rfl rfl rfl) ?_
  repeat (first | refine sc rfl ?_ | refine so rfl ?_ | refine sb rfl ?_)
  first
    | refine O_loadP 0 (reads_box 65) rfl rfl rfl rfl rfl rfl ?_
    | refine O_loadP 1 (reads_box 65) rfl rfl rfl rfl rfl rfl ?_
    | refine O_loadP 2 (reads_box 65) rfl rfl rfl rfl rfl rfl ?_
    | refine O_loadP 3 (reads_box 65) rfl rfl rfl rfl rfl rfl ?_
    | refine O_loadP 4 (reads_box 65) rfl rfl rfl rfl rfl rfl ?_
  repeat (first | refine sc rfl ?_ | refine so rfl ?_ | refine sb rfl ?_)
  refine C_false rfl rfl ?_
  repeat (first | refine sc rfl ?_ | refine so rfl ?_ | refine sb rfl ?_)
  refine C_drawU 20 14 rfl (by kernel_rfl) (by kernel_rfl) (by kernel_rfl) ?_
  repeat (first | refine sd rfl ?_ | refine sdb rfl ?_ | refine sds rfl ?_)
  refine D_X (I64 0) (X_loadP 0 (reads_box 64) rfl rfl rfl rfl rfl rfl) ?_
  repeat (first | refine sd rfl ?_ | refine sdb rfl ?_ | refine sds rfl ?_)
  refine D_X (I64 0) (X_loadP 0 (reads_box 65) rfl rfl rfl rfl rfl rfl) ?_
  repeat (first | refine sd rfl ?_ | refine sdb rfl ?_ | refine sds rfl ?_)
  refine ⟨by decide, ?_⟩
  repeat (first | refine sd rfl ?_ | refine sdb rfl ?_ | refine sds rfl ?_)
  repeat (first | refine sc rfl ?_ | refine so rfl ?_ | refine sb rfl ?_)
  refine O_Xd (X_idxP (i := 0) (len := 64) rfl rfl (by decide) (by decide) rfl rfl rfl rfl) ?_
  repeat (first | refine sc rfl ?_ | refine so rfl ?_ | refine sb rfl ?_)
  first
    | refine O_Xn (X_storeP 0 (writes_box (by show 0 < 66; decide)) rfl rfl rfl rfl rfl rfl rfl) ?_
    | refine O_Xn (X_storeP 1 (writes_box (by show 0 < 66; decide)) rfl rfl rfl rfl rfl rfl rfl) ?_
    | refine O_Xn (X_storeP 2 (writes_box (by show 0 < 66; decide)) rfl rfl rfl rfl rfl rfl rfl) ?_
    | refine O_Xn (X_storeP 3 (writes_box (by show 0 < 66; decide)) rfl rfl rfl rfl rfl rfl rfl) ?_
    | refine O_Xn (X_storeP 4 (writes_box (by show 0 < 66; decide)) rfl rfl rfl rfl rfl rfl rfl) ?_
  repeat (first | refine sc rfl ?_ | refine so rfl ?_ | refine sb rfl ?_)
  first
    | refine O_loadP 0 (reads_box 65) rfl rfl rfl rfl rfl rfl ?_
    | refine O_loadP 1 (reads_box 65) rfl rfl rfl rfl rfl rfl ?_
    | refine O_loadP 2 (reads_box 65) rfl rfl rfl rfl rfl rfl ?_
    | refine O_loadP 3 (reads_box 65) rfl rfl rfl rfl rfl rfl ?_
    | refine O_loadP 4 (reads_box 65) rfl rfl rfl rfl rfl rfl ?_
  repeat (first | refine sc rfl ?_ | refine so rfl ?_ | refine sb rfl ?_)
  first
    | refine O_Xn (X_storeP 0 (writes_box (by show 65 < 66; decide)) rfl rfl rfl rfl rfl rfl rfl) ?_
    | refine O_Xn (X_storeP 1 (writes_box (by show 65 < 66; decide)) rfl rfl rfl rfl rfl rfl rfl) ?_
    | refine O_Xn (X_storeP 2 (writes_box (by show 65 < 66; decide)) rfl rfl rfl rfl rfl rfl rfl) ?_
    | refine O_Xn (X_storeP 3 (writes_box (by show 65 < 66; decide)) rfl rfl rfl rfl rfl rfl rfl) ?_
    | refine O_Xn (X_storeP 4 (writes_box (by show 65 < 66; decide)) rfl rfl rfl rfl rfl rfl rfl) ?_
  repeat (first | refine sc rfl ?_ | refine so rfl ?_ | refine sb rfl ?_)
  first
    | exact ⟨_, [_], _, rfl, pickA_perm (is := [0]) (As := [_]) rfl, rfl, rfl, rfl⟩
    | exact ⟨_, [_], _, rfl, pickA_perm (is := [1]) (As := [_]) rfl, rfl, rfl, rfl⟩
    | exact ⟨_, [_], _, rfl, pickA_perm (is := [2]) (As := [_]) rfl, rfl, rfl, rfl⟩
    | exact ⟨_, [_], _, rfl, pickA_perm (is := [3]) (As := [_]) rfl, rfl, rfl, rfl⟩
    | exact ⟨_, [_], _, rfl, pickA_perm (is := [4]) (As := [_]) rfl, rfl, rfl, rfl⟩
theorem diceTake_A (g : Nat) (x : Int) : FnA Tryz.prog 186 [PT g 0] [diceA g x 0 1] (fun r cs' => r = .tup [U64 x, B true] ∧ cs' = [diceA g x 1 0]) := by
  refine FnA.intro Tryz.tabOK Tryz.wide_ Tryz.func186 rfl (by decide) rfl (fun X => ?_)
  repeat (first | refine sc rfl ?_ | refine so rfl ?_ | refine sb rfl ?_)
  refine O_Xd (X_ptrnil Tryz.underlying233 rfl rfl rfl) ?_
  repeat (first | refine sc rfl ?_ | refine so rfl ?_ | refine sb rfl ?_)
  first
    | refine O_loadP 0 (reads_box 65) rfl rfl rfl rfl rfl rfl ?_
    | refine O_loadP 1 (reads_box 65) rfl rfl rfl rfl rfl rfl ?_
    | refine O_loadP 2 (reads_box 65) rfl rfl rfl rfl rfl rfl ?_
    | refine O_loadP 3 (reads_box 65) rfl rfl rfl rfl rfl rfl ?_
    | refine O_loadP 4 (reads_box 65) rfl rfl rfl rfl rfl rfl ?_
  repeat (first | refine sc rfl ?_ | refine so rfl ?_ | refine sb rfl ?_)
  refine C_false rfl rfl ?_
  repeat (first | refine sc rfl ?_ | refine so rfl ?_ | refine sb rfl ?_)
  refine C_drawU 20 9 rfl (by kernel_rfl) (by kernel_rfl) (by kernel_rfl) ?_
  repeat (first | refine sd rfl ?_ | refine sdb rfl ?_ | refine sds rfl ?_)
  refine D_X (I64 0) (X_loadP 0 (reads_box 64) rfl rfl rfl rfl rfl rfl) ?_
  repeat (first | refine sd rfl ?_ | refine sdb rfl ?_ | refine sds rfl ?_)
  refine D_X _ (X_idxP (i := 0) (len := 64) rfl rfl (by decide) (by decide) rfl rfl rfl rfl) ?_
  repeat (first | refine sd rfl ?_ | refine sdb rfl ?_ | refine sds rfl ?_)
  refine D_X (U64 x) (X_loadP 0 (reads_box 0) rfl rfl rfl rfl rfl rfl) ?_
  repeat (first | refine sd rfl ?_ | refine sdb rfl ?_ | refine sds rfl ?_)
  repeat (first | refine sc rfl ?_ | refine so rfl ?_ | refine sb rfl ?_)
  first
    | refine O_loadP 0 (reads_box 64) rfl rfl rfl rfl rfl rfl ?_
    | refine O_loadP 1 (reads_box 64) rfl rfl rfl rfl rfl rfl ?_
    | refine O_loadP 2 (reads_box 64) rfl rfl rfl rfl rfl rfl ?_
    | refine O_loadP 3 (reads_box 64) rfl rfl rfl rfl rfl rfl ?_
    | refine O_loadP 4 (reads_box 64) rfl rfl rfl rfl rfl rfl ?_
  repeat (first | refine sc rfl ?_ | refine so rfl ?_ | refine sb rfl ?_)
  refine ⟨by decide, ?_⟩
  repeat (first | refine sc rfl ?_ | refine so rfl ?_ | refine sb rfl ?_)
  first
    | refine O_Xn (X_storeP 0 (writes_box (by show 64 < 66; decide)) rfl rfl rfl rfl rfl rfl rfl) ?_
    | refine O_Xn (X_storeP 1 (writes_box (by show 64 < 66; decide)) rfl rfl rfl rfl rfl rfl rfl) ?_
    | refine O_Xn (X_storeP 2 (writes_box (by show 64 < 66; decide)) rfl rfl rfl rfl rfl rfl rfl) ?_
    | refine O_Xn (X_storeP 3 (writes_box (by show 64 < 66; decide)) rfl rfl rfl rfl rfl rfl rfl) ?_
    | refine O_Xn (X_storeP 4 (writes_box (by show 64 < 66; decide)) rfl rfl rfl rfl rfl rfl rfl) ?_
  repeat (first | refine sc rfl ?_ | refine so rfl ?_ | refine sb rfl ?_)
  first
    | refine O_loadP 0 (reads_box 65) rfl rfl rfl rfl rfl rfl ?_
    | refine O_loadP 1 (reads_box 65) rfl rfl rfl rfl rfl rfl ?_
    | refine O_loadP 2 (reads_box 65) rfl rfl rfl rfl rfl rfl ?_
    | refine O_loadP 3 (reads_box 65) rfl rfl rfl rfl rfl rfl ?_
    | refine O_loadP 4 (reads_box 65) rfl rfl rfl rfl rfl rfl ?_
  repeat (first | refine sc rfl ?_ | refine so rfl ?_ | refine sb rfl ?_)
  first
    | refine O_Xn (X_storeP 0 (writes_box (by show 65 < 66; decide)) rfl rfl rfl rfl rfl rfl rfl) ?_
    | refine O_Xn (X_storeP 1 (writes_box (by show 65 < 66; decide)) rfl rfl rfl rfl rfl rfl rfl) ?_
    | refine O_Xn (X_storeP 2 (writes_box (by show 65 < 66; decide)) rfl rfl rfl rfl rfl rfl rfl) ?_
    | refine O_Xn (X_storeP 3 (writes_box (by show 65 < 66; decide)) rfl rfl rfl rfl rfl rfl rfl) ?_
    | refine O_Xn (X_storeP 4 (writes_box (by show 65 < 66; decide)) rfl rfl rfl rfl rfl rfl rfl) ?_
  repeat (first | refine sc rfl ?_ | refine so rfl ?_ | refine sb rfl ?_)
  first
    | exact ⟨_, [_], _, rfl, pickA_perm (is := [0]) (As := [_]) rfl, rfl, rfl, rfl⟩
    | exact ⟨_, [_], _, rfl, pickA_perm (is := [1]) (As := [_]) rfl, rfl, rfl, rfl⟩
    | exact ⟨_, [_], _, rfl, pickA_perm (is := [2]) (As := [_]) rfl, rfl, rfl, rfl⟩
    | exact ⟨_, [_], _, rfl, pickA_perm (is := [3]) (As := [_]) rfl, rfl, rfl, rfl⟩
    | exact ⟨_, [_], _, rfl, pickA_perm (is := [4]) (As := [_]) rfl, rfl, rfl, rfl⟩
theorem mix_c (a b : Int) : FnP Tryz.prog 187 [U64 a, U64 b] (fun r => ∃ x, r = U64 x) := by
  refine FnP.intro Tryz.tabOK Tryz.wide_ Tryz.func187 rfl (by decide) rfl (fun X => ?_)
  repeat (first | refine sc rfl ?_ | refine so rfl ?_ | refine sb rfl ?_)
  refine ⟨by decide, ?_⟩
  repeat (first | refine sc rfl ?_ | refine so rfl ?_ | refine sb rfl ?_)
  refine ⟨by decide, ?_⟩
  repeat (first | refine sc rfl ?_ | refine so rfl ?_ | refine sb rfl ?_)
  exact ⟨_, rfl, rfl, _, rfl⟩
theorem owns0_c : FnP Tryz.prog 185 [I64 0] (· = B true) := by
  refine FnP.intro Tryz.tabOK Tryz.wide_ Tryz.func185 rfl (by decide) rfl (fun X => ?_)
  repeat (first | refine sc rfl ?_ | refine so rfl ?_ | refine sb rfl ?_)
  exact ⟨_, rfl, rfl, rfl⟩

/-- The tags' table: nothing issued, or one tag of the admin. -/
abbrev mac0 (g : Nat) : Abs := boxA g 317 [I64 0,I64 0,I64 0,I64 0,I64 0,I64 0,I64 0,I64 0,I64 0,I64 0,U64 0,I64 0,U64 0,I64 0,U64 0,I64 0,U64 0,I64 0,U64 0,I64 0,U64 0,I64 0,U64 0,I64 0,U64 0,I64 0,U64 0]
abbrev mac1 (g : Nat) (c : Int) : Abs := boxA g 317 [I64 1,I64 0,I64 0,I64 0,I64 0,I64 0,I64 0,I64 0,I64 0,I64 1,U64 c,I64 0,U64 0,I64 0,U64 0,I64 0,U64 0,I64 0,U64 0,I64 0,U64 0,I64 0,U64 0,I64 0,U64 0,I64 0,U64 0]
theorem macNew_A : FnA Tryz.prog 124 [] [] (fun r cs' => ∃ g, r = PT g 0 ∧ cs' = [mac0 g]) := by
  refine FnA.intro Tryz.tabOK Tryz.wide_ Tryz.func124 rfl (by decide) rfl (fun X => ?_)
  iterate 9 (first | refine sc rfl ?_ | refine so rfl ?_ | refine sb rfl ?_)
  refine O_absb 0 rfl rfl rfl (fun g => ?_)
  repeat (first | refine sc rfl ?_ | refine so rfl ?_ | refine sb rfl ?_)
  first
    | exact ⟨_, [_], _, rfl, pickA_perm (is := [0]) (As := [_]) rfl, rfl, g, rfl, rfl⟩
    | exact ⟨_, [_], _, rfl, pickA_perm (is := [1]) (As := [_]) rfl, rfl, g, rfl, rfl⟩
    | exact ⟨_, [_], _, rfl, pickA_perm (is := [2]) (As := [_]) rfl, rfl, g, rfl, rfl⟩
    | exact ⟨_, [_], _, rfl, pickA_perm (is := [3]) (As := [_]) rfl, rfl, g, rfl, rfl⟩
    | exact ⟨_, [_], _, rfl, pickA_perm (is := [4]) (As := [_]) rfl, rfl, g, rfl, rfl⟩
theorem issue_A (g d : Nat) (x : Int) : FnA Tryz.prog 127 [PT g 0, I64 0, PT d 0] [mac0 g, diceA d x 0 1] (fun r cs' => ∃ c, r = .tup [I64 1, U64 c, I64 0] ∧ cs' = [mac1 g c, diceA d x 1 0]) := by
  refine FnA.intro Tryz.tabOK Tryz.wide_ Tryz.func127 rfl (by decide) rfl (fun X => ?_)
  repeat (first | refine sc rfl ?_ | refine so rfl ?_ | refine sb rfl ?_)
  refine O_Xd (X_ptrnil Tryz.underlying107 rfl rfl rfl) ?_
  repeat (first | refine sc rfl ?_ | refine so rfl ?_ | refine sb rfl ?_)
  refine C_false rfl rfl ?_
  repeat (first | refine sc rfl ?_ | refine so rfl ?_ | refine sb rfl ?_)
  refine O_call owns0_c (by rfl) (by rfl) (by rfl) (by rfl) (fun r' hr => ?_)
  subst hr
  repeat (first | refine sc rfl ?_ | refine so rfl ?_ | refine sb rfl ?_)
  refine C_false rfl rfl ?_
  repeat (first | refine sc rfl ?_ | refine so rfl ?_ | refine sb rfl ?_)
  first
    | refine O_callA [0] (diceTake_A d x) (by rfl) (by rfl) (by rfl) (by rfl) (by rfl) ?_
    | refine O_callA [1] (diceTake_A d x) (by rfl) (by rfl) (by rfl) (by rfl) (by rfl) ?_
    | refine O_callA [2] (diceTake_A d x) (by rfl) (by rfl) (by rfl) (by rfl) (by rfl) ?_
    | refine O_callA [3] (diceTake_A d x) (by rfl) (by rfl) (by rfl) (by rfl) (by rfl) ?_
    | refine O_callA [4] (diceTake_A d x) (by rfl) (by rfl) (by rfl) (by rfl) (by rfl) ?_
  rintro r' cs' ⟨rfl, rfl⟩
  repeat (first | refine sc rfl ?_ | refine so rfl ?_ | refine sb rfl ?_)
  refine C_false rfl rfl ?_
  repeat (first | refine sc rfl ?_ | refine so rfl ?_ | refine sb rfl ?_)
  refine C_drawU 20 9 rfl (by kernel_rfl) (by kernel_rfl) (by kernel_rfl) ?_
  repeat (first | refine sd rfl ?_ | refine sdb rfl ?_ | refine sds rfl ?_)
  refine D_X _ (X_idxP (i := 0) (len := 9) rfl rfl (by decide) (by decide) rfl rfl rfl rfl) ?_
  repeat (first | refine sd rfl ?_ | refine sdb rfl ?_ | refine sds rfl ?_)
  refine D_X (I64 0) (X_loadP 1 (reads_box 0) rfl rfl rfl rfl rfl rfl) ?_
  repeat (first | refine sd rfl ?_ | refine sdb rfl ?_ | refine sds rfl ?_)
  repeat (first | refine sc rfl ?_ | refine so rfl ?_ | refine sb rfl ?_)
  refine O_Xd (X_idxP (i := 0) (len := 9) rfl rfl (by decide) (by decide) rfl rfl rfl rfl) ?_
  repeat (first | refine sc rfl ?_ | refine so rfl ?_ | refine sb rfl ?_)
  first
    | refine O_Xn (X_storeP 0 (writes_box (by show 0 < 27; decide)) rfl rfl rfl rfl rfl rfl rfl) ?_
    | refine O_Xn (X_storeP 1 (writes_box (by show 0 < 27; decide)) rfl rfl rfl rfl rfl rfl rfl) ?_
    | refine O_Xn (X_storeP 2 (writes_box (by show 0 < 27; decide)) rfl rfl rfl rfl rfl rfl rfl) ?_
    | refine O_Xn (X_storeP 3 (writes_box (by show 0 < 27; decide)) rfl rfl rfl rfl rfl rfl rfl) ?_
    | refine O_Xn (X_storeP 4 (writes_box (by show 0 < 27; decide)) rfl rfl rfl rfl rfl rfl rfl) ?_
  repeat (first | refine sc rfl ?_ | refine so rfl ?_ | refine sb rfl ?_)
  refine O_Xd (X_idxP (i := 0) (len := 9) rfl rfl (by decide) (by decide) rfl rfl rfl rfl) ?_
  repeat (first | refine sc rfl ?_ | refine so rfl ?_ | refine sb rfl ?_)
  first
    | refine O_loadP 0 (reads_box 0) rfl rfl rfl rfl rfl rfl ?_
    | refine O_loadP 1 (reads_box 0) rfl rfl rfl rfl rfl rfl ?_
    | refine O_loadP 2 (reads_box 0) rfl rfl rfl rfl rfl rfl ?_
    | refine O_loadP 3 (reads_box 0) rfl rfl rfl rfl rfl rfl ?_
    | refine O_loadP 4 (reads_box 0) rfl rfl rfl rfl rfl rfl ?_
  repeat (first | refine sc rfl ?_ | refine so rfl ?_ | refine sb rfl ?_)
  refine ⟨by decide, ?_⟩
  repeat (first | refine sc rfl ?_ | refine so rfl ?_ | refine sb rfl ?_)
  refine O_call (mix_c _ _) (by rfl) (by rfl) (by rfl) (by rfl) (fun r' hr => ?_)
  obtain ⟨c, rfl⟩ := hr
  repeat (first | refine sc rfl ?_ | refine so rfl ?_ | refine sb rfl ?_)
  refine O_Xd (X_idxP (i := 0) (len := 9) rfl rfl (by decide) (by decide) rfl rfl rfl rfl) ?_
  repeat (first | refine sc rfl ?_ | refine so rfl ?_ | refine sb rfl ?_)
  first
    | refine O_Xn (X_storeB 0 (writesN_box (cells := [I64 1,I64 0,I64 0,I64 0,I64 0,I64 0,I64 0,I64 0,I64 0,I64 0,U64 0,I64 0,U64 0,I64 0,U64 0,I64 0,U64 0,I64 0,U64 0,I64 0,U64 0,I64 0,U64 0,I64 0,U64 0,I64 0,U64 0]) (new := [I64 1, U64 (max c 1)]) (o := 9) (by show 9 + 2 ≤ 27; decide)) rfl rfl rfl rfl rfl rfl rfl) ?_
    | refine O_Xn (X_storeB 1 (writesN_box (cells := [I64 1,I64 0,I64 0,I64 0,I64 0,I64 0,I64 0,I64 0,I64 0,I64 0,U64 0,I64 0,U64 0,I64 0,U64 0,I64 0,U64 0,I64 0,U64 0,I64 0,U64 0,I64 0,U64 0,I64 0,U64 0,I64 0,U64 0]) (new := [I64 1, U64 (max c 1)]) (o := 9) (by show 9 + 2 ≤ 27; decide)) rfl rfl rfl rfl rfl rfl rfl) ?_
  repeat (first | refine sc rfl ?_ | refine so rfl ?_ | refine sb rfl ?_)
  first
    | exact ⟨_, [_, _], _, rfl, pickA_perm (is := [0, 0]) (As := [_, _]) rfl, rfl, max c 1, rfl, rfl⟩
    | exact ⟨_, [_, _], _, rfl, pickA_perm (is := [0, 1]) (As := [_, _]) rfl, rfl, max c 1, rfl, rfl⟩
    | exact ⟨_, [_, _], _, rfl, pickA_perm (is := [0, 2]) (As := [_, _]) rfl, rfl, max c 1, rfl, rfl⟩
    | exact ⟨_, [_, _], _, rfl, pickA_perm (is := [0, 3]) (As := [_, _]) rfl, rfl, max c 1, rfl, rfl⟩
    | exact ⟨_, [_, _], _, rfl, pickA_perm (is := [0, 4]) (As := [_, _]) rfl, rfl, max c 1, rfl, rfl⟩
    | exact ⟨_, [_, _], _, rfl, pickA_perm (is := [0, 5]) (As := [_, _]) rfl, rfl, max c 1, rfl, rfl⟩
    | exact ⟨_, [_, _], _, rfl, pickA_perm (is := [1, 0]) (As := [_, _]) rfl, rfl, max c 1, rfl, rfl⟩
    | exact ⟨_, [_, _], _, rfl, pickA_perm (is := [1, 1]) (As := [_, _]) rfl, rfl, max c 1, rfl, rfl⟩
    | exact ⟨_, [_, _], _, rfl, pickA_perm (is := [1, 2]) (As := [_, _]) rfl, rfl, max c 1, rfl, rfl⟩
    | exact ⟨_, [_, _], _, rfl, pickA_perm (is := [1, 3]) (As := [_, _]) rfl, rfl, max c 1, rfl, rfl⟩
    | exact ⟨_, [_, _], _, rfl, pickA_perm (is := [1, 4]) (As := [_, _]) rfl, rfl, max c 1, rfl, rfl⟩
    | exact ⟨_, [_, _], _, rfl, pickA_perm (is := [1, 5]) (As := [_, _]) rfl, rfl, max c 1, rfl, rfl⟩
    | exact ⟨_, [_, _], _, rfl, pickA_perm (is := [2, 0]) (As := [_, _]) rfl, rfl, max c 1, rfl, rfl⟩
    | exact ⟨_, [_, _], _, rfl, pickA_perm (is := [2, 1]) (As := [_, _]) rfl, rfl, max c 1, rfl, rfl⟩
    | exact ⟨_, [_, _], _, rfl, pickA_perm (is := [2, 2]) (As := [_, _]) rfl, rfl, max c 1, rfl, rfl⟩
    | exact ⟨_, [_, _], _, rfl, pickA_perm (is := [2, 3]) (As := [_, _]) rfl, rfl, max c 1, rfl, rfl⟩
    | exact ⟨_, [_, _], _, rfl, pickA_perm (is := [2, 4]) (As := [_, _]) rfl, rfl, max c 1, rfl, rfl⟩
    | exact ⟨_, [_, _], _, rfl, pickA_perm (is := [2, 5]) (As := [_, _]) rfl, rfl, max c 1, rfl, rfl⟩
    | exact ⟨_, [_, _], _, rfl, pickA_perm (is := [3, 0]) (As := [_, _]) rfl, rfl, max c 1, rfl, rfl⟩
    | exact ⟨_, [_, _], _, rfl, pickA_perm (is := [3, 1]) (As := [_, _]) rfl, rfl, max c 1, rfl, rfl⟩
    | exact ⟨_, [_, _], _, rfl, pickA_perm (is := [3, 2]) (As := [_, _]) rfl, rfl, max c 1, rfl, rfl⟩
    | exact ⟨_, [_, _], _, rfl, pickA_perm (is := [3, 3]) (As := [_, _]) rfl, rfl, max c 1, rfl, rfl⟩
    | exact ⟨_, [_, _], _, rfl, pickA_perm (is := [3, 4]) (As := [_, _]) rfl, rfl, max c 1, rfl, rfl⟩
    | exact ⟨_, [_, _], _, rfl, pickA_perm (is := [3, 5]) (As := [_, _]) rfl, rfl, max c 1, rfl, rfl⟩
    | exact ⟨_, [_, _], _, rfl, pickA_perm (is := [4, 0]) (As := [_, _]) rfl, rfl, max c 1, rfl, rfl⟩
    | exact ⟨_, [_, _], _, rfl, pickA_perm (is := [4, 1]) (As := [_, _]) rfl, rfl, max c 1, rfl, rfl⟩
    | exact ⟨_, [_, _], _, rfl, pickA_perm (is := [4, 2]) (As := [_, _]) rfl, rfl, max c 1, rfl, rfl⟩
    | exact ⟨_, [_, _], _, rfl, pickA_perm (is := [4, 3]) (As := [_, _]) rfl, rfl, max c 1, rfl, rfl⟩
    | exact ⟨_, [_, _], _, rfl, pickA_perm (is := [4, 4]) (As := [_, _]) rfl, rfl, max c 1, rfl, rfl⟩
    | exact ⟨_, [_, _], _, rfl, pickA_perm (is := [4, 5]) (As := [_, _]) rfl, rfl, max c 1, rfl, rfl⟩
    | exact ⟨_, [_, _], _, rfl, pickA_perm (is := [5, 0]) (As := [_, _]) rfl, rfl, max c 1, rfl, rfl⟩
    | exact ⟨_, [_, _], _, rfl, pickA_perm (is := [5, 1]) (As := [_, _]) rfl, rfl, max c 1, rfl, rfl⟩
    | exact ⟨_, [_, _], _, rfl, pickA_perm (is := [5, 2]) (As := [_, _]) rfl, rfl, max c 1, rfl, rfl⟩
    | exact ⟨_, [_, _], _, rfl, pickA_perm (is := [5, 3]) (As := [_, _]) rfl, rfl, max c 1, rfl, rfl⟩
    | exact ⟨_, [_, _], _, rfl, pickA_perm (is := [5, 4]) (As := [_, _]) rfl, rfl, max c 1, rfl, rfl⟩
    | exact ⟨_, [_, _], _, rfl, pickA_perm (is := [5, 5]) (As := [_, _]) rfl, rfl, max c 1, rfl, rfl⟩
    | exact ⟨_, [_, _], _, rfl, pickA_perm (is := [6, 0]) (As := [_, _]) rfl, rfl, max c 1, rfl, rfl⟩
    | exact ⟨_, [_, _], _, rfl, pickA_perm (is := [6, 1]) (As := [_, _]) rfl, rfl, max c 1, rfl, rfl⟩
    | exact ⟨_, [_, _], _, rfl, pickA_perm (is := [6, 2]) (As := [_, _]) rfl, rfl, max c 1, rfl, rfl⟩
    | exact ⟨_, [_, _], _, rfl, pickA_perm (is := [6, 3]) (As := [_, _]) rfl, rfl, max c 1, rfl, rfl⟩
    | exact ⟨_, [_, _], _, rfl, pickA_perm (is := [6, 4]) (As := [_, _]) rfl, rfl, max c 1, rfl, rfl⟩
    | exact ⟨_, [_, _], _, rfl, pickA_perm (is := [6, 5]) (As := [_, _]) rfl, rfl, max c 1, rfl, rfl⟩
end Go.Proofs

/- The symbolic walk, part 77: a call that gives a pointer to a new variable, in drawn regions of effects. -/
set_option linter.unusedSimpArgs false
set_option linter.unusedVariables false
namespace Go.Sy
open Go.RowKit
section
variable {P : Program} {T : Tab} {X : Ctx P T} {n : Nat} {e : Env} {st : St} {a : Act} {w : World} {ops : Array Oper} {K : St → Prop}

theorem Rel.newMu {s : List (Nat × AV)} {c : List Ch} (r : Rel X n e ⟨s, c⟩ a w) (d b : Nat) (hd : Nat.blt d n = true) (hf : freshS d s = true) (hc : freshC d c = true) : Rel X n { e with μ := upd e.μ d b } ⟨s, c⟩ a w := by
  have hd' : d < n := by have := hd; simp [Nat.blt] at this; omega
  have hnod : ∀ {x : AV}, x.no d = true → ∀ j, x.no j = false → j ≠ d := fun hx j hj he => by subst he; rw [hx] at hj; cases hj
  have hid : ∀ (q : Nat), q ≠ d → upd e.μ d b q = e.μ q := fun q hq => by simp [upd, hq]
  refine { r with slots := ?_, heap := ?_, fix := ?_ }
  · intro j x hx
    obtain ⟨v', h1, h2⟩ := r.slots j x hx
    exact ⟨v', h1, Rep.mono (e := e) (f := { e with μ := upd e.μ d b }) (IM.le_refl _) x (fun q hq => ⟨hid q (hnod (freshS_get hf j x hx) q hq), rfl⟩) h2⟩
  · refine HeapOK.grow r.heap (IM.le_refl _) (fun x hcm j hj => ⟨hid j ?_, rfl⟩) (fun b hb => rfl) (Nat.le_refl _) (fun b _ h => h)
    intro he; subst he; rw [freshC_mem hc x hcm] at hj; cases hj
  · intro k hk
    show upd e.μ d b k = _
    rw [hid k (by omega)]
    exact r.fix k hk

/-- A call that gives a pointer to a new variable. -/
theorem X_callNew {p : Pl} {f : FuncId} {dst : Nat} {args : Array Operand} {tys : Array TypeId} {ty : TypeId} {pos : String} {aft : Array Edge} {gd : Option (Nat × Bool)} {j : Nat} {avs : List AV} {t : TypeId} {cells : List AV}
    {Si : List (Nat × AV)} {c : List Ch} (hf : FnA P f avs [] (fun r cs' => ∃ g, r = PT g 0 ∧ cs' = [boxA g t cells])) (hg : guardA ops ⟨Si, c⟩ ⟨some dst, .call ⟨.value (.func f), args, tys⟩, ty, pos, aft, gd⟩ = some true) (ha : opds Si args.toList = some avs) (himm : AV.imm.immL avs = true)
    (hd : Nat.blt dst n = true) (hcre : (j, dst) ∈ p.cre) (hc : freshC dst c = true) (hno : AV.no.noL dst cells = true) :
    StepX X n ops p Si c (.box dst t cells :: c) j ⟨some dst, .call ⟨.value (.func f), args, tys⟩, ty, pos, aft, gd⟩ (.bp dst 0) := by
  intro e a w S K Q r hS hcr hk
  have r' : Rel X n e ⟨Si, c⟩ a w := r.less hS (fun h => h)
  rw [if_pos (guardA_sound r' hg)]
  refine .inl ?_
  unfold Oper.wp
  rw [run_call hf.1 a.eval rfl w, Oper.upon_enter]
  have h1 := RepT.toI avs himm (opds_sound r' ha)
  rw [map_eval]
  have hp : c.Perm (([] : List Abs).map Ch.abs ++ c) := .refl _
  have hd2 := (r.heap.perm hp).absOK
  have hfree : ∀ k y, get S k = some y → y.no dst = true := fun k y h => hcr k y h (j, dst) hcre rfl
  refine (hf.2 e.G w _ ⟨r.im, r.mz⟩ h1 hd2.1).mono ?_
  rintro en w' ⟨rv, cv, cs', G', ⟨g, rfl, rfl⟩, rfl, g1, g2, g3, g4, g5, g6, o1, o2, o3, o4, o5⟩
  have r2 := r.swapAbs (st := ⟨S, c⟩) hp g2 g4 g3 g5 g6 ⟨o1, o2, o3⟩ o4 o5
  have r3 : Rel X n ⟨G', e.μ, e.hd⟩ ⟨S.filter fun q => q.2.no dst, .abs (boxA g t cells) :: c⟩ a w' := r2.less (fun k y h => get_unfilter hfree h) (fun h => h)
  have r4 := r3.newMu dst g hd (freshS_filter dst S) (by simpa [freshC, Ch.no] using hc)
  have hcv : cv = .pointer (some ⟨g, 0, none⟩) := by simpa only [RepI] using g1
  have r5 : Rel X n ⟨G', upd e.μ dst g, e.hd⟩ ⟨S.filter fun q => q.2.no dst, .box dst t cells :: c⟩ a w' := { r4 with
    slots := r4.slots
    heap := HeapOK.retell r4.heap (fun bs hb => by
      obtain ⟨h1, h2⟩ := hb
      obtain ⟨arr, h3, h4⟩ := h2
      exact ⟨by simpa [upd, boxA] using h1, arr, by simpa [upd] using h3, RepIL.toRep (e := ⟨G', upd e.μ dst g, e.hd⟩) cells h4⟩) }
  refine hk _ _ _ _ (r5.put hd (x := .bp dst 0) (v := cv) (by simp only [Rep, hcv]; simp [upd])) ⟨?_, ?_, ?_⟩
  · rintro d' h'
    cases h'
    rw [get_cons, if_pos rfl]
  · intro k y hne hy _
    rw [get_cons, if_neg (fun h => hne (by rw [h]))]
    exact get_filter hy (hfree k y hy)
  · intro k y hy
    rw [get_cons] at hy
    by_cases h : dst = k
    · rw [if_pos h] at hy; cases hy; exact .inl ⟨by rw [h], rfl⟩
    · rw [if_neg h] at hy; exact .inr (.inl (get_unfilter hfree hy))
end
end Go.Sy

/- The symbolic walk, part 56: drawn regions that turn memory, with a tail in its order. -/
set_option linter.unusedSimpArgs false
set_option linter.unusedVariables false
namespace Go.Sy
open Go.RowKit

section
variable {P : Program} {T : Tab} {X : Ctx P T} {n : Nat} {e : Env} {st : St} {a : Act} {w : World} {ops : Array Oper} {K : St → Prop}

theorem StepX.perm {p : Pl} {Si : List (Nat × AV)} {c c2 c3 : List Ch} {i : Nat} {o : Oper} {x : AV} (h : StepX X n ops p Si c c2 i o x) (hp : c2.Perm c3) : StepX X n ops p Si c c3 i o x :=
  fun e a w S K Q r hS hcr hk => h e a w S K Q r hS hcr (fun e' a' w' S' r' hu => hk e' a' w' S' (r'.less (fun k y hh => hh) (fun hh => hh.perm hp)) hu)

theorem any_of_MT {p : Pl} {base : List (Nat × AV)} {C : (Nat → Bool) → List Ch} {D : Done} {Q : QX X} {m f : Nat} (ht : tailB ops f m = true) (hE : ∀ e ∈ p.E, e < m) (hC : ∀ L L' : Nat → Bool, (∀ e ∈ p.E, L e = L' e) → C L = C L') (hA : p.ancB ops = true) (hbse : p.baseB base = true) (hD : D.length = m)
    (hstep : ∀ i o, i < m → ops[i]? = some o → ∃ x, D[i]? = some (o.dst, x) ∧ p.creB i x = true ∧ ∀ L : Nat → Bool, (∀ a ∈ p.anc i, L a = true) → (∀ q, i ∈ p.anc q → L q = false) → L i = false → StepX X n ops p (availX p i (D.take i) o.after.toList base) (C L) (if i ∈ p.E then C (setM L i) else C L) i o x)
    (hedge : ∀ i o, ops[i]? = some o → ∀ e ∈ o.after, Region.binds .any e = true → e.on < i)
    (hdist : ∀ (i j : Nat) o o' d, i < m → j < m → ops[i]? = some o → ops[j]? = some o' → o.dst = some d → o'.dst = some d → i = j)
    (hbase : ∀ (i : Nat) o d, i < m → ops[i]? = some o → o.dst = some d → get base d = none)
    (hfin : ∀ e a w, Rel X n e ⟨finS base (killD p D), C (fun _ => true)⟩ a w → wpList P ops Q (ops.toList.drop m) a w) :
    ∀ (fuel : Nat) (listed : Array Bool) (a : Act) (w : World) (e : Env) (S : List (Nat × AV)), listed.size = ops.size → listed.toList.count false = fuel → ClosedL ops listed → Rel X n e ⟨S, C (fun e => listed.getD e false)⟩ a w → (∀ j, m ≤ j → listed.getD j false = false) →
      (∀ k y, get base k = some y → get S k = some y) →
      (∀ (i : Nat) d x, listed.getD i false = true → D[i]? = some (some d, x) → (∀ q ∈ p.ki, listed.getD q.1 false = true → x.noO q.2 = true) → get S d = some x) →
      (∀ k y, get S k = some y → ∀ q ∈ p.cre, listed.getD q.1 false = false → y.no q.2 = true) →
      wpAny P .any ops Q fuel listed a w := by
  have ht' := ht
  unfold tailB at ht'
  simp only [Bool.and_eq_true, List.all_eq_true, List.mem_range, Array.length_toList] at ht'
  obtain ⟨⟨hm, hcov⟩, hch⟩ := ht'
  have hm' : m < ops.size := by have h := hm; simp [Nat.blt] at h; omega
  have cnt : ∀ (l : List Bool) (k : Nat), k ≤ l.length → (∀ j, j < l.length → (l[j]? = some true ↔ j < k)) → l.count false + k = l.length := by
    intro l
    induction l with
    | nil => intro k hk _; simp at hk; simp [hk]
    | cons b l ih =>
      intro k hk h
      cases k with
      | zero =>
        have hb : b = false := by
          have := h 0 (by simp)
          cases b
          · rfl
          · simp at this
        subst hb
        have := ih 0 (Nat.zero_le _) (fun j hj => by have := h (j + 1) (by simpa using hj); simpa using this)
        simp at this ⊢; omega
      | succ k =>
        have hb : b = true := by
          have := h 0 (by simp)
          simpa using this
        subst hb
        have := ih k (by simpa using hk) (fun j hj => by have := h (j + 1) (by simpa using hj); simpa using this)
        simp at this ⊢; omega
  have bspec : ∀ {l : List (Nat × AV)}, p.baseB l = true → ∀ k y, get l k = some y → (∀ q ∈ p.cre, y.no q.2 = true) ∧ ∀ q ∈ p.ki, y.noO q.2 = true := by
    intro l
    induction l with
    | nil => intro _ k y h; simp [get] at h
    | cons z l ih =>
      obtain ⟨j, v⟩ := z
      intro h k y hy
      simp only [Pl.baseB, Bool.and_eq_true, List.all_eq_true] at h
      rw [get_cons] at hy
      by_cases hj : j = k
      · rw [if_pos hj] at hy; cases hy; exact ⟨h.1.1, h.1.2⟩
      · rw [if_neg hj] at hy; exact ih h.2 k y hy
  have ancL : ∀ {listed : Array Bool}, ClosedL ops listed → ∀ i, i < ops.size → (∀ j ∈ predsB ops i, listed.getD j false = true) → ∀ a ∈ p.anc i, listed.getD a false = true := by
    intro listed hc i
    induction i using Nat.strongRecOn with
    | ind i ih =>
      intro hi hp a ha
      have h1 := List.all_eq_true.1 (List.all_eq_true.1 hA i (by simpa using hi)) a ha
      simp only [Bool.or_eq_true, List.contains_iff_mem, List.any_eq_true] at h1
      rcases h1 with h1 | ⟨q, hq, h1⟩
      · exact hp a h1
      · obtain ⟨o, ho, ed, he, hb, rfl⟩ := mem_preds hq
        have hlt := hedge i o ho ed he hb
        refine ih ed.on hlt (by omega) (fun j hj => ?_) a h1
        obtain ⟨o', ho', ed', he', hb', rfl⟩ := mem_preds hj
        exact hc ed.on o' (hp _ hq) ho' ed' he' hb'
  have ancLd : ∀ {listed : Array Bool}, listed.size = ops.size → ClosedL ops listed → ∀ i, listed.getD i false = true → ∀ a ∈ p.anc i, listed.getD a false = true := by
    intro listed hsz hc i hi
    have hlt : i < ops.size := by
      rcases Nat.lt_or_ge i ops.size with h | h
      · exact h
      · rw [← hsz] at h; simp [Nat.not_lt.2 h] at hi
    refine ancL hc i hlt (fun j hj => ?_)
    obtain ⟨o, ho, ed, he, hb, rfl⟩ := mem_preds hj
    exact hc i o hi ho ed he hb
  intro fuel
  induction fuel with
  | zero =>
    intro listed a w e S hsz hc hcl r hge hb hs hcr
    exfalso
    have h1 := hge m (Nat.le_refl _)
    have hls : m < listed.size := by omega
    have : false ∈ listed.toList := by
      simp [hls] at h1
      exact List.mem_iff_getElem.2 ⟨m, by simpa using hls, by simpa using h1⟩
    have := List.count_pos_iff.2 this
    omega
  | succ fuel ih =>
    intro listed a w e S hsz hc hcl r hge hb hs hcr
    by_cases hall : ∀ j, j < m → listed.getD j false = true
    · -- all that is drawn is done
      have hlt : ∀ j, j < ops.size → (listed.getD j false = true ↔ j < m) := fun j hj => by
        constructor
        · intro h
          rcases Nat.lt_or_ge j m with h1 | h1
          · exact h1
          · rw [hge j h1] at h; cases h
        · exact hall j
      have hcount : listed.toList.count false + m = ops.size := by
        have := cnt listed.toList m (by simp; omega) (fun j hj => by
          have hjl : j < listed.size := by simpa using hj
          have := hlt j (by omega)
          simp [hjl] at this ⊢
          exact this)
        simpa [hsz] using this
      refine any_tail ht hedge (fuel + 1) m listed a w (by omega) (Nat.le_refl _) hsz hlt ?_
      rw [hC (fun e => listed.getD e false) (fun _ => true) (fun e he => hall e (hE e he))] at r
      refine hfin e a w (r.less (fun k y hk => ?_) (fun h => h))
      rcases finS_get hk with ⟨i, hi⟩ | h
      · obtain ⟨hi, he⟩ := killD_get hi
        have hil : i < D.length := by
          rcases Nat.lt_or_ge i D.length with h | h
          · exact h
          · rw [List.getElem?_eq_none h] at hi; cases hi
        exact hs i k y (hall i (by omega)) hi (fun q hq _ => List.all_eq_true.1 he q hq)
      · exact hb k y h
    -- what may come up now is drawn
    have hlow : ∀ i ∈ Region.ready .any ops listed, i < m := by
      intro i hi
      rw [mem_ready] at hi
      obtain ⟨h0, o, ho, hpre⟩ := hi
      rcases Nat.lt_or_ge i m with h | h
      · exact h
      · exfalso
        have hlt : i < ops.size := (Array.getElem?_eq_some_iff.1 ho).1
        rcases Nat.eq_or_lt_of_le h with h | h
        · subst h
          refine hall (fun j hj => ?_)
          have hc := hcov j hj
          rw [List.contains_iff_mem] at hc
          refine ancs_listed hcl f m (fun q hq => ?_) j hc
          obtain ⟨o', ho', ed, he, hbb, rfl⟩ := mem_preds hq
          rw [ho] at ho'; cases ho'
          exact hpre ed he hbb
        · have hc := hch (i - m - 1) (by omega)
          rw [show m + 1 + (i - m - 1) = i by omega, show m + (i - m - 1) = i - 1 by omega, List.contains_iff_mem] at hc
          obtain ⟨o', ho', ed, he, hbb, hon⟩ := mem_preds hc
          rw [ho] at ho'; cases ho'
          have := hpre ed he hbb
          rw [hon, hge (i - 1) (by omega)] at this
          cases this
    refine ⟨fun hr => ?_, fun i hi => ?_⟩
    · exfalso
      refine hall (fun j => ?_)
      induction j using Nat.strongRecOn with
      | ind j ihj =>
        intro hj
        cases hl : listed.getD j true with
        | true =>
          have : j < listed.size := by omega
          simp [this] at hl ⊢
          exact hl
        | false =>
          exfalso
          have hmem : j ∈ Region.ready .any ops listed := by
            rw [mem_ready]
            refine ⟨hl, ops[j], by simp [show j < ops.size by omega], fun e he hbb => ?_⟩
            have h1 := hedge j ops[j] (by simp [show j < ops.size by omega]) e he hbb
            exact ihj e.on h1 (by omega)
          rw [hr] at hmem; cases hmem
    · have him := hlow i hi
      rw [mem_ready] at hi
      obtain ⟨h0, o, ho, hpre⟩ := hi
      have hlt : i < ops.size := (Array.getElem?_eq_some_iff.1 ho).1
      have hif : listed.getD i false = false := by
        have : i < listed.size := by omega
        simp [this] at h0 ⊢
        exact h0
      have hlf : listed.toList[i]? = some false := by
        have : i < listed.size := by omega
        simp [this] at h0 ⊢
        exact h0
      have hpl : ∀ j ∈ predsB ops i, listed.getD j false = true := by
        intro j hj
        obtain ⟨o', ho', ed, he, hb', rfl⟩ := mem_preds hj
        rw [ho] at ho'
        cases ho'
        exact hpre ed he hb'
      have hanc := ancL hcl i hlt hpl
      obtain ⟨x, hx, hcre, hst⟩ := hstep i o him ho
      unfold wpOp
      simp only [ho]
      have hhi : ∀ q, i ∈ p.anc q → listed.getD q false = false := fun q hq => by
        cases hb : listed.getD q false with
        | false => rfl
        | true => rw [ancLd hsz hcl q hb i hq] at hif; cases hif
      have hav : ∀ k y, get (availX p i (D.take i) o.after.toList base) k = some y → get S k = some y := by
        intro k y hk
        rcases availX_get hk with ⟨ed, h1, h2, h3, h5⟩ | h
        · have h4 : D[ed.on]? = some (some k, y) := by
            rw [List.getElem?_take] at h3
            split at h3
            · exact h3
            · cases h3
          refine hs ed.on k y (hpre ed (by simpa using h1) h2) h4 (fun q hq hql => ?_)
          have h6 := List.all_eq_true.1 h5 q hq
          simp only [Bool.or_eq_true, List.contains_iff_mem] at h6
          rcases h6 with (h6 | h6) | h6
          · exact h6
          · have := Nat.eq_of_beq_eq_true h6
            rw [← this, hif] at hql; cases hql
          · rw [ancLd hsz hcl q.1 hql i h6] at hif; cases hif
        · exact hb k y h
      have hset : ∀ j, j ≠ i → (listed.setIfInBounds i true).getD j false = listed.getD j false := fun j hj => getD_set_ne false (Ne.symm hj)
      have hseti : (listed.setIfInBounds i true).getD i false = true := by
        have : i < listed.size := by omega
        simp [this]
      have hphn : (if i ∈ p.E then C (setM (fun e => listed.getD e false) i) else C (fun e => listed.getD e false)) = C (fun e => (listed.setIfInBounds i true).getD e false) := by
        have h1 : C (setM (fun e => listed.getD e false) i) = C (fun e => (listed.setIfInBounds i true).getD e false) := by
          congr 1; funext k; unfold setM
          by_cases hk : k = i
          · rw [if_pos hk, hk, hseti]
          · rw [if_neg hk, hset k hk]
        by_cases hi : i ∈ p.E
        · rw [if_pos hi, h1]
        · rw [if_neg hi]
          exact hC _ _ (fun e he => (hset e (fun h => hi (h ▸ he))).symm)
      refine hst (fun e => listed.getD e false) hanc hhi hif e a w S _ Q r hav (fun k y hy q hq hqi => hcr k y hy q hq (by rw [hqi]; exact hif)) (fun e' a' w' S' r' hu => ?_)
      refine ih (listed.setIfInBounds i true) a' w' e' S' (by simpa using hsz) ?_ ?_ (by rw [← hphn]; exact r') (fun j hj => by rw [hset j (by omega)]; exact hge j hj) (fun k y hk => ?_) (fun j d y hj hy hq => ?_) (fun k y hy q hq hql => ?_)
      · rw [Array.toList_setIfInBounds]
        have hlt' : i < listed.toList.length := by simpa using (by omega : i < listed.size)
        have hg : listed.toList[i] = false := by
          have := List.getElem?_eq_getElem hlt'
          rw [hlf] at this
          simpa using this.symm
        rw [List.count_set hlt', hg, hc]
        simp
      · intro j o' hj ho' ed he hb'
        by_cases hji : j = i
        · subst hji
          rw [ho] at ho'; cases ho'
          have := hpre ed he hb'
          by_cases h : ed.on = j
          · rw [h]; exact hseti
          · rw [hset _ h]; exact this
        · rw [hset j hji] at hj
          have := hcl j o' hj ho' ed he hb'
          by_cases h : ed.on = i
          · rw [h]; exact hseti
          · rw [hset _ h]; exact this
      · refine hu.2.1 k y (fun h => ?_) (hb k y hk) (fun q hq _ => (bspec hbse k y hk).2 q hq)
        rw [hbase i o k him ho h] at hk; cases hk
      · by_cases hji : j = i
        · subst hji
          rw [hx] at hy
          simp only [Option.some.injEq, Prod.mk.injEq] at hy
          rw [← hy.2]
          exact hu.1 d hy.1
        · rw [hset j hji] at hj
          have hold := hs j d y hj hy (fun q hqk hql => hq q hqk (by
            by_cases h : q.1 = i
            · rw [h]; exact hseti
            · rw [hset _ h]; exact hql))
          refine hu.2.1 d y (fun h => ?_) hold (fun q hqk hqi => hq q hqk (by rw [hqi]; exact hseti))
          have hjl : j < m := by
            rw [← hD]
            rcases Nat.lt_or_ge j D.length with h | h
            · exact h
            · rw [List.getElem?_eq_none h] at hy; cases hy
          obtain ⟨x', hx', _⟩ := hstep j ops[j] hjl (by simp [show j < ops.size by omega])
          rw [hx'] at hy
          simp only [Option.some.injEq, Prod.mk.injEq] at hy
          exact hji (hdist j i ops[j] o d hjl him (by simp [show j < ops.size by omega]) ho hy.1 h)
      · have hqi : q.1 ≠ i := fun h => by rw [h, hseti] at hql; cases hql
        rw [hset _ hqi] at hql
        rcases hu.2.2 k y hy with ⟨_, rfl⟩ | h | rfl
        · have h6 := List.all_eq_true.1 hcre q hq
          simp only [Bool.or_eq_true, List.contains_iff_mem] at h6
          rcases h6 with (h6 | h6) | h6
          · exact absurd (Nat.eq_of_beq_eq_true h6) hqi
          · rw [hanc q.1 h6] at hql; cases hql
          · exact h6
        · exact hcr k y h q hq hql
        · rfl

/-- What is asked of the plan alone, where a tail follows. -/
def Pl.fineT (p : Pl) (ops : Array Oper) (base : List (Nat × AV)) (m : Nat) : Bool :=
  p.ancB ops && p.baseB base && (p.E.all fun e => Nat.blt e m)

/-- The first m operations of a drawn region come in any order, and turn memory; the rest follows in its order. -/
theorem C_drawMT (p : Pl) (f m : Nat) {id : Nat} {Q : Exit → St → Prop} {s base : List (Nat × AV)} {c : List Ch} (C : (Nat → Bool) → List Ch) (hb : eraseD (ops.toList.take m) s = some base) (hchk : chkD base 0 [] (ops.toList.take m) = true) (hed : edgesB ops = true)
    (ht : tailB ops f m = true) (hfine : p.fineT ops base m = true) (hC : ∀ L L' : Nat → Bool, (∀ e ∈ p.E, L e = L' e) → C L = C L') (h0 : C (fun _ => false) = c)
    (h : SymM X n ops p base C (fun s => SymO X n ops (ops.toList.drop m) s (fun s => Q .normal s)) (ops.toList.take m) []) : SymC X n (.region id ops true) ⟨s, c⟩ Q := by
  intro e a w r
  have hbs : ∀ k y, get base k = some y → get s k = some y := fun k y hk => eraseD_get hb hk
  simp only [Pl.fineT, Bool.and_eq_true] at hfine
  obtain ⟨⟨g1, g2⟩, g3⟩ := hfine
  obtain ⟨D, _, hl, hK, hs⟩ := h.plan
  obtain ⟨c1, c2⟩ := chkD_spec hchk
  have hbel : Below w.heap.size w { w with drawn := w.drawn + 1 } := ⟨rfl, rfl, rfl, Nat.le_refl _, fun _ _ => rfl⟩
  have hm : m < ops.size := by
    unfold tailB at ht
    simp only [Bool.and_eq_true] at ht
    have h1 := ht.1.1
    simp [Nat.blt] at h1; omega
  have hEs : ∀ e ∈ p.E, e < m := fun e he => by
    have := List.all_eq_true.1 g3 e he
    simp [Nat.blt] at this; omega
  have htk : ∀ (i : Nat) (o : Oper), i < m → ops[i]? = some o → (ops.toList.take m)[i]? = some o := fun i o him ho => by rw [List.getElem?_take, if_pos him]; simpa using ho
  have hrep : ∀ i, (Array.replicate ops.size false).getD i false = false := fun i => by
    rcases Nat.lt_or_ge i ops.size with h | h
    · simp [h]
    · simp [Nat.not_lt.2 h]
  refine wp_region_any X.wide ?_
  refine any_of_MT (X := X) (Q := concX X n Q) (n := n) (p := p) (base := base) (C := C) (D := D) (f := f) (m := m) ht hEs hC g1 g2 (by simp at hl; omega) (fun i o him ho => ?_) (fun i o ho => ?_) (fun i j o o' d him hjm hi hj => c2 i j o o' d (htk i o him hi) (htk j o' hjm hj)) (fun i o d him ho hd => ((c1 i o (htk i o him ho)).2 d hd).1)
    (fun e a w r => hK e a w (concX X n Q) r fun e' st' _ _ hk hr => ⟨e', st', hr, hk⟩) _ _ a _ e base (by simp) (by simp) (fun j o hj => by rw [hrep] at hj; cases hj) ?_ (fun j hj => hrep j) (fun k y hk => hk) (fun i d x hi => by rw [hrep] at hi; cases hi) ?_
  · have := hs i o (htk i o him ho)
    simpa using this
  · intro ed he hb'
    have hi : i < ops.toList.length := by
      have := (Array.getElem?_eq_some_iff.1 ho).1
      simpa using this
    have h1 := List.all_eq_true.1 hed i (List.mem_range.2 hi)
    have h2 := List.all_eq_true.1 h1 ed.on (by
      unfold predsB
      rw [show ops.toList[i]? = some o by simpa using ho]
      exact List.mem_map.2 ⟨ed, List.mem_filter.2 ⟨by simpa using he, hb'⟩, rfl⟩)
    simp [Nat.blt] at h2; omega
  · have h1 : C (fun e => (Array.replicate ops.size false).getD e false) = C (fun _ => false) := hC _ _ (fun e _ => hrep e)
    rw [h1, h0]
    exact (r.below hbel).less hbs (fun h => h)
  · intro k y hy q hq _
    have : ∀ {l : List (Nat × AV)}, p.baseB l = true → get l k = some y → y.no q.2 = true := by
      intro l
      induction l with
      | nil => intro _ h; simp [get] at h
      | cons z l ih =>
        obtain ⟨j, v⟩ := z
        intro h hy
        simp only [Pl.baseB, Bool.and_eq_true, List.all_eq_true] at h
        rw [get_cons] at hy
        by_cases hj : j = k
        · rw [if_pos hj] at hy; cases hy; exact h.1.1 q hq
        · rw [if_neg hj] at hy; exact ih h.2 hy
    exact this g2 hy
end
end Go.Sy

/- The server's parts: the gate of a new server. -/
set_option linter.unusedSimpArgs false
set_option linter.unusedVariables false
set_option maxRecDepth 100000
namespace Go.Proofs
open Go.Sy Go.Lib

theorem admin_c : FnP Tryz.prog 111 [] (· = .agg [I64 1040, I64 1048576, I64 1048576, I64 0, I64 0, I64 32, I64 2, I64 0, I64 0]) := by
  refine FnP.intro Tryz.tabOK Tryz.wide_ Tryz.func111 rfl (by decide) rfl (fun X => ?_)
  repeat (first | refine sc rfl ?_ | refine so rfl ?_ | refine sb rfl ?_)
  exact ⟨_, rfl, rfl, rfl⟩
def CG (b a1 a2 a3 : List AV) (x4 x9 x14 x19 : Bool) : List Ch :=
  (bif x19 then [.box 22 177 a3] else []) ++ ((bif x14 then [.box 17 177 a2] else []) ++ ((bif x9 then [.box 12 177 a1] else []) ++ (bif x4 then [.box 7 175 b] else [])))
def PG1 : Pl := ⟨[[], [], [], [], [], [4], [4], [], [], [4], [9], [9], [], [], [4, 9], [14], [14], [], [], [4, 9, 14], [19], [19], [], [], []], [4, 9, 14, 19], [(4, 7), (9, 12), (14, 17), (19, 22)], []⟩
theorem gatNew_A (u r b m s o cn st de : Int) : FnA Tryz.prog 125 [.agg [I64 u, I64 r, I64 b, I64 m, I64 s, I64 o, I64 cn, I64 st, I64 de]] [] (fun x cs' => ∃ g, x = PT g 0 ∧ cs' = [gatA g (wi r) (wi b) (wi b) (wi m) 0 (wi s) 0 (wi o) 0 false]) := by
  refine FnA.intro Tryz.tabOK Tryz.wide_ Tryz.func125 rfl (by decide) rfl (fun X => ?_)
  repeat (first | refine sc rfl ?_ | refine so rfl ?_ | refine sb rfl ?_)
  refine C_le _ (Le.freezebox 1 rfl rfl rfl) ?_
  refine C_drawMT PG1 20 22 (fun L => CG [I64 (wi r), I64 (wi b), I64 (wi b)] [I64 (wi m), I64 0] [I64 (wi s), I64 0] [I64 (wi o), I64 0] (L 4) (L 9) (L 14) (L 19)) rfl (by kernel_rfl) (by kernel_rfl) (by kernel_rfl) (by kernel_rfl) (fun L L' h => by simp only [h 4 (by decide), h 9 (by decide), h 14 (by decide), h 19 (by decide)]) rfl ?_
  repeat (refine sm rfl ⟨trivial, ?_⟩)
  refine SM (.bp 7 0) rfl (fun L h1 h2 h3 => ?_) ?_
  · show StepX _ _ _ _ _ (CG [I64 (wi r), I64 (wi b), I64 (wi b)] [I64 (wi m), I64 0] [I64 (wi s), I64 0] [I64 (wi o), I64 0] (L 4) (L 9) (L 14) (L 19)) (CG [I64 (wi r), I64 (wi b), I64 (wi b)] [I64 (wi m), I64 0] [I64 (wi s), I64 0] [I64 (wi o), I64 0] true (L 9) (L 14) (L 19)) _ _ _
    rw [show L 4 = false from h3, h2 9 (show (4 : Nat) ∈ PG1.anc 9 by decide), h2 14 (show (4 : Nat) ∈ PG1.anc 14 by decide), h2 19 (show (4 : Nat) ∈ PG1.anc 19 by decide)]
    exact X_callNew (bktNew_A r b) rfl rfl rfl rfl (show ((4, 7) : Nat × Nat) ∈ PG1.cre by decide) rfl rfl
  repeat (refine sm rfl ⟨trivial, ?_⟩)
  refine SM (.agg [I64 (wi r), I64 (wi b), I64 (wi b)]) rfl (fun L h1 h2 h3 => ?_) ?_
  · show StepX _ _ _ _ _ (CG [I64 (wi r), I64 (wi b), I64 (wi b)] [I64 (wi m), I64 0] [I64 (wi s), I64 0] [I64 (wi o), I64 0] (L 4) (L 9) (L 14) (L 19)) (CG [I64 (wi r), I64 (wi b), I64 (wi b)] [I64 (wi m), I64 0] [I64 (wi s), I64 0] [I64 (wi o), I64 0] (L 4) (L 9) (L 14) (L 19)) _ _ _
    rw [h1 4 (show (4 : Nat) ∈ PG1.anc 6 by decide)]
    cases L 9 <;> cases L 14 <;> cases L 19 <;> exact X_still rfl rfl rfl
  repeat (refine sm rfl ⟨trivial, ?_⟩)
  refine SM (.bp 12 0) rfl (fun L h1 h2 h3 => ?_) ?_
  · show StepX _ _ _ _ _ (CG [I64 (wi r), I64 (wi b), I64 (wi b)] [I64 (wi m), I64 0] [I64 (wi s), I64 0] [I64 (wi o), I64 0] (L 4) (L 9) (L 14) (L 19)) (CG [I64 (wi r), I64 (wi b), I64 (wi b)] [I64 (wi m), I64 0] [I64 (wi s), I64 0] [I64 (wi o), I64 0] (L 4) true (L 14) (L 19)) _ _ _
    rw [show L 9 = false from h3, h1 4 (show (4 : Nat) ∈ PG1.anc 9 by decide), h2 14 (show (9 : Nat) ∈ PG1.anc 14 by decide), h2 19 (show (9 : Nat) ∈ PG1.anc 19 by decide)]
    exact X_callNew (accNew_A m) rfl rfl rfl rfl (show ((9, 12) : Nat × Nat) ∈ PG1.cre by decide) rfl rfl
  repeat (refine sm rfl ⟨trivial, ?_⟩)
  refine SM (.agg [I64 (wi m), I64 0]) rfl (fun L h1 h2 h3 => ?_) ?_
  · show StepX _ _ _ _ _ (CG [I64 (wi r), I64 (wi b), I64 (wi b)] [I64 (wi m), I64 0] [I64 (wi s), I64 0] [I64 (wi o), I64 0] (L 4) (L 9) (L 14) (L 19)) (CG [I64 (wi r), I64 (wi b), I64 (wi b)] [I64 (wi m), I64 0] [I64 (wi s), I64 0] [I64 (wi o), I64 0] (L 4) (L 9) (L 14) (L 19)) _ _ _
    rw [h1 9 (show (9 : Nat) ∈ PG1.anc 11 by decide)]
    cases L 4 <;> cases L 14 <;> cases L 19 <;> exact X_still rfl rfl rfl
  repeat (refine sm rfl ⟨trivial, ?_⟩)
  refine SM (.bp 17 0) rfl (fun L h1 h2 h3 => ?_) ?_
  · show StepX _ _ _ _ _ (CG [I64 (wi r), I64 (wi b), I64 (wi b)] [I64 (wi m), I64 0] [I64 (wi s), I64 0] [I64 (wi o), I64 0] (L 4) (L 9) (L 14) (L 19)) (CG [I64 (wi r), I64 (wi b), I64 (wi b)] [I64 (wi m), I64 0] [I64 (wi s), I64 0] [I64 (wi o), I64 0] (L 4) (L 9) true (L 19)) _ _ _
    rw [show L 14 = false from h3, h1 4 (show (4 : Nat) ∈ PG1.anc 14 by decide), h1 9 (show (9 : Nat) ∈ PG1.anc 14 by decide), h2 19 (show (14 : Nat) ∈ PG1.anc 19 by decide)]
    exact X_callNew (accNew_A s) rfl rfl rfl rfl (show ((14, 17) : Nat × Nat) ∈ PG1.cre by decide) rfl rfl
  repeat (refine sm rfl ⟨trivial, ?_⟩)
  refine SM (.agg [I64 (wi s), I64 0]) rfl (fun L h1 h2 h3 => ?_) ?_
  · show StepX _ _ _ _ _ (CG [I64 (wi r), I64 (wi b), I64 (wi b)] [I64 (wi m), I64 0] [I64 (wi s), I64 0] [I64 (wi o), I64 0] (L 4) (L 9) (L 14) (L 19)) (CG [I64 (wi r), I64 (wi b), I64 (wi b)] [I64 (wi m), I64 0] [I64 (wi s), I64 0] [I64 (wi o), I64 0] (L 4) (L 9) (L 14) (L 19)) _ _ _
    rw [h1 14 (show (14 : Nat) ∈ PG1.anc 16 by decide)]
    cases L 4 <;> cases L 9 <;> cases L 19 <;> exact X_still rfl rfl rfl
  repeat (refine sm rfl ⟨trivial, ?_⟩)
  refine SM (.bp 22 0) rfl (fun L h1 h2 h3 => ?_) ?_
  · show StepX _ _ _ _ _ (CG [I64 (wi r), I64 (wi b), I64 (wi b)] [I64 (wi m), I64 0] [I64 (wi s), I64 0] [I64 (wi o), I64 0] (L 4) (L 9) (L 14) (L 19)) (CG [I64 (wi r), I64 (wi b), I64 (wi b)] [I64 (wi m), I64 0] [I64 (wi s), I64 0] [I64 (wi o), I64 0] (L 4) (L 9) (L 14) true) _ _ _
    rw [show L 19 = false from h3, h1 4 (show (4 : Nat) ∈ PG1.anc 19 by decide), h1 9 (show (9 : Nat) ∈ PG1.anc 19 by decide), h1 14 (show (14 : Nat) ∈ PG1.anc 19 by decide)]
    exact X_callNew (accNew_A o) rfl rfl rfl rfl (show ((19, 22) : Nat × Nat) ∈ PG1.cre by decide) rfl rfl
  repeat (refine sm rfl ⟨trivial, ?_⟩)
  refine SM (.agg [I64 (wi o), I64 0]) rfl (fun L h1 h2 h3 => ?_) ?_
  · show StepX _ _ _ _ _ (CG [I64 (wi r), I64 (wi b), I64 (wi b)] [I64 (wi m), I64 0] [I64 (wi s), I64 0] [I64 (wi o), I64 0] (L 4) (L 9) (L 14) (L 19)) (CG [I64 (wi r), I64 (wi b), I64 (wi b)] [I64 (wi m), I64 0] [I64 (wi s), I64 0] [I64 (wi o), I64 0] (L 4) (L 9) (L 14) (L 19)) _ _ _
    rw [h1 19 (show (19 : Nat) ∈ PG1.anc 21 by decide)]
    cases L 4 <;> cases L 9 <;> cases L 14 <;> exact X_still rfl rfl rfl
  repeat (refine sm rfl ⟨trivial, ?_⟩)
  refine sm rfl ?_
  show SymO _ _ _ _ ⟨_, [.box 22 177 [I64 (wi o), I64 0], .box 17 177 [I64 (wi s), I64 0], .box 12 177 [I64 (wi m), I64 0], .box 7 175 [I64 (wi r), I64 (wi b), I64 (wi b)]]⟩ _
  iterate 3 (first | refine so rfl ?_ | refine sb rfl ?_)
  refine O_absb 2 rfl rfl rfl (fun g => ?_)
  repeat (first | refine sc rfl ?_ | refine so rfl ?_ | refine sb rfl ?_)
  first
    | exact ⟨_, [_], _, rfl, pickA_perm (is := [0]) (As := [_]) rfl, rfl, g, rfl, rfl⟩
    | exact ⟨_, [_], _, rfl, pickA_perm (is := [1]) (As := [_]) rfl, rfl, g, rfl, rfl⟩
    | exact ⟨_, [_], _, rfl, pickA_perm (is := [2]) (As := [_]) rfl, rfl, g, rfl, rfl⟩
    | exact ⟨_, [_], _, rfl, pickA_perm (is := [3]) (As := [_]) rfl, rfl, g, rfl, rfl⟩
    | exact ⟨_, [_], _, rfl, pickA_perm (is := [4]) (As := [_]) rfl, rfl, g, rfl, rfl⟩
end Go.Proofs

/- A new server. -/
set_option linter.unusedSimpArgs false
set_option linter.unusedVariables false
set_option maxRecDepth 100000
namespace Go.Proofs
open Go.Sy Go.Lib

abbrev ikz : Int → Value := fun i => .int .i64 i
noncomputable abbrev iKz : Key Tryz.prog 3 Int := intKey Tryz.underlying3
theorem sameBits_ikz (k : Int) : Instr.sameBits 10000 (iKz.kv k) (iKz.kv k) = true := by
  show Instr.sameBits 10000 (.int .i64 k) (.int .i64 k) = true
  simp [Instr.sameBits]
abbrev z66 : List AV := U64 0 :: (z63 ++ [I64 0, I64 0])
abbrev NS : AV := .v (.slice none 0 0)
abbrev NM : AV := .v (.map none)
/-- A new server's cells: tags, dice, connections, flows, book, tenants, now. -/
abbrev srvA (s mg tm : Nat) (now : Int) : Abs := boxA s 127 (PT mg 0 :: (z66 ++ [NS, NM, NS, NS, NS, NS, NS, NS, NS, NS, NS, NS, NM, .v (.map (some tm)), I64 now]))
abbrev tenA (h g : Nat) : Abs := boxA h 132 [PT g 0, .v (.pointer none)]
abbrev tenM (tm h : Nat) : Abs := mapA ikz (some tm) [((0 : Int), PT h 0)]
theorem srvNew_A (x : Int) : FnA Tryz.prog 78 [U64 x] [] (fun r cs' => ∃ s mg tm h g c d, r = PT s 0 ∧ cs' = [srvA s mg tm 0, tenM tm h, tenA h g, gatA g 1048576 1048576 1048576 0 0 0 0 32 0 false, mac1 mg c, diceA d x 1 0]) := by
  refine FnA.intro Tryz.tabOK Tryz.wide_ Tryz.func78 rfl (by decide) rfl (fun X => ?_)
  repeat (first | refine sc rfl ?_ | refine so rfl ?_ | refine sb rfl ?_)
  refine O_callA [] macNew_A (by rfl) (by rfl) (by rfl) (by rfl) (by rfl) ?_
  rintro r' cs' ⟨mg, rfl, rfl⟩
  repeat (first | refine sc rfl ?_ | refine so rfl ?_ | refine sb rfl ?_)
  refine O_makeMap ikz rfl (fun tm => ?_)
  repeat (first | refine sc rfl ?_ | refine so rfl ?_ | refine sb rfl ?_)
  refine O_call admin_c (by rfl) (by rfl) (by rfl) (by rfl) (fun r' hr => ?_)
  subst hr
  repeat (first | refine sc rfl ?_ | refine so rfl ?_ | refine sb rfl ?_)
  refine O_callA [] (gatNew_A 1040 1048576 1048576 0 0 32 2 0 0) (by rfl) (by rfl) (by rfl) (by rfl) (by rfl) ?_
  rintro r' cs' ⟨g, rfl, rfl⟩
  iterate 2 (first | refine so rfl ?_ | refine sb rfl ?_)
  refine O_absb 10 rfl rfl rfl (fun h => ?_)
  repeat (first | refine sc rfl ?_ | refine so rfl ?_ | refine sb rfl ?_)
  refine O_Xn (X_ins 2 iKz Tryz.underlying125 sameBits_ikz rfl rfl rfl rfl rfl rfl) ?_
  repeat (first | refine sc rfl ?_ | refine so rfl ?_ | refine sb rfl ?_)
  refine O_callA [] diceNew_A (by rfl) (by rfl) (by rfl) (by rfl) (by rfl) ?_
  rintro r' cs' ⟨d, rfl, rfl⟩
  repeat (first | refine sc rfl ?_ | refine so rfl ?_ | refine sb rfl ?_)
  first
    | refine O_callA [0] (dicePut_A d x) (by rfl) (by rfl) (by rfl) (by rfl) (by rfl) ?_
    | refine O_callA [1] (dicePut_A d x) (by rfl) (by rfl) (by rfl) (by rfl) (by rfl) ?_
    | refine O_callA [2] (dicePut_A d x) (by rfl) (by rfl) (by rfl) (by rfl) (by rfl) ?_
    | refine O_callA [3] (dicePut_A d x) (by rfl) (by rfl) (by rfl) (by rfl) (by rfl) ?_
    | refine O_callA [4] (dicePut_A d x) (by rfl) (by rfl) (by rfl) (by rfl) (by rfl) ?_
  rintro r' cs' ⟨rfl, rfl⟩
  repeat (first | refine sc rfl ?_ | refine so rfl ?_ | refine sb rfl ?_)
  first
    | refine O_callA [0, 0] (issue_A mg d x) (by rfl) (by rfl) (by rfl) (by rfl) (by rfl) ?_
    | refine O_callA [0, 1] (issue_A mg d x) (by rfl) (by rfl) (by rfl) (by rfl) (by rfl) ?_
    | refine O_callA [0, 2] (issue_A mg d x) (by rfl) (by rfl) (by rfl) (by rfl) (by rfl) ?_
    | refine O_callA [0, 3] (issue_A mg d x) (by rfl) (by rfl) (by rfl) (by rfl) (by rfl) ?_
    | refine O_callA [0, 4] (issue_A mg d x) (by rfl) (by rfl) (by rfl) (by rfl) (by rfl) ?_
    | refine O_callA [0, 5] (issue_A mg d x) (by rfl) (by rfl) (by rfl) (by rfl) (by rfl) ?_
    | refine O_callA [1, 0] (issue_A mg d x) (by rfl) (by rfl) (by rfl) (by rfl) (by rfl) ?_
    | refine O_callA [1, 1] (issue_A mg d x) (by rfl) (by rfl) (by rfl) (by rfl) (by rfl) ?_
    | refine O_callA [1, 2] (issue_A mg d x) (by rfl) (by rfl) (by rfl) (by rfl) (by rfl) ?_
    | refine O_callA [1, 3] (issue_A mg d x) (by rfl) (by rfl) (by rfl) (by rfl) (by rfl) ?_
    | refine O_callA [1, 4] (issue_A mg d x) (by rfl) (by rfl) (by rfl) (by rfl) (by rfl) ?_
    | refine O_callA [1, 5] (issue_A mg d x) (by rfl) (by rfl) (by rfl) (by rfl) (by rfl) ?_
    | refine O_callA [2, 0] (issue_A mg d x) (by rfl) (by rfl) (by rfl) (by rfl) (by rfl) ?_
    | refine O_callA [2, 1] (issue_A mg d x) (by rfl) (by rfl) (by rfl) (by rfl) (by rfl) ?_
    | refine O_callA [2, 2] (issue_A mg d x) (by rfl) (by rfl) (by rfl) (by rfl) (by rfl) ?_
    | refine O_callA [2, 3] (issue_A mg d x) (by rfl) (by rfl) (by rfl) (by rfl) (by rfl) ?_
    | refine O_callA [2, 4] (issue_A mg d x) (by rfl) (by rfl) (by rfl) (by rfl) (by rfl) ?_
    | refine O_callA [2, 5] (issue_A mg d x) (by rfl) (by rfl) (by rfl) (by rfl) (by rfl) ?_
    | refine O_callA [3, 0] (issue_A mg d x) (by rfl) (by rfl) (by rfl) (by rfl) (by rfl) ?_
    | refine O_callA [3, 1] (issue_A mg d x) (by rfl) (by rfl) (by rfl) (by rfl) (by rfl) ?_
    | refine O_callA [3, 2] (issue_A mg d x) (by rfl) (by rfl) (by rfl) (by rfl) (by rfl) ?_
    | refine O_callA [3, 3] (issue_A mg d x) (by rfl) (by rfl) (by rfl) (by rfl) (by rfl) ?_
    | refine O_callA [3, 4] (issue_A mg d x) (by rfl) (by rfl) (by rfl) (by rfl) (by rfl) ?_
    | refine O_callA [3, 5] (issue_A mg d x) (by rfl) (by rfl) (by rfl) (by rfl) (by rfl) ?_
    | refine O_callA [4, 0] (issue_A mg d x) (by rfl) (by rfl) (by rfl) (by rfl) (by rfl) ?_
    | refine O_callA [4, 1] (issue_A mg d x) (by rfl) (by rfl) (by rfl) (by rfl) (by rfl) ?_
    | refine O_callA [4, 2] (issue_A mg d x) (by rfl) (by rfl) (by rfl) (by rfl) (by rfl) ?_
    | refine O_callA [4, 3] (issue_A mg d x) (by rfl) (by rfl) (by rfl) (by rfl) (by rfl) ?_
    | refine O_callA [4, 4] (issue_A mg d x) (by rfl) (by rfl) (by rfl) (by rfl) (by rfl) ?_
    | refine O_callA [4, 5] (issue_A mg d x) (by rfl) (by rfl) (by rfl) (by rfl) (by rfl) ?_
    | refine O_callA [5, 0] (issue_A mg d x) (by rfl) (by rfl) (by rfl) (by rfl) (by rfl) ?_
    | refine O_callA [5, 1] (issue_A mg d x) (by rfl) (by rfl) (by rfl) (by rfl) (by rfl) ?_
    | refine O_callA [5, 2] (issue_A mg d x) (by rfl) (by rfl) (by rfl) (by rfl) (by rfl) ?_
    | refine O_callA [5, 3] (issue_A mg d x) (by rfl) (by rfl) (by rfl) (by rfl) (by rfl) ?_
    | refine O_callA [5, 4] (issue_A mg d x) (by rfl) (by rfl) (by rfl) (by rfl) (by rfl) ?_
    | refine O_callA [5, 5] (issue_A mg d x) (by rfl) (by rfl) (by rfl) (by rfl) (by rfl) ?_
    | refine O_callA [6, 0] (issue_A mg d x) (by rfl) (by rfl) (by rfl) (by rfl) (by rfl) ?_
    | refine O_callA [6, 1] (issue_A mg d x) (by rfl) (by rfl) (by rfl) (by rfl) (by rfl) ?_
    | refine O_callA [6, 2] (issue_A mg d x) (by rfl) (by rfl) (by rfl) (by rfl) (by rfl) ?_
    | refine O_callA [6, 3] (issue_A mg d x) (by rfl) (by rfl) (by rfl) (by rfl) (by rfl) ?_
    | refine O_callA [6, 4] (issue_A mg d x) (by rfl) (by rfl) (by rfl) (by rfl) (by rfl) ?_
    | refine O_callA [6, 5] (issue_A mg d x) (by rfl) (by rfl) (by rfl) (by rfl) (by rfl) ?_
  rintro r' cs' ⟨c, rfl, rfl⟩
  refine O_absb 3 rfl rfl rfl (fun s => ?_)
  repeat (first | refine sc rfl ?_ | refine so rfl ?_ | refine sb rfl ?_)
  first
    | exact ⟨_, [_, _, _, _, _, _], _, rfl, pickA_perm (is := [0, 2, 2, 2, 0, 0]) (As := [_, _, _, _, _, _]) rfl, rfl, s, mg, tm, h, g, c, d, rfl, rfl⟩
    | exact ⟨_, [_, _, _, _, _, _], _, rfl, pickA_perm (is := [0, 2, 3, 2, 0, 0]) (As := [_, _, _, _, _, _]) rfl, rfl, s, mg, tm, h, g, c, d, rfl, rfl⟩
    | exact ⟨_, [_, _, _, _, _, _], _, rfl, pickA_perm (is := [0, 3, 2, 2, 0, 0]) (As := [_, _, _, _, _, _]) rfl, rfl, s, mg, tm, h, g, c, d, rfl, rfl⟩
end Go.Proofs

/- The server's tick (no tenant but the admin). -/
set_option linter.unusedSimpArgs false
set_option linter.unusedVariables false
set_option maxRecDepth 100000
namespace Go.Proofs
open Go.Sy Go.Lib

theorem rep_np (e : Env) : Rep e (.v (.pointer none)) (.pointer none) := by simp only [Rep]
end Go.Proofs

/- A turn of nobody. -/
set_option linter.unusedSimpArgs false
set_option linter.unusedVariables false
set_option maxRecDepth 100000
namespace Go.Proofs
open Go.Sy Go.Lib

end Go.Proofs

/- Rows of a tick, and of a turn of nobody. -/
set_option linter.unusedSimpArgs false
set_option linter.unusedVariables false
set_option maxRecDepth 100000
namespace Go.Proofs
open Go.Sy Go.Lib

end Go.Proofs

/- The rows of a tick and a turn. -/
set_option linter.unusedSimpArgs false
set_option linter.unusedVariables false
set_option maxRecDepth 100000
namespace Go.Proofs
open Go.Sy Go.Lib

abbrev evs2 : List Evt := [⟨3, 0, 0, []⟩, ⟨5, 0, 0, []⟩]
abbrev rws2 : List Rw := [⟨0, 4, default⟩, ⟨1, 3, default⟩]
end Go.Proofs

/- The example of TraceAsks. -/
set_option linter.unusedSimpArgs false
set_option linter.unusedVariables false
set_option maxRecDepth 100000
namespace Go.Proofs
open Go.Sy Go.Lib

def nteV (x : Nte) : Array Value := #[.int .i64 x.conn, .int .i64 x.owner, .int .i64 x.kind, S x.body, .int .i64 x.err, S x.reply]

end Go.Proofs

/- TraceAsks: the program's rows of the document's. -/
set_option linter.unusedSimpArgs false
set_option linter.unusedVariables false
set_option maxRecDepth 100000
namespace Go.Proofs
open Go.Sy Go.Lib

end Go.Proofs

/- Contracts of conf: Check. -/
set_option linter.unusedSimpArgs false
set_option linter.unusedVariables false
set_option maxRecDepth 100000
namespace Go.Proofs
open Go.RowKit Go.Shelf

attribute [local go_sem] Oper.semAt_some

end Go.Proofs

/- Contracts of conf: Check, as the walk wants it; Of. -/
set_option linter.unusedSimpArgs false
set_option linter.unusedVariables false
set_option maxRecDepth 100000
namespace Go.Proofs
open Go.RowKit Go.Shelf Go.Sy

attribute [local go_sem] Oper.semAt_some

/-- A contract that was proved by hand, over arguments that are told by memory. -/
theorem FnP.ofHand {P : Program} {f : FuncId} {avs : List AV} {x : AV} (hc : Callable P f)
    (h : ∀ G w cargs, ImOK G w → RepIT G avs cargs → Calls P f cargs.toArray w fun e w' => (∃ v, e = .returned v ∧ ∀ H, RepI H x v) ∧ Below w.heap.size w w') : FnP P f avs (· = x) := by
  refine ⟨hc, fun G w cargs him hr => ?_⟩
  refine (h G w cargs him hr).mono ?_
  rintro e w' ⟨⟨v, rfl, hv⟩, hb⟩
  exact ⟨x, v, G, rfl, rfl, hv G, IM.le_refl _, NewIn.refl _ _, ⟨fun b o u hu => by
    have h1 := him.1 b o u hu
    have h2 := Go.block_lt_of_cell h1
    simp only [World.cell?] at h1 ⊢
    rw [hb.block b h2]
    exact h1, fun b x hx => (him.2 b x hx).keep0 (hb.block b (him.2 b x hx).lt)⟩, .of hb⟩

end Go.Proofs
