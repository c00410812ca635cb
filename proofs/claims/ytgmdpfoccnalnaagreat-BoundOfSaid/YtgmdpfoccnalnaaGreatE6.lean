/- Numbers as bytes: the plain law; contracts of varint and of the document's. -/
import Derived.Test.YtgmdpfoccnalnaaGreatE5
import Derived.RangeFuncNested
import Derived.OrdersIn
import Derived.StillTail
import Derived.RangeFuncBox
import Derived.RangeFuncLeaves
import Derived.Shelf.Abstract
import Derived.WalkKit
import Derived.OwnWalkIn
import Derived.TacticsInMore
import Derived.LoopNIn
import Derived.LoopIn
import Derived.StillTailTactics
set_option linter.unusedSimpArgs false
set_option linter.unusedVariables false
set_option maxRecDepth 100000
namespace Go.Proofs
open Go.Sy Go.Lib
theorem Byte_p (n : Int) : FnP Tryz.prog 224 [I64 n] (· = .s [UInt8.ofNat (IntKind.u8.wrap n).toNat]) := by
  refine FnP.intro Tryz.tabOK Tryz.wide_ Tryz.func224 rfl (by decide) rfl (fun X => ?_)
  repeat (first | refine sc rfl ?_ | refine so rfl ?_ | refine sb rfl ?_ | refine sv rfl ?_)
  exact ⟨_, rfl, rfl, rfl⟩

abbrev U64 (n : Int) : AV := .v (.int .u64 n)

/-- A number's bytes. -/
def vput (n : Nat) : List UInt8 := if h : n < 128 then [UInt8.ofNat n] else UInt8.ofNat (n % 128 + 128) :: vput (n / 128)
termination_by n
decreasing_by omega
theorem vput_lt {n : Nat} (h : n < 128) : vput n = [UInt8.ofNat n] := by rw [vput, dif_pos h]
theorem vput_ge {n : Nat} (h : ¬ n < 128) : vput n = UInt8.ofNat (n % 128 + 128) :: vput (n / 128) := by rw [vput, dif_neg h]
theorem vput_len (n : Nat) : (vput n).length ≤ n + 1 := by
  induction n using Nat.strongRecOn with
  | ind n ih =>
    by_cases h : n < 128
    · rw [vput_lt h]; simp
    · rw [vput_ge h, List.length_cons]
      have := ih (n / 128) (by omega)
      omega

theorem u8wrap {x : Int} (h : 0 ≤ x) (h2 : x < 256) : IntKind.u8.wrap x = x := by
  simp only [IntKind.wrap, show IntKind.u8.signed = false from rfl, show IntKind.u8.bits = 8 from rfl, Bool.false_and, Bool.false_eq_true, if_false]
  omega
theorem u64wrap {x : Int} (h : 0 ≤ x) (h2 : x < 18446744073709551616) : IntKind.u64.wrap x = x := by
  simp only [IntKind.wrap, show IntKind.u64.signed = false from rfl, show IntKind.u64.bits = 64 from rfl, Bool.false_and, Bool.false_eq_true, if_false]
  omega

theorem refPut01_p (n : Nat) : n < 18446744073709551616 → FnP Tryz.prog 158 [U64 (n : Int)] (· = .s (vput n)) := by
  induction n using Nat.strongRecOn with
  | ind n ih =>
    intro hn
    refine FnP.intro Tryz.tabOK Tryz.wide_ Tryz.func158 rfl (by decide) rfl (fun X => ?_)
    repeat (first | refine sc rfl ?_ | refine so rfl ?_ | refine sb rfl ?_)
    refine C_if rfl (fun h => ?_) (fun h => ?_) <;> simp only [decide_eq_true_eq, decide_eq_false_iff_not] at h
    · repeat (first | refine sc rfl ?_ | refine so rfl ?_ | refine sb rfl ?_)
      refine O_call (Byte_p _) (by rfl) (by rfl) (by rfl) (by rfl) (fun r hr => ?_)
      subst hr
      repeat (first | refine sc rfl ?_ | refine so rfl ?_ | refine sb rfl ?_)
      refine ⟨_, rfl, rfl, ?_⟩
      rw [vput_lt (by omega), w64 (by omega) (by omega), u8wrap (by omega) (by omega)]
      rfl
    · repeat (first | refine sc rfl ?_ | refine so rfl ?_ | refine sb rfl ?_ | refine ⟨by decide, ?_⟩)
      refine O_call (Byte_p _) (by rfl) (by rfl) (by rfl) (by rfl) (fun r hr => ?_)
      subst hr
      repeat (first | refine sc rfl ?_ | refine so rfl ?_ | refine sb rfl ?_ | refine ⟨by decide, ?_⟩)
      have e1 : IntKind.u64.wrap ((n : Int).tdiv 128) = ((n / 128 : Nat) : Int) := by
        rw [Int.tdiv_eq_ediv_of_nonneg (by omega), u64wrap (by omega) (by omega)]
        omega
      rw [e1]
      refine O_call (ih (n / 128) (by omega) (by omega)) (by rfl) (by rfl) (by rfl) (by rfl) (fun r hr => ?_)
      subst hr
      have hl := vput_len (n / 128)
      repeat (first | refine sc rfl ?_ | refine so rfl ?_ | refine sb rfl ?_)
      refine ⟨by simp only [List.length_singleton]; omega, ?_⟩
      repeat (first | refine sc rfl ?_ | refine so rfl ?_ | refine sb rfl ?_)
      refine ⟨_, rfl, rfl, ?_⟩
      have e2 : (n : Int).tmod 128 = (n : Int) % 128 := Int.tmod_eq_emod_of_nonneg (by omega)
      rw [vput_ge (by omega), e2, w64 (x := (n : Int) % 128) (by omega) (by omega), w64 (by omega) (by omega), u8wrap (by omega) (by omega)]
      rw [show ((n : Int) % 128 + 128).toNat = n % 128 + 128 by omega]
      rfl

abbrev TK := Nat × Nat × Int
/-- With f bytes at most, behind another one (z) or not: the number, how many bytes, what is wrong. -/
def tkS : Nat → Bool → List UInt8 → TK
  | 0, _, _ => (0, 0, 2)
  | _ + 1, _, [] => (0, 0, 2)
  | f + 1, z, c :: r => if (f = 0 ∧ 1 < c.toNat) ∨ (c.toNat = 0 ∧ z = true) then (0, 0, 1) else if c.toNat < 128 then (c.toNat, 1, 0)
    else match tkS f true r with
      | (m, k, e) => if e = 0 then (c.toNat % 128 + 128 * m, k + 1, 0) else (0, 0, e)
def tk (l : List UInt8) : TK := tkS 10 false l
def comb (i n : Nat) : TK → TK
  | (m, k, e) => if e = 0 then (n + 128 ^ i * m, i + k, 0) else (0, 0, e)

theorem tkS_err : ∀ (f : Nat) (z : Bool) (l : List UInt8), (tkS f z l).2.2 ≠ 0 → (tkS f z l).1 = 0 ∧ (tkS f z l).2.1 = 0
  | 0, _, _, _ => ⟨rfl, rfl⟩
  | f + 1, z, [], _ => ⟨rfl, rfl⟩
  | f + 1, z, c :: r, h => by
    simp only [tkS] at h ⊢
    split at h
    · rename_i h1; rw [if_pos h1]; exact ⟨rfl, rfl⟩
    · rename_i h1
      rw [if_neg h1]
      split at h
      · exact absurd rfl h
      · rename_i h2
        rw [if_neg h2]
        split at h
        · exact absurd rfl h
        · rename_i h3
          simp only [h3, if_false]
          exact ⟨trivial, trivial⟩
theorem comb0 (t : TK) (h : t.2.2 ≠ 0 → t.1 = 0 ∧ t.2.1 = 0) : comb 0 0 t = t := by
  obtain ⟨m, k, e⟩ := t
  unfold comb
  by_cases he : e = 0
  · subst he; simp
  · obtain ⟨h1, h2⟩ := h he
    simp only at h1 h2
    subst h1 h2
    simp [he]
theorem tk_comb (l : List UInt8) : tk l = comb 0 0 (tkS 10 false (l.drop 0)) := by
  rw [comb0 _ (tkS_err _ _ _)]; rfl

/-- One byte more. -/
theorem comb_step {f i n : Nat} {z : Bool} {l : List UInt8} {c : Nat} (hi : i < l.length) (hc : by_ l i = c) (hok : ¬ ((f = 0 ∧ 1 < c) ∨ (c = 0 ∧ z = true))) (h128 : ¬ c < 128) :
    comb i n (tkS (f + 1) z (l.drop i)) = comb (i + 1) (n + c % 128 * 128 ^ i) (tkS f true (l.drop (i + 1))) := by
  rw [List.drop_eq_getElem_cons hi]
  have hcc : (l[i]).toNat = c := by
    rw [← hc]; unfold by_; rw [List.getD_eq_getElem?_getD, List.getElem?_eq_getElem hi]; rfl
  simp only [tkS, hcc, if_neg hok, if_neg h128]
  obtain ⟨m, k, e⟩ := tkS f true (l.drop (i + 1))
  simp only [comb]
  by_cases he : e = 0
  · subst he
    simp only [if_true]
    refine Prod.ext ?_ (Prod.ext ?_ rfl)
    · simp only [Nat.pow_succ, Nat.mul_add, Nat.add_assoc]
      congr 1
      rw [Nat.mul_comm (c % 128), ← Nat.mul_assoc]
    · simp only []; omega
  · simp only [he, if_false]
theorem comb_last {f i n : Nat} {z : Bool} {l : List UInt8} {c : Nat} (hi : i < l.length) (hc : by_ l i = c) (hok : ¬ ((f = 0 ∧ 1 < c) ∨ (c = 0 ∧ z = true))) (h128 : c < 128) :
    comb i n (tkS (f + 1) z (l.drop i)) = (n + c % 128 * 128 ^ i, i + 1, 0) := by
  rw [List.drop_eq_getElem_cons hi]
  have hcc : (l[i]).toNat = c := by
    rw [← hc]; unfold by_; rw [List.getD_eq_getElem?_getD, List.getElem?_eq_getElem hi]; rfl
  simp only [tkS, hcc, if_neg hok, if_pos h128, comb]
  simp only [if_true]
  rw [Nat.mod_eq_of_lt h128, Nat.mul_comm]
theorem comb_bad {f i n : Nat} {z : Bool} {l : List UInt8} {c : Nat} (hi : i < l.length) (hc : by_ l i = c) (hok : (f = 0 ∧ 1 < c) ∨ (c = 0 ∧ z = true)) :
    comb i n (tkS (f + 1) z (l.drop i)) = (0, 0, 1) := by
  rw [List.drop_eq_getElem_cons hi]
  have hcc : (l[i]).toNat = c := by
    rw [← hc]; unfold by_; rw [List.getD_eq_getElem?_getD, List.getElem?_eq_getElem hi]; rfl
  simp only [tkS, hcc, if_pos hok, comb]
  simp
theorem comb_end {f i n : Nat} {z : Bool} {l : List UInt8} (h : l.length ≤ i ∨ f = 0) : comb i n (tkS f z (l.drop i)) = (0, 0, 2) := by
  rcases h with h | h
  · rw [List.drop_eq_nil_of_le h]
    cases f <;> simp [tkS, comb]
  · subst h; simp [tkS, comb]

/-! ### put and take -/
theorem tkS_take : ∀ (f : Nat) (z : Bool) (l : List UInt8) (n k : Nat), tkS (f + 1) z l = (n, k, 0) → l.take k = vput n ∧ 1 ≤ k ∧ k ≤ l.length ∧ n < 2 * 128 ^ f ∧ (z = true → 0 < n) := by
  intro f
  induction f with
  | zero =>
    intro z l n k h
    cases l with
    | nil => simp [tkS] at h
    | cons c r =>
      rw [tkS] at h
      split at h
      · simp at h
      · rename_i h1
        split at h
        · rename_i h2
          simp only [Prod.mk.injEq] at h
          obtain ⟨rfl, rfl, _⟩ := h
          have h6 : ¬ 1 < c.toNat := fun hh => h1 (.inl ⟨rfl, hh⟩)
          rw [vput_lt h2]
          refine ⟨by simp, by omega, by simp, by simp; omega, fun hz => ?_⟩
          rcases Nat.eq_zero_or_pos c.toNat with h3 | h3
          · exact absurd (.inr ⟨h3, hz⟩) h1
          · exact h3
        · simp [tkS] at h
  | succ f ih =>
    intro z l n k h
    cases l with
    | nil => simp [tkS] at h
    | cons c r =>
      have hc := UInt8.toNat_lt c
      rw [tkS] at h
      split at h
      · simp at h
      · rename_i h1
        split at h
        · rename_i h2
          simp only [Prod.mk.injEq] at h
          obtain ⟨rfl, rfl, _⟩ := h
          rw [vput_lt h2]
          have : 0 < 128 ^ f := Nat.pow_pos (by omega)
          refine ⟨by simp, by omega, by simp, by rw [Nat.pow_succ]; omega, fun hz => ?_⟩
          rcases Nat.eq_zero_or_pos c.toNat with h3 | h3
          · exact absurd (.inr ⟨h3, hz⟩) h1
          · exact h3
        · rename_i h2
          obtain ⟨m, k', e, ht⟩ : ∃ m k' e, tkS (f + 1) true r = (m, k', e) := ⟨_, _, _, rfl⟩
          rw [ht] at h
          simp only at h
          split at h
          · rename_i he
            subst he
            simp only [Prod.mk.injEq] at h
            obtain ⟨rfl, rfl, _⟩ := h
            obtain ⟨i1, i2, i3, i4, i5⟩ := ih true r m k' ht
            have := i5 rfl
            refine ⟨?_, by omega, by simp; omega, by rw [Nat.pow_succ]; omega, fun _ => by omega⟩
            rw [List.take_succ_cons, i1, vput_ge (n := c.toNat % 128 + 128 * m) (by omega)]
            rw [show (c.toNat % 128 + 128 * m) / 128 = m by omega, show (c.toNat % 128 + 128 * m) % 128 + 128 = c.toNat by omega]
            simp
          · rename_i he
            simp only [Prod.mk.injEq] at h
            exact absurd h.2.2 he
theorem tk_take {l : List UInt8} {n k : Nat} (h : tk l = (n, k, 0)) : l.take k = vput n ∧ 1 ≤ k ∧ k ≤ l.length ∧ n < 18446744073709551616 := by
  obtain ⟨h1, h2, h3, h4, _⟩ := tkS_take 9 false l n k h
  exact ⟨h1, h2, h3, by omega⟩

abbrev tkA (t : TK) : AV := .tup [U64 (t.1 : Nat), I64 (t.2.1 : Nat), I64 t.2.2]

theorem or64 (n m i : Nat) (hn : n < 128 ^ i) (h : n + m * 128 ^ i < 18446744073709551616) : bitsV .or .u64 (n : Int) ((m * 128 ^ i : Nat) : Int) = ((n + m * 128 ^ i : Nat) : Int) := by
  have h1 : n ||| (m * 128 ^ i) = n + m * 128 ^ i := by
    have h2 : (128 : Nat) ^ i = 2 ^ (7 * i) := by rw [Nat.pow_mul]
    rw [h2] at hn ⊢
    have := Nat.two_pow_add_eq_or_of_lt hn m
    rw [Nat.mul_comm m, Nat.or_comm, ← this, Nat.add_comm]
  simp only [bitsV]
  rw [show IntKind.u64.bits = 64 from rfl, BitVec.toNat_or, BitVec.ofInt_natCast, BitVec.ofInt_natCast, BitVec.toNat_ofNat, BitVec.toNat_ofNat, Nat.mod_eq_of_lt (by omega), Nat.mod_eq_of_lt (by omega), h1]
  exact u64wrap (by omega) (by omega)
theorem and127 (c : Nat) (h : c < 256) : bitsV .and .u8 (c : Int) 127 = ((c % 128 : Nat) : Int) := by
  have h1 : c &&& 127 = c % 128 := by
    have := Nat.and_two_pow_sub_one_eq_mod c 7
    simpa using this
  simp only [bitsV]
  rw [show IntKind.u8.bits = 8 from rfl, BitVec.toNat_and, BitVec.ofInt_natCast, show (BitVec.ofInt 8 127) = BitVec.ofNat 8 127 from rfl, BitVec.toNat_ofNat, BitVec.toNat_ofNat, Nat.mod_eq_of_lt h, show 127 % 2 ^ 8 = 127 from rfl, h1]
  exact u8wrap (by omega) (by omega)
theorem pow_le9 {i : Nat} (h : i ≤ 9) : 128 ^ i ≤ 9223372036854775808 := by
  have : 128 ^ i ≤ 128 ^ 9 := Nat.pow_le_pow_right (by omega) h
  omega

theorem vTake_p (l : List UInt8) (hl : l.length ≤ 9223372036854775807) : FnP Tryz.prog 228 [.s l] (· = tkA (tk l)) := by
  refine FnP.intro Tryz.tabOK Tryz.wide_ Tryz.func228 rfl (by decide) rfl (fun X => ?_)
  have fin : ∀ (t : TK) (r : AV), tk l = t → r = tkA t → r = tkA (tk l) := fun t r h hr => by rw [hr, h]
  repeat (first | refine sc rfl ?_ | refine so rfl ?_ | refine sb rfl ?_ | refine C_scope ?_)
  refine C_loop (fun q : Nat × Nat => ⟨[(0, .s l), (10, I64 (min l.length 10 : Nat)), (11, I64 (q.1 : Nat)), (5, U64 (q.2 : Nat))], []⟩)
    (fun q => q.1 ≤ 10 ∧ q.1 ≤ l.length ∧ q.2 < 128 ^ q.1 ∧ tk l = comb q.1 q.2 (tkS (10 - q.1) (decide (0 < q.1)) (l.drop q.1))) (fun q => 10 - q.1) (0, 0) ⟨by decide, by simp only []; omega, by decide, tk_comb l⟩
    (Le.sub [] ⟨rfl, congrArg (fun x => some (I64 x)) (by omega), rfl, rfl, trivial⟩ rfl) ?_
  rintro ⟨i, n⟩ ⟨hi10, hil, hn, ht⟩
  simp only [] at hi10 hil hn ht
  repeat (first | refine sc rfl ?_ | refine so rfl ?_ | refine sb rfl ?_ | refine C_scope ?_)
  refine C_if rfl (fun h => ?_) (fun h => ?_) <;> simp only [decide_eq_true_eq, decide_eq_false_iff_not] at h
  · have hi : i < l.length ∧ i < 10 := by omega
    obtain ⟨f, hf⟩ : ∃ f, 10 - i = f + 1 := ⟨9 - i, by omega⟩
    rw [hf] at ht
    obtain ⟨c, hc⟩ : ∃ c, by_ l i = c := ⟨_, rfl⟩
    have hc256 : c < 256 := by rw [← hc]; exact by_lt l i
    repeat (first | refine sc rfl ?_ | refine so rfl ?_ | refine sb rfl ?_ | refine C_scope ?_ | refine ⟨by omega, ?_⟩)
    rw [Int.toNat_natCast, getD_by, hc]
    have key : ((f = 0 ∧ 1 < c) ∨ (c = 0 ∧ decide (0 < i) = true)) ↔ ((i = 9 ∧ 1 < c) ∨ (c = 0 ∧ 0 < i)) := by simp only [decide_eq_true_eq]; omega
    refine O_join ⟨[(0, .s l), (10, I64 (min l.length 10 : Nat)), (11, I64 (i : Nat)), (5, U64 (n : Nat)), (6, I64 (i : Nat)), (7, .v (.int .u8 c)), (17, B (decide (i = 9 ∧ 1 < c)))], []⟩ ?_ (fun s h => C_le _ h ?_)
    · have fin2 : ∀ x : Bool, x = decide (i = 9 ∧ 1 < c) → some (B x) = some (B (decide (i = 9 ∧ 1 < c))) := fun x hb => by rw [hb]
      refine O_case 20 rfl (fun h5 => ?_) (fun h5 => ?_) <;> simp at h5 <;> repeat (first | refine sc rfl ?_ | refine so rfl ?_ | refine sb rfl ?_)
      · exact Le.sub [] ⟨rfl, rfl, rfl, rfl, rfl, rfl, fin2 _ (by rw [Bool.eq_iff_iff]; simp; omega), trivial⟩ rfl
      · exact Le.sub [] ⟨rfl, rfl, rfl, rfl, rfl, rfl, fin2 _ (by rw [Bool.eq_iff_iff]; simp; omega), trivial⟩ rfl
    refine C_ifJ ⟨[(0, .s l), (10, I64 (min l.length 10 : Nat)), (11, I64 (i : Nat)), (5, U64 (n : Nat)), (6, I64 (i : Nat)), (7, .v (.int .u8 c)), (17, B (decide ((i = 9 ∧ 1 < c) ∨ (c = 0 ∧ 0 < i))))], []⟩ rfl (fun h1 => ?_) (fun h1 => ?_) (fun s h => C_le _ h ?_)
    · simp only [decide_eq_true_eq] at h1
      repeat (first | refine sc rfl ?_ | refine so rfl ?_ | refine sb rfl ?_)
      exact Le.sub [] ⟨rfl, rfl, rfl, rfl, rfl, rfl, congrArg (fun x => some (B x)) (by rw [Bool.eq_iff_iff]; simp only [decide_eq_true_eq]; omega), trivial⟩ rfl
    · simp only [decide_eq_false_iff_not] at h1
      repeat (first | refine sc rfl ?_ | refine so rfl ?_ | refine sb rfl ?_)
      have fin2 : ∀ x : Bool, x = decide ((i = 9 ∧ 1 < c) ∨ (c = 0 ∧ 0 < i)) → some (B x) = some (B (decide ((i = 9 ∧ 1 < c) ∨ (c = 0 ∧ 0 < i)))) := fun x hb => by rw [hb]
      refine O_case 26 rfl (fun h5 => ?_) (fun h5 => ?_) <;> simp at h5 <;> repeat (first | refine sc rfl ?_ | refine so rfl ?_ | refine sb rfl ?_)
      · exact Le.sub [] ⟨rfl, rfl, rfl, rfl, rfl, rfl, fin2 _ (by rw [Bool.eq_iff_iff]; simp; omega), trivial⟩ rfl
      · exact Le.sub [] ⟨rfl, rfl, rfl, rfl, rfl, rfl, fin2 _ (by rw [Bool.eq_iff_iff]; simp; omega), trivial⟩ rfl
    repeat (first | refine sc rfl ?_ | refine so rfl ?_ | refine sb rfl ?_)
    refine C_if rfl (fun h1 => ?_) (fun h1 => ?_)
    · have h2 := key.2 (of_decide_eq_true h1)
      repeat (first | refine sc rfl ?_ | refine so rfl ?_ | refine sb rfl ?_)
      exact ⟨_, rfl, rfl, fin (0, 0, 1) _ (by rw [ht, comb_bad hi.1 hc h2]) rfl⟩
    have h2 : ¬ ((f = 0 ∧ 1 < c) ∨ (c = 0 ∧ decide (0 < i) = true)) := fun hh => of_decide_eq_false h1 (key.1 hh)
    have hp9 := pow_le9 (i := i) (by omega)
    have hm : c % 128 * 128 ^ i ≤ 127 * 128 ^ i := Nat.mul_le_mul_right _ (by omega)
    have hsum : n + c % 128 * 128 ^ i < 18446744073709551616 := by
      by_cases h9 : i = 9
      · subst h9
        have h3 : c ≤ 1 := by omega
        have h4 : c % 128 * 128 ^ 9 ≤ 1 * 128 ^ 9 := Nat.mul_le_mul_right _ (by omega)
        omega
      · have h4 : 128 ^ i ≤ 128 ^ 8 := Nat.pow_le_pow_right (by omega) (by omega)
        omega
    repeat (first | refine sc rfl ?_ | refine so rfl ?_ | refine sb rfl ?_ | refine ⟨by omega, ?_⟩)
    rw [w64 (x := 7 * (i : Int)) (by omega) (by omega)]
    refine ⟨by omega, ?_⟩
    have hv : bitsV .or .u64 (n : Int) (IntKind.u64.wrap (IntKind.u64.wrap (bitsV .and .u8 (c : Int) 127) * 2 ^ min (7 * (i : Int)).toNat IntKind.u64.bits)) = ((n + c % 128 * 128 ^ i : Nat) : Int) := by
      rw [and127 c hc256, u64wrap (x := ((c % 128 : Nat) : Int)) (by omega) (by omega), show IntKind.u64.bits = 64 from rfl, show min (7 * (i : Int)).toNat 64 = 7 * i by omega]
      have h3 : ((c % 128 : Nat) : Int) * 2 ^ (7 * i) = ((c % 128 * 128 ^ i : Nat) : Int) := by
        have h2 : (128 : Nat) ^ i = 2 ^ (7 * i) := by rw [Nat.pow_mul]
        rw [h2]
        rw [Int.natCast_mul, Int.natCast_pow]
        rfl
      rw [h3, u64wrap (by omega) (by omega), or64 n _ i hn hsum]
    repeat (first | refine sc rfl ?_ | refine so rfl ?_ | refine sb rfl ?_)
    rw [hv]
    repeat (first | refine sc rfl ?_ | refine so rfl ?_ | refine sb rfl ?_)
    refine C_if rfl (fun h3 => ?_) (fun h3 => ?_) <;> simp only [decide_eq_true_eq, decide_eq_false_iff_not] at h3
    · repeat (first | refine sc rfl ?_ | refine so rfl ?_ | refine sb rfl ?_)
      rw [w64 (by omega) (by omega)]
      exact ⟨_, rfl, rfl, fin (n + c % 128 * 128 ^ i, i + 1, 0) _ (by rw [ht, comb_last hi.1 hc h2 (by omega)]) rfl⟩
    · repeat (first | refine sc rfl ?_ | refine so rfl ?_ | refine sb rfl ?_)
      rw [w64 (by omega) (by omega)]
      refine ⟨(i + 1, n + c % 128 * 128 ^ i), ⟨by simp only []; omega, by simp only []; omega, ?_, ?_⟩, by simp only []; omega, Le.sub [] ⟨rfl, rfl, rfl, rfl, trivial⟩ rfl⟩
      · simp only [Nat.pow_succ]
        omega
      · simp only []
        rw [ht, comb_step hi.1 hc h2 (by omega), show 10 - (i + 1) = f by omega, show decide (0 < i + 1) = true from decide_eq_true (by omega)]
  · repeat (first | refine sc rfl ?_ | refine so rfl ?_ | refine sb rfl ?_ | refine C_scope ?_)
    refine ⟨_, rfl, rfl, fin (0, 0, 2) _ ?_ rfl⟩
    rw [ht, comb_end (by omega)]

def pw (i : Nat) : Nat := if i ≤ 9 then 128 ^ i else 0
theorem pw_step {i : Nat} (h : i < 10) : IntKind.u64.wrap ((pw i : Nat) * 128 : Int) = ((pw (i + 1) : Nat) : Int) := by
  unfold pw
  rw [if_pos (by omega)]
  by_cases h9 : i = 9
  · subst h9; decide
  · rw [if_pos (by omega), Nat.pow_succ]
    have : 128 ^ i ≤ 128 ^ 8 := Nat.pow_le_pow_right (by omega) (by omega)
    rw [show ((128 ^ i : Nat) : Int) * 128 = ((128 ^ i * 128 : Nat) : Int) by rw [Int.natCast_mul]; rfl]
    exact u64wrap (by omega) (by omega)

theorem refTake01_p (l : List UInt8) (hl : l.length ≤ 9223372036854775807) : FnP Tryz.prog 174 [.s l] (· = tkA (tk l)) := by
  refine FnP.intro Tryz.tabOK Tryz.wide_ Tryz.func174 rfl (by decide) rfl (fun X => ?_)
  have fin : ∀ (t : TK) (r : AV), tk l = t → r = tkA t → r = tkA (tk l) := fun t r h hr => by rw [hr, h]
  repeat (first | refine sc rfl ?_ | refine so rfl ?_ | refine sb rfl ?_)
  refine C_loop (fun q : Nat × Nat => ⟨[(0, .s l), (7, I64 (q.1 : Nat)), (5, U64 (q.2 : Nat)), (6, U64 (pw q.1 : Nat))], []⟩)
    (fun q => q.1 ≤ 10 ∧ q.1 ≤ l.length ∧ q.2 < 128 ^ q.1 ∧ tk l = comb q.1 q.2 (tkS (10 - q.1) (decide (0 < q.1)) (l.drop q.1))) (fun q => 10 - q.1) (0, 0) ⟨by decide, by simp only []; omega, by decide, tk_comb l⟩
    (Le.sub [] ⟨rfl, rfl, rfl, rfl, trivial⟩ rfl) ?_
  rintro ⟨i, n⟩ ⟨hi10, hil, hn, ht⟩
  simp only [] at hi10 hil hn ht
  repeat (first | refine sc rfl ?_ | refine so rfl ?_ | refine sb rfl ?_)
  refine O_join ⟨[(0, .s l), (7, I64 (i : Nat)), (5, U64 (n : Nat)), (6, U64 (pw i : Nat)), (16, B (decide (i < l.length ∧ i < 10)))], []⟩ ?_ (fun s h => C_le _ h ?_)
  · have fin2 : ∀ x : Bool, x = decide (i < l.length ∧ i < 10) → some (B x) = some (B (decide (i < l.length ∧ i < 10))) := fun x hb => by rw [hb]
    refine O_case 13 rfl (fun h5 => ?_) (fun h5 => ?_) <;> simp at h5 <;> repeat (first | refine sc rfl ?_ | refine so rfl ?_ | refine sb rfl ?_)
    · exact Le.sub [] ⟨rfl, rfl, rfl, rfl, fin2 _ (by rw [Bool.eq_iff_iff]; simp; omega), trivial⟩ rfl
    · exact Le.sub [] ⟨rfl, rfl, rfl, rfl, fin2 _ (by rw [Bool.eq_iff_iff]; simp; omega), trivial⟩ rfl
  refine C_if rfl (fun h => ?_) (fun h => ?_) <;> simp only [decide_eq_true_eq, decide_eq_false_iff_not] at h
  · have hi : i < l.length ∧ i < 10 := by omega
    obtain ⟨f, hf⟩ : ∃ f, 10 - i = f + 1 := ⟨9 - i, by omega⟩
    rw [hf] at ht
    obtain ⟨c, hc⟩ : ∃ c, by_ l i = c := ⟨_, rfl⟩
    have hc256 : c < 256 := by rw [← hc]; exact by_lt l i
    have key : ((f = 0 ∧ 1 < c) ∨ (c = 0 ∧ decide (0 < i) = true)) ↔ ((i = 9 ∧ 1 < c) ∨ (c = 0 ∧ 0 < i)) := by simp only [decide_eq_true_eq]; omega
    repeat (first | refine sc rfl ?_ | refine so rfl ?_ | refine sb rfl ?_ | refine And.intro (by omega) ?_)
    rw [Int.toNat_natCast, getD_by, hc, u64wrap (x := (c : Int)) (by omega) (by omega)]
    repeat (first | refine sc rfl ?_ | refine so rfl ?_ | refine sb rfl ?_)
    refine O_join ⟨[(0, .s l), (7, I64 (i : Nat)), (5, U64 (n : Nat)), (6, U64 (pw i : Nat)), (8, U64 (c : Nat)), (36, B (decide ((i = 9 ∧ 1 < c) ∨ (c = 0 ∧ 0 < i))))], []⟩ ?_ (fun s h => C_le _ h ?_)
    · have fin2 : ∀ x : Bool, x = decide ((i = 9 ∧ 1 < c) ∨ (c = 0 ∧ 0 < i)) → some (B x) = some (B (decide ((i = 9 ∧ 1 < c) ∨ (c = 0 ∧ 0 < i)))) := fun x hb => by rw [hb]
      refine O_case 25 rfl (fun h5 => ?_) (fun h5 => ?_) <;> simp at h5 <;> repeat (first | refine sc rfl ?_ | refine so rfl ?_ | refine sb rfl ?_)
      · refine O_case 29 rfl (fun h6 => ?_) (fun h6 => ?_) <;> simp at h6 <;> repeat (first | refine sc rfl ?_ | refine so rfl ?_ | refine sb rfl ?_)
        · exact Le.sub [] ⟨rfl, rfl, rfl, rfl, rfl, fin2 _ (by rw [Bool.eq_iff_iff]; simp; omega), trivial⟩ rfl
        · refine O_case 32 rfl (fun h7 => ?_) (fun h7 => ?_) <;> simp at h7 <;> repeat (first | refine sc rfl ?_ | refine so rfl ?_ | refine sb rfl ?_)
          · exact Le.sub [] ⟨rfl, rfl, rfl, rfl, rfl, fin2 _ (by rw [Bool.eq_iff_iff]; simp; omega), trivial⟩ rfl
          · exact Le.sub [] ⟨rfl, rfl, rfl, rfl, rfl, fin2 _ (by rw [Bool.eq_iff_iff]; simp; omega), trivial⟩ rfl
      · refine O_case 32 rfl (fun h7 => ?_) (fun h7 => ?_) <;> simp at h7 <;> repeat (first | refine sc rfl ?_ | refine so rfl ?_ | refine sb rfl ?_)
        · exact Le.sub [] ⟨rfl, rfl, rfl, rfl, rfl, fin2 _ (by rw [Bool.eq_iff_iff]; simp; omega), trivial⟩ rfl
        · exact Le.sub [] ⟨rfl, rfl, rfl, rfl, rfl, fin2 _ (by rw [Bool.eq_iff_iff]; simp; omega), trivial⟩ rfl
    refine C_if rfl (fun h1 => ?_) (fun h1 => ?_)
    · have h2 := key.2 (of_decide_eq_true h1)
      repeat (first | refine sc rfl ?_ | refine so rfl ?_ | refine sb rfl ?_)
      exact ⟨_, rfl, rfl, fin (0, 0, 1) _ (by rw [ht, comb_bad hi.1 hc h2]) rfl⟩
    have h2 : ¬ ((f = 0 ∧ 1 < c) ∨ (c = 0 ∧ decide (0 < i) = true)) := fun hh => of_decide_eq_false h1 (key.1 hh)
    have hp9 := pow_le9 (i := i) (by omega)
    have hm : c % 128 * 128 ^ i ≤ 127 * 128 ^ i := Nat.mul_le_mul_right _ (by omega)
    have hsum : n + c % 128 * 128 ^ i < 18446744073709551616 := by
      by_cases h9 : i = 9
      · subst h9
        have h3 : c ≤ 1 := by omega
        have h4 : c % 128 * 128 ^ 9 ≤ 1 * 128 ^ 9 := Nat.mul_le_mul_right _ (by omega)
        omega
      · have h4 : 128 ^ i ≤ 128 ^ 8 := Nat.pow_le_pow_right (by omega) (by omega)
        omega
    have hpw : pw i = 128 ^ i := by unfold pw; rw [if_pos (by omega)]
    repeat (first | refine sc rfl ?_ | refine so rfl ?_ | refine sb rfl ?_ | refine And.intro (by omega) ?_)
    have hv : IntKind.u64.wrap ((n : Int) + IntKind.u64.wrap ((c : Int).tmod 128 * ((pw i : Nat) : Int))) = ((n + c % 128 * 128 ^ i : Nat) : Int) := by
      rw [Int.tmod_eq_emod_of_nonneg (by omega), hpw, show (c : Int) % 128 * ((128 ^ i : Nat) : Int) = ((c % 128 * 128 ^ i : Nat) : Int) by rw [Int.natCast_mul]; rfl, u64wrap (x := ((c % 128 * 128 ^ i : Nat) : Int)) (by omega) (by omega), show (n : Int) + ((c % 128 * 128 ^ i : Nat) : Int) = ((n + c % 128 * 128 ^ i : Nat) : Int) by omega, u64wrap (by omega) (by omega)]
    rw [hv, pw_step hi.2]
    repeat (first | refine sc rfl ?_ | refine so rfl ?_ | refine sb rfl ?_)
    refine C_if rfl (fun h3 => ?_) (fun h3 => ?_) <;> simp only [decide_eq_true_eq, decide_eq_false_iff_not] at h3
    · repeat (first | refine sc rfl ?_ | refine so rfl ?_ | refine sb rfl ?_)
      rw [w64 (by omega) (by omega)]
      exact ⟨_, rfl, rfl, fin (n + c % 128 * 128 ^ i, i + 1, 0) _ (by rw [ht, comb_last hi.1 hc h2 (by omega)]) rfl⟩
    · repeat (first | refine sc rfl ?_ | refine so rfl ?_ | refine sb rfl ?_)
      rw [w64 (by omega) (by omega)]
      refine ⟨(i + 1, n + c % 128 * 128 ^ i), ⟨by simp only []; omega, by simp only []; omega, ?_, ?_⟩, by simp only []; omega, Le.sub [] ⟨rfl, rfl, rfl, rfl, trivial⟩ rfl⟩
      · simp only [Nat.pow_succ]
        omega
      · simp only []
        rw [ht, comb_step hi.1 hc h2 (by omega), show 10 - (i + 1) = f by omega, show decide (0 < i + 1) = true from decide_eq_true (by omega)]
  · repeat (first | refine sc rfl ?_ | refine so rfl ?_ | refine sb rfl ?_)
    refine ⟨_, rfl, rfl, fin (0, 0, 2) _ ?_ rfl⟩
    rw [ht, comb_end (by omega)]

end Go.Proofs

/- Regions whose order is drawn, in rounds of ranges over functions. -/
set_option linter.unusedSimpArgs false
set_option linter.unusedVariables false
set_option maxRecDepth 100000
namespace Go

section
variable {P : Program} {ops : Array Oper} {md : Region.Mode} {Q : Exit → Act → World → Prop}

def noDefer : Op → Bool
  | .defer _ => false
  | _ => true

theorem semAt_nd {ro : Option Nat} {ρ : Operand → Value} {o : Oper} (h : noDefer o.op = true) : o.semAt ro ρ = execOp ρ o :=
  Oper.semAt_eq ro ρ o (fun c hc => by rw [hc] at h; cases h)

theorem Oper.wp_round {l n : Nat} {o : Oper} {a : Act} {w : World} {K K' : Act → World → Prop} (hd : noDefer o.op = true) (hK : ∀ a w, K a w → K' a w)
    (h : o.wp P a w K Q) : o.wpIn (Fence.wide.inRound l) n P a w K' Q := by
  refine ⟨fun _ _ => trivial, ?_⟩
  rw [semAt_nd hd]
  unfold Oper.wp at h
  generalize (execOp a.eval o).run P w = r at h ⊢
  cases r with
  | ok x w' =>
    cases x <;> simp only [Oper.upon] at h <;> simp only [Oper.uponIn]
    all_goals first | exact hK _ _ h | exact h.elim | skip
    case enter f args =>
      refine ⟨fun h0 => (by cases h0), ?_⟩
      refine CallsIn.inRound l (callsIn_wide.2 (h.mono ?_))
      intro e w2 h2
      cases e with
      | returned v => exact hK _ _ h2
      | panicked c => exact h2
      | outgrown => exact h2
    case row r args =>
      refine ⟨fun h0 => (by cases h0), ?_⟩
      have h3 : RowsIn Fence.wide (n - 1) P r args w' (fun v w'' => K' (a.put o.dst v) w'') := fun c cs _ => by
        obtain ⟨v, w2, r2, s⟩ := h c cs
        exact ⟨v, w2, hK _ _ r2, stepsIn_wide.2 s⟩
      exact h3
  | halt x w' => cases x <;> simp only [Oper.upon] at h <;> simp only [Oper.uponIn] <;> exact h

theorem wpOp_round {l n i : Nat} {a : Act} {w : World} {K K' : Act → World → Prop} (hd : ∀ o : Oper, ops[i]? = some o → noDefer o.op = true) (hQ : ¬LetsOut Q) (hK : ∀ a w, K a w → K' a w)
    (h : wpOp P ops Q i K a w) : wpOpIn (Fence.wide.inRound l) n P ops Q i K' a w := by
  unfold wpOp at h
  unfold wpOpIn
  split
  · rename_i ho; simp only [ho] at h; exact hK _ _ h
  · rename_i o ho
    simp only [ho] at h
    split
    · rename_i hw
      simp only [hw, if_true] at h
      rcases h with h | h
      · exact Oper.wp_round (hd o ho) hK h
      · exact absurd h.2 hQ
    · rename_i hw
      simp only [hw] at h
      exact ⟨fun _ _ => trivial, hK _ _ h⟩

theorem wpAny_round {l n : Nat} (hd : ∀ (i : Nat) (o : Oper), ops[i]? = some o → noDefer o.op = true) (hQ : ¬LetsOut Q) : ∀ (fuel : Nat) (listed : Array Bool) (a : Act) (w : World),
    wpAny P md ops Q fuel listed a w → wpAnyIn (Fence.wide.inRound l) n P md ops Q fuel listed a w
  | 0, _, _, _, h => h
  | fuel + 1, listed, a, w, h => ⟨h.1, fun i hi => wpOp_round (hd i) hQ (fun a w => wpAny_round hd hQ fuel _ a w) (h.2 i hi)⟩

/-- A drawn region in a round: by what any order does. -/
theorem round_region_any {l n id : Nat} {a : Act} {w : World} (hm : P.follows .mixedOrders = true) (hd : ops.toList.all (fun o : Oper => noDefer o.op) = true) (hQ : ¬LetsOut Q)
    (h : wpAny P .any ops Q ops.size (Array.replicate ops.size false) a { w with drawn := w.drawn + 1 }) : (Code.region id ops true).wpIn (Fence.wide.inRound l) n P Q a w :=
  wpIn_region_any hm (wpAny_round (fun i o ho => List.all_eq_true.1 hd o (Array.mem_toList_iff.2 (Array.mem_of_getElem? ho))) hQ _ _ _ _ h)

theorem round_region_still {l n id : Nat} {a : Act} {w : World} {L : List Oper} (hm : P.follows .mixedOrders = true) (hB : Region.lexB .any L.toArray = true) (hd : L.all (fun o : Oper => noDefer o.op) = true) (hQ : ¬LetsOut Q)
    (h : wpStill P L.toArray { w with drawn := w.drawn + 1 } (fun a' => Q .normal a' { w with drawn := w.drawn + 1 }) L a) : (Code.region id L.toArray true).wpIn (Fence.wide.inRound l) n P Q a w := by
  simp only [Region.lexB, Bool.and_eq_true] at hB
  refine round_region_any hm (by simpa using hd) hQ (wpAny_of_still (Q := fun a' => Q .normal a' { w with drawn := w.drawn + 1 }) (fun _ h => h) _ _ _ ?_)
  have := wpAnyS_lex (md := .any) hB.1 L 0 (Array.replicate L.length false) a (by simp) (by simpa using hB.2) h
  simpa using this
theorem round_region_still_tail {l m id : Nat} {a : Act} {w : World} {L : List Oper} (n : Nat) (hm : P.follows .mixedOrders = true) (hB : Region.lexTailB .any L.toArray n = true) (hd : L.all (fun o : Oper => noDefer o.op) = true) (hQ : ¬LetsOut Q)
    (h : wpStill P L.toArray { w with drawn := w.drawn + 1 } (fun a' => wpList P L.toArray Q (L.drop n) a' { w with drawn := w.drawn + 1 }) (L.take n) a) : (Code.region id L.toArray true).wpIn (Fence.wide.inRound l) m P Q a w := by
  simp only [Region.lexTailB, Bool.and_eq_true, decide_eq_true_eq] at hB
  obtain ⟨⟨⟨⟨hsel, hn⟩, hs⟩, hc⟩, hlex⟩ := hB
  have hn' : n < L.length := by simpa using hn
  have htl : (L.take n).length = n := by simp; omega
  have hdl : (L.drop n).length = L.toArray.size - n := by simp
  have inv0 : HeadInv .any L.toArray n (Array.replicate L.toArray.size false) :=
    ⟨by simp, fun j oj _ hl => (by rw [getD_replicate_false] at hl; cases hl), fun t _ ht => getD_in (by simpa using ht) (getD_replicate_false _ _)⟩
  have H := wpAnyL_lex (md := .any) (g := L.toArray.size - n) hsel hs hc hn (L.take n) 0 _ a (fun j hj => by
    have hj' : j < n := by rw [htl] at hj; exact hj
    simp [hj']) (by simpa using htl) inv0 (by rw [htl]; exact hlex) h
  refine round_region_any hm (by simpa using hd) hQ ?_
  have := wpAny_of_head (Q' := Q) (g := L.toArray.size - n) (fun listed a' hL => by
    have := wpAny_of_seq (md := .any) (Q' := Q) (L.drop n) n listed a' { w with drawn := w.drawn + 1 } (fun j => by simp [List.getElem?_drop]) (by rw [hdl]; exact hL.1) hL.2
    rwa [hdl] at this) _ _ _ H
  rw [htl, show n + (L.toArray.size - n) = L.toArray.size by omega] at this
  exact this
end
end Go

/- The places of a configuration: the iterator. -/
set_option linter.unusedSimpArgs false
set_option linter.unusedVariables false
set_option maxRecDepth 100000
namespace Go.Proofs
open Go.RowKit Go.Shelf

attribute [local go_sem] Oper.semAt_some

def loP (i : Nat) : Int := if i = 0 then 1040 else 0
def hiP (i : Nat) : Int := if i = 4 then 64 else if i = 5 then 64 else if i = 6 then 16 else 1048576
abbrev plV (B i : Nat) : Value := .agg #[.pointer (some ⟨B, i, none⟩), .int .i64 (loP i), .int .i64 (hiP i)]
abbrev encP (B i : Nat) : Array Value := #[.int .i64 (i : Int), plV B i]
def arrP (B : Nat) : List Value := [.pointer (some ⟨B, 0, none⟩), .int .i64 1040, .int .i64 1048576, .pointer (some ⟨B, 1, none⟩), .int .i64 0, .int .i64 1048576, .pointer (some ⟨B, 2, none⟩), .int .i64 0, .int .i64 1048576,
  .pointer (some ⟨B, 3, none⟩), .int .i64 0, .int .i64 1048576, .pointer (some ⟨B, 4, none⟩), .int .i64 0, .int .i64 64, .pointer (some ⟨B, 5, none⟩), .int .i64 0, .int .i64 64, .pointer (some ⟨B, 6, none⟩), .int .i64 0, .int .i64 16,
  .pointer (some ⟨B, 7, none⟩), .int .i64 0, .int .i64 1048576, .pointer (some ⟨B, 8, none⟩), .int .i64 0, .int .i64 1048576]
theorem ntmps287_ : Tryz.f287.ntmps = 16 := by kernel_rfl

open Go.Sy in
theorem RepL_v {e : Env} : ∀ {l zs : List Value}, RepL e (l.map .v) zs → zs = l
  | [], zs, h => by simpa [RepL] using h
  | x :: l, zs, h => by
    simp only [List.map_cons, RepL] at h
    obtain ⟨z, t, rfl, h1, _, h2⟩ := h
    simp only [Rep] at h1
    rw [h1, RepL_v h2]
open Go.Sy in
theorem RepL_mkv {e : Env} : ∀ {l : List Value}, (∀ x ∈ l, x.oneCell' = true) → RepL e (l.map .v) l
  | [], _ => by simp [RepL]
  | x :: l, h => by
    simp only [List.map_cons, RepL]
    exact ⟨x, l, rfl, by simp [Rep], h x (List.mem_cons_self ..), RepL_mkv (fun y hy => h y (List.mem_cons_of_mem _ hy))⟩
/-- The load of an aggregate that lies in a block whole. -/
theorem load_whole {t b : Nat} {i : Go.Sy.TI} (ht : Tryz.tab t = some i) {T : TypeId} {l : List Value} {W : World} (hg : W.heap[b]? = some (.cells l.toArray T (0, 0))) (h1 : ∀ x ∈ l, x.oneCell' = true)
    (hl : Go.Sy.loadA i (l.map .v) = some (.agg (l.map .v))) : (loadVar t ⟨b, 0, none⟩).run Tryz.prog W = .ok (.agg l.toArray) W := by
  obtain ⟨v, h3, h4⟩ := Go.Sy.load_sound Tryz.tabOK ht (e := ⟨Go.Sy.IM.empty, fun _ => 0, fun _ => undef⟩) (w := W) (b := b) (o := 0) (cells := l.map .v)
    (by have := Go.Sy.readable_bp (e := ⟨Go.Sy.IM.empty, fun _ => 0, fun _ => undef⟩) hg (cells := l.map .v) (by simpa using RepL_mkv h1) 0; simpa using this) hl
  simp only [Go.Sy.Rep] at h3
  obtain ⟨ys, rfl, h5⟩ := h3
  have h6 := RepL_v h5
  rw [h4 W (Go.Sy.SameAs.refl W)]
  congr 2
  rw [← h6]
theorem arrP_one (B : Nat) : ∀ x ∈ arrP B, x.oneCell' = true := by
  intro x hx
  simp only [arrP, List.mem_cons, List.not_mem_nil, or_false] at hx
  rcases hx with rfl | rfl | rfl | rfl | rfl | rfl | rfl | rfl | rfl | rfl | rfl | rfl | rfl | rfl | rfl | rfl | rfl | rfl | rfl | rfl | rfl | rfl | rfl | rfl | rfl | rfl | rfl <;> rfl
theorem load_arr {W : World} {g B : Nat} (hg : W.heap[g]? = some (.cells (arrP B).toArray 382 (0, 0))) : (loadVar 382 ⟨g, 0, none⟩).run Tryz.prog W = .ok (.agg (arrP B).toArray) W :=
  load_whole (i := _) rfl hg (arrP_one B) rfl

theorem LI_step {F : Fence} {n : Nat} {P : Program} {ops : Array Oper} {Q : Exit → Act → World → Prop} {o : Oper} {rest : List Oper} {a : Act} {w w' : World} {v : Value} (hg : o.guard = none) (hd : noDefer o.op = true)
    (hab : ∀ f, o.about P w a.eval = some f → F.fn f) (hv : (execOp a.eval o).run P w = .ok (.value v) w') (k : wpListIn F n P ops Q rest (a.put o.dst v) w') : wpListIn F n P ops Q (o :: rest) a w := by
  unfold wpListIn
  have hw : Region.wanted o (yielded ops a.tmps) = true := by unfold Region.wanted; rw [hg]
  rw [if_pos hw]
  refine ⟨hab, ?_⟩
  rw [semAt_nd hd, hv]
  exact k

theorem idx_arr {w : World} {B i : Nat} (hi : i < 9) : (Instr.index 382 (.agg (arrP B).toArray) (.int .i64 (i : Int))).run Tryz.prog w = .ok (plV B i) w := by
  rcases (by omega : i = 0 ∨ i = 1 ∨ i = 2 ∨ i = 3 ∨ i = 4 ∨ i = 5 ∨ i = 6 ∨ i = 7 ∨ i = 8) with rfl | rfl | rfl | rfl | rfl | rfl | rfl | rfl | rfl
  all_goals (simp [Instr.index, go_sem]; rfl)

set_option maxHeartbeats 4000000 in
theorem places1_in (F : Fence) (n : Nat) (h7 : F.fn 287) (hro : F.round = none) (hn : 1 ≤ n) (l g B : Nat) (J Jx : List Nat → World → Prop)
    (W : World) (hJ : AbidesFrom W.heap.size J)
    (hY : ∀ pre x W, J pre W → pre.length < 9 → x = pre.length → YieldAt F (n - 1) Tryz.prog l (encP B x) W fun e W' =>
      (e = .returned (.bool true) ∧ J (pre ++ [x]) W' ∧ KeepsWalks W W') ∨ (e = .returned (.bool false) ∧ Jx (pre ++ [x]) W'))
    (hg : W.heap[g]? = some (.cells (arrP B).toArray 382 (0, 0))) (h0 : J [] W) :
    CallsIn F n Tryz.prog 287 #[.func (.yield l) #[] #[], .pointer (some ⟨g, 0, none⟩)] W fun e W' => (∃ v, e = .returned v) ∧
      ((∃ ys, ys = List.range 9 ∧ J ys W') ∨ (∃ pre, (∃ k, k ≤ 9 ∧ pre = List.range k) ∧ Jx pre W')) := by
  refine callsIn_of_wp Tryz.func287 rfl h7 ?_ hro
  simp only [ntmps287_, List.size_toArray, List.length_cons, List.length_nil, Nat.reduceAdd, Nat.reduceSub, Array.replicate_succ, Array.replicate_zero, List.push_toArray, List.append_toArray, List.nil_append, List.cons_append]
  refine wpIn_seq (wpIn_region_lit (LI_step (v := .agg (arrP B).toArray) (w' := W) rfl rfl (fun f hf => by simp [Oper.about] at hf) ?_ ?_))
  · have e1 : (Act.eval { tmps := #[.func (.yield l) #[] #[], .pointer (some ⟨g, 0, none⟩), undef, undef, undef, undef, undef, undef, undef, undef, undef, undef, undef, undef, undef, undef], defers := [] } (.tmp 1)) = .pointer (some ⟨g, 0, none⟩) := rfl
    simp only [execOp, e1, Instr.loadAt, Instr.sureAddr, Sem.run_bind, Sem.run_pure, Result.andThen_ok, load_arr hg]
  obtain ⟨A, hA⟩ : ∃ A, (arrP B).toArray = A := ⟨_, rfl⟩
  have hix : ∀ (i : Nat) (w : World), i < 9 → (Instr.index 382 (.agg A) (.int .i64 (i : Int))).run Tryz.prog w = .ok (plV B i) w := fun i w h => by rw [← hA]; exact idx_arr h
  rw [hA]
  gi_wp2
  gi_loopw [6] (fun i wr => ∃ k : Nat, k ≤ 9 ∧ i = .int .i64 k ∧ J (List.range k) wr ∧ W.heap.size ≤ wr.heap.size) (fun i _ => 9 - (intOf i).toNat)
  case atStart => exact ⟨0, Nat.zero_le _, rfl, h0, Nat.le_refl _⟩
  case round =>
    obtain ⟨k, hk, rfl, hJs, hsz⟩ := hrel
    by_cases hlt : k < 9
    · have hJ2 : J (List.range k) (wr.alloc (.cells #[.pointer (some ⟨B, k, none⟩), .int .i64 (loP k), .int .i64 (hiP k)] 372)) := hJ _ _ _ none hJs (World.grownBy_alloc _ _ _) (fun r e => by cases e)
      obtain ⟨fn, tmps, assign, body, hy, hR⟩ := hY _ k _ hJ2 (by simpa using hlt) (by simp)
      have hidx := hix k wr hlt
      gi_wp2
      refine hR.mono ?_
      rintro e W3 (⟨rfl, hJ3, hk3⟩ | ⟨rfl, hJx3⟩)
      · gi_wp2
        go_roundw
        case rel => exact ⟨k + 1, by omega, by simp, by rw [List.range_succ]; exact hJ3, by have := hk3.size; simp at this; omega⟩
        case measure => simp [intOf]; omega
      · gi_wp2
        refine bodyPost_ret (results_none rfl _ _ _) rfl ?_
        exact ⟨⟨_, rfl⟩, .inr ⟨_, ⟨k + 1, by omega, (List.range_succ).symm⟩, hJx3⟩⟩
    · obtain rfl : k = 9 := by omega
      gi_wp2
      go_end0
      exact ⟨⟨_, rfl⟩, .inl ⟨_, rfl, hJs⟩⟩

theorem places_stops (F : Fence) (n : Nat) (h7 : F.fn 287) (hro : F.round = none) (hn : 1 ≤ n) (g B : Nat) (w : World) (hg : w.heap[g]? = some (.cells (arrP B).toArray 382 (0, 0))) :
    SeqStopsK F n Tryz.prog 287 #[.pointer (some ⟨g, 0, none⟩)] (fun i : Fin 9 => encP B i.val) KeepsWalks (fun xs => xs = List.finRange 9) (fun _ => True) 9 w := by
  intro l J Jx W hb hJ hJx hY h0
  have hgw : g < w.heap.size := (Array.getElem?_eq_some_iff.1 hg).1
  have hgW : W.heap[g]? = some (.cells (arrP B).toArray 382 (0, 0)) := (hb.block g hgw).trans hg
  refine (places1_in F n h7 hro hn l g B (fun pre W => ∃ q : List (Fin 9), q.map Fin.val = pre ∧ J q W) (fun pre W => ∃ q : List (Fin 9), q.map Fin.val = pre ∧ Jx q W) W ?_ ?_ hgW ⟨[], rfl, h0⟩).mono ?_
  · rintro s A C row ⟨q, h1, h2⟩ hg hr
    exact ⟨q, h1, hJ q A C row h2 hg hr⟩
  · rintro pre x W1 ⟨q, rfl, hq⟩ hl hx
    rw [List.length_map] at hl hx
    have hx9 : x < 9 := by omega
    obtain ⟨fn, tmps, assign, body, hy, hR⟩ := hY q ⟨x, hx9⟩ W1 hq hl
    refine ⟨fn, tmps, assign, body, hy, hR.mono ?_⟩
    rintro e W' (⟨h1, h2, h3⟩ | ⟨h1, h2⟩)
    · exact .inl ⟨h1, ⟨_, by simp, h2⟩, h3⟩
    · exact .inr ⟨h1, ⟨_, by simp, h2⟩⟩
  · rintro e W' ⟨hv, ⟨ys, rfl, q, hq, hJq⟩ | ⟨pre, _, q, hq, hJq⟩⟩
    · refine ⟨hv, .inl ⟨q, ?_, hJq⟩⟩
      have e2 : (List.finRange 9).map Fin.val = List.range 9 := rfl
      refine List.ext_getElem? (fun i => ?_)
      have e3 : (q.map Fin.val)[i]? = ((List.finRange 9).map Fin.val)[i]? := by rw [hq, e2]
      rw [List.getElem?_map, List.getElem?_map] at e3
      cases h1 : q[i]? with
      | none => rw [h1] at e3; cases h2 : (List.finRange 9)[i]? with
        | none => rfl
        | some y => rw [h2] at e3; cases e3
      | some z => rw [h1] at e3; cases h2 : (List.finRange 9)[i]? with
        | none => rw [h2] at e3; cases e3
        | some y =>
          rw [h2] at e3
          simp only [Option.map_some, Option.some.injEq] at e3
          rw [Fin.ext e3]
    · exact ⟨hv, .inr ⟨q, trivial, hJq⟩⟩
end Go.Proofs

/- Contracts of the document's values: Deep, Well. -/
set_option linter.unusedSimpArgs false
set_option linter.unusedVariables false
set_option maxRecDepth 100000
namespace Go.Proofs
open Go.Sy Go.Lib

end Go.Proofs

/- Contracts of the document's values: keys, one, Well. -/
set_option linter.unusedSimpArgs false
set_option linter.unusedVariables false
set_option maxRecDepth 100000
namespace Go.Proofs
open Go.Sy Go.Lib

end Go.Proofs

/- The document's side: the rows of a name, in order; plain laws of iterations. -/
set_option linter.unusedSimpArgs false
set_option linter.unusedVariables false
set_option maxRecDepth 100000
namespace Go.Proofs
open Go.Sy Go.Lib

section
variable {l : List Dcl} {nm : List UInt8} {j : Nat} {F : List Fld}

end

end Go.Proofs

/- Contracts of the document's fit: what is of a type; Of, has. -/
set_option linter.unusedSimpArgs false
set_option linter.unusedVariables false
set_option maxRecDepth 100000
namespace Go.Proofs
open Go.Sy Go.Lib

end Go.Proofs

/- Contracts of the document's fit: named, inner. -/
set_option linter.unusedSimpArgs false
set_option linter.unusedVariables false
set_option maxRecDepth 100000
namespace Go.Proofs
open Go.Sy Go.Lib

end Go.Proofs

/- Contracts of the document's fit: Fits, Struct. -/
set_option linter.unusedSimpArgs false
set_option linter.unusedVariables false
set_option maxRecDepth 100000
namespace Go.Proofs
open Go.Sy Go.Lib

end Go.Proofs

/- Blank values: what is made, exactly, and that none is deeper than it must be (plain law). -/
set_option linter.unusedSimpArgs false
set_option linter.unusedVariables false
set_option maxRecDepth 100000
namespace Go.Proofs
open Go.Sy Go.Lib

abbrev zV : Val := ⟨0, 0, [], [], []⟩

end Go.Proofs

/- The symbolic walk, part 63: cells of variables that hold slices of one's own; slice literals and appends in drawn regions of effects. -/
set_option linter.unusedSimpArgs false
set_option linter.unusedVariables false
namespace Go.Sy
open Go.RowKit

section
variable {P : Program} {T : Tab} {X : Ctx P T} {n : Nat} {e : Env} {st : St} {a : Act} {w : World} {ops : Array Oper} {K : St → Prop}

end
end Go.Sy

/- Contracts of blank: plain. -/
set_option linter.unusedSimpArgs false
set_option linter.unusedVariables false
set_option maxRecDepth 100000
namespace Go.Proofs
open Go.Sy Go.Lib

/-- A maker. -/
abbrev MK (b : Nat) : AV := .cp [PT b 0]
abbrev BR (b : Nat) (l : List Dcl) (x : Val × Bool) : AV → List Abs → Prop := fun r cs' => r = .tup [.agg (Val.c x.1), B x.2] ∧ cs' = [dscS b l]

end Go.Proofs

/- Contracts of blank: fields. -/
set_option linter.unusedSimpArgs false
set_option linter.unusedVariables false
set_option maxRecDepth 100000
namespace Go.Proofs
open Go.Sy Go.Lib

abbrev zC : List AV := [I64 0, I64 0, .s [], .v (.slice none 0 0), .v (.slice none 0 0)]

end Go.Proofs

/- Contracts of blank: one, by. -/
set_option linter.unusedSimpArgs false
set_option linter.unusedVariables false
set_option maxRecDepth 100000
namespace Go.Proofs
open Go.Sy Go.Lib

end Go.Proofs

/- Contracts of blank: Type, Struct; the schema of declarations. -/
set_option linter.unusedSimpArgs false
set_option linter.unusedVariables false
set_option maxRecDepth 100000
namespace Go.Proofs
open Go.Sy Go.Lib

end Go.Proofs

/- The example of chapter 19; the law BlankLeast. -/
set_option linter.unusedSimpArgs false
set_option linter.unusedVariables false
set_option maxRecDepth 100000
namespace Go.Proofs
open Go.Sy Go.Lib

def hA : Fld := ⟨1, [97], ⟨4, [], []⟩⟩
def hB : Fld := ⟨2, [98], ⟨9, [], [⟨6, [80], []⟩]⟩⟩

end Go.Proofs

/- The symbolic walk, part 64: arrays built; entries of maps deleted. -/
set_option linter.unusedSimpArgs false
set_option linter.unusedVariables false
set_option maxRecDepth 100000
namespace Go.Sy
open Go.RowKit
section
variable {P : Program} {T : Tab} {X : Ctx P T} {n : Nat} {ops : Array Oper}

theorem X_buildArr {p : Pl} {t el len sz s0 b0 b1 : Nat} {ag1 ag0 : Bool} {zero z0 : List Value} {d0 : TD} {parts : Array (Nat × Operand)} {ps : List (Nat × AV)} {cs : List AV} {d : Nat} {ty : TypeId} {pos : String} {aft : Array Edge} {gd : Option (Nat × Bool)} {i : Nat} {Si : List (Nat × AV)} {c : List Ch}
    (hg : guardA ops ⟨Si, c⟩ ⟨some d, .build t parts, ty, pos, aft, gd⟩ = some true) (hd : Nat.blt d n = true) (ht : T t = some ⟨s0, b0, ag1, zero, .arr len el⟩) (hel : T el = some ⟨sz, b1, ag0, z0, d0⟩) (hps : opdP Si parts.toList = some ps)
    (hf : fillA (fun i => some (i * sz, sz)) (zero.map constA) ps = some cs) : StepX X n ops p Si c c i ⟨some d, .build t parts, ty, pos, aft, gd⟩ (.agg cs) :=
  StepX.val hg hd (fun e a w S r r' => by
    have hT := X.ok
    obtain ⟨pi, z, g1, g2, g3, g4, g5, g6, g7⟩ := (hT _ _ ht).info
    obtain ⟨dd, e1, _, e3⟩ := (hT _ _ ht).desc
    simp only [TDOK] at e3
    subst e3
    obtain ⟨q1, q2⟩ := opdP_sound r' hps
    simp only at g5 g6
    obtain ⟨out, o1, o2⟩ := fill_sound (e := e) (place := fun i => some (i * sz, sz)) (cp := fun i => some (i * sz, sz)) (fun i q h => h) ps (parts.toList.map fun (i, x) => (i, a.eval x)) _ z.cells cs (by simp [q1]) q2 (by rw [g5]; exact zero_sound e g6) hf
    have hsz := hT.size hel w
    refine ⟨.agg out, w, e, ?_, r, by simp only [Rep]; exact ⟨_, rfl, o2⟩⟩
    simp only [execOp, Instr.build, Sem.run_bind, zeroValue, typeInfo, run_program, Result.andThen_ok, g1, Sem.run_pure, g4, run_underlying e1, hsz, Array.toList_map]
    rw [o1]
    rfl)
end
end Go.Sy

/- The places of a configuration: the function that makes the iterator. -/
set_option linter.unusedSimpArgs false
set_option linter.unusedVariables false
set_option maxRecDepth 100000
namespace Go.Proofs
open Go.Sy Go.Lib

def z27 : List AV := [.v (.pointer none), I64 0, I64 0, .v (.pointer none), I64 0, I64 0, .v (.pointer none), I64 0, I64 0, .v (.pointer none), I64 0, I64 0, .v (.pointer none), I64 0, I64 0, .v (.pointer none), I64 0, I64 0, .v (.pointer none), I64 0, I64 0, .v (.pointer none), I64 0, I64 0, .v (.pointer none), I64 0, I64 0]
def CP9 (z : List AV) (b37 b38 : Bool) : List Ch := bif b37 then [.box 3 382 (bif b38 then z else z27)] else []
def PP9 : Pl := ⟨[[], [], [], [], [], [], [], [], [], [], [], [], [], [], [], [], [], [], [], [], [], [], [], [], [], [], [], [], [], [], [], [], [], [], [], [], [], [], [37]], [37, 38], [(37, 3)], []⟩

theorem places_A (b : Nat) : FnA Tryz.prog 268 [PT b 0] [] (fun r cs' => ∃ g, r = .p (cloRP 287 [PT g 0]) ∧ cs' = [boxA g 382 ((arrP b).map .v)]) := by
  refine FnA.intro Tryz.tabOK Tryz.wide_ Tryz.func268 rfl (by decide) rfl (fun X => ?_)
  repeat (first | refine sc rfl ?_ | refine so rfl ?_ | refine sb rfl ?_)
  refine C_drawM PP9 (fun L => CP9 ((arrP b).map .v) (L 37) (L 38)) rfl (by kernel_rfl) (fun L L' h => by show CP9 _ (L 37) (L 38) = CP9 _ (L' 37) (L' 38); rw [h 37 (by decide), h 38 (by decide)]) rfl ?_
  iterate 36 (refine sm rfl ⟨trivial, ?_⟩)
  refine SM (.agg ((arrP b).map .v)) rfl (fun L h1 h2 h3 => X_buildArr rfl rfl rfl rfl rfl rfl) ?_
  refine SM (.bp 3 0) rfl (fun L h1 h2 h3 => ?_) ?_
  · show StepX _ _ _ _ _ (CP9 ((arrP b).map .v) (L 37) (L 38)) (CP9 ((arrP b).map .v) true (L 38)) _ _ _
    rw [show L 37 = false from h3, h2 38 (show (37 : Nat) ∈ PP9.anc 38 by decide)]
    exact X_alloc rfl rfl rfl rfl (show ((37, 3) : Nat × Nat) ∈ PP9.cre by decide) rfl rfl rfl
  refine SM .bad rfl (fun L h1 h2 h3 => ?_) ?_
  · show StepX _ _ _ _ _ (CP9 ((arrP b).map .v) (L 37) (L 38)) (CP9 ((arrP b).map .v) (L 37) true) _ _ _
    rw [show L 38 = false from h3, h1 37 (show (37 : Nat) ∈ PP9.anc 38 by decide)]
    exact X_storeK rfl rfl rfl rfl rfl rfl rfl rfl rfl
  refine sm rfl ?_
  show SymC _ _ _ ⟨_, [.box 3 382 ((arrP b).map .v)]⟩ _
  refine C_absb 3 rfl rfl rfl (fun g => ?_)
  repeat (first | refine sc rfl ?_ | refine so rfl ?_ | refine sb rfl ?_)
  refine O_makeFunc rfl rfl rfl rfl ?_
  repeat (first | refine sc rfl ?_ | refine so rfl ?_ | refine sb rfl ?_)
  first
    | exact ⟨_, [_], _, rfl, pickA_perm (is := [0]) (As := [_]) rfl, rfl, g, rfl, rfl⟩
    | exact ⟨_, [_], _, rfl, pickA_perm (is := [1]) (As := [_]) rfl, rfl, g, rfl, rfl⟩
end Go.Proofs

/- Orders, rows, waits: data (printed by gen.py) -/
set_option linter.unusedSimpArgs false
set_option linter.unusedVariables false
set_option maxRecDepth 100000
namespace Go.Proofs
open Go.Sy Go.Lib

structure Nte where
  conn : Int
  owner : Int
  kind : Int
  body : List UInt8
  err : Int
  reply : List UInt8

instance : Inhabited Nte := ⟨⟨0, 0, 0, [], 0, []⟩⟩
def Nte.c (x : Nte) : List AV := [I64 x.conn, I64 x.owner, I64 x.kind, .s x.body, I64 x.err, .s x.reply]
structure Rw where
  fat : Int
  act : Int
  note : Nte

instance : Inhabited Rw := ⟨⟨0, 0, default⟩⟩
def Rw.c (x : Rw) : List AV := [I64 x.fat, I64 x.act, I64 x.note.conn, I64 x.note.owner, I64 x.note.kind, .s x.note.body, I64 x.note.err, .s x.note.reply]
structure Wt where
  fat : Int
  owner : Int
  cost : Int
  turns : Int
  most : Int
  served : Bool
  flet : Bool

instance : Inhabited Wt := ⟨⟨0, 0, 0, 0, 0, false, false⟩⟩
def Wt.c (x : Wt) : List AV := [I64 x.fat, I64 x.owner, I64 x.cost, I64 x.turns, I64 x.most, B x.served, B x.flet]
structure Cf where
  quantum : Int
  rate : Int
  burst : Int
  mem : Int
  slots : Int
  outs : Int
  conns : Int
  state : Int
  decode : Int

instance : Inhabited Cf := ⟨⟨0, 0, 0, 0, 0, 0, 0, 0, 0⟩⟩
def Cf.c (x : Cf) : List AV := [I64 x.quantum, I64 x.rate, I64 x.burst, I64 x.mem, I64 x.slots, I64 x.outs, I64 x.conns, I64 x.state, I64 x.decode]
structure Ord where
  id : Int
  op : Int
  owner : Int
  conf : Cf

instance : Inhabited Ord := ⟨⟨0, 0, 0, default⟩⟩
def Ord.c (x : Ord) : List AV := [.v (.int .u64 x.id), I64 x.op, I64 x.owner, I64 x.conf.quantum, I64 x.conf.rate, I64 x.conf.burst, I64 x.conf.mem, I64 x.conf.slots, I64 x.conf.outs, I64 x.conf.conns, I64 x.conf.state, I64 x.conf.decode]
structure Tn where
  lives : Bool
  rests : Bool
  conf : Cf

instance : Inhabited Tn := ⟨⟨false, false, default⟩⟩
def Tn.c (x : Tn) : List AV := [B x.lives, B x.rests, I64 x.conf.quantum, I64 x.conf.rate, I64 x.conf.burst, I64 x.conf.mem, I64 x.conf.slots, I64 x.conf.outs, I64 x.conf.conns, I64 x.conf.state, I64 x.conf.decode]
structure Bk where
  l : List Tn

instance : Inhabited Bk := ⟨⟨[]⟩⟩
def Bk.c (x : Bk) : List AV := [SL 11 Tn.c x.l]
structure Opn where
  w : Wt
  cost : Int
  fopen : Bool

instance : Inhabited Opn := ⟨⟨default, 0, false⟩⟩
def Opn.c (x : Opn) : List AV := [I64 x.w.fat, I64 x.w.owner, I64 x.w.cost, I64 x.w.turns, I64 x.w.most, B x.w.served, B x.w.flet, I64 x.cost, B x.fopen]
structure Tnt where
  conf : Cf
  rests : Bool

instance : Inhabited Tnt := ⟨⟨default, false⟩⟩
end Go.Proofs

/- Contracts of conf: Check. -/
set_option linter.unusedSimpArgs false
set_option linter.unusedVariables false
set_option maxRecDepth 100000
namespace Go.Proofs
open Go.RowKit Go.Shelf

attribute [local go_sem] Oper.semAt_some

def Cf.l (x : Cf) : List Int := [x.quantum, x.rate, x.burst, x.mem, x.slots, x.outs, x.conns, x.state, x.decode]
def Cf.vs (x : Cf) : List Value := [.int .i64 x.quantum, .int .i64 x.rate, .int .i64 x.burst, .int .i64 x.mem, .int .i64 x.slots, .int .i64 x.outs, .int .i64 x.conns, .int .i64 x.state, .int .i64 x.decode]
/-- Is a number of a configuration within its bounds? -/
def okAt (x : Cf) (i : Nat) : Bool := decide (loP i ≤ x.l.getD i 0) && decide (x.l.getD i 0 ≤ hiP i)
def ckF (x : Cf) : Int := if ∀ i : Fin 9, okAt x i.val = true then 0 else 1

open Go.Sy in
theorem RepIL_v {G : IM} : ∀ {l zs : List Value}, RepIL G (l.map .v) zs → zs = l
  | [], zs, h => by simpa [RepIL] using h
  | x :: l, zs, h => by
    simp only [List.map_cons, RepIL] at h
    obtain ⟨z, t, rfl, h1, _, h2⟩ := h
    simp only [RepI] at h1
    rw [h1, RepIL_v h2]

open Go.Sy in
theorem places_calls (b : Nat) (w : World) : Calls Tryz.prog 268 #[.pointer (some ⟨b, 0, none⟩)] w fun e w' => ∃ g, e = .returned (.func (.func 287) #[] #[.pointer (some ⟨g, 0, none⟩)]) ∧ w.heap.size ≤ g ∧ w'.heap[g]? = some (.cells (arrP b).toArray 382 (0, 0)) ∧ Below w.heap.size w w' := by
  refine ((places_A b).2 IM.empty w [.pointer (some ⟨b, 0, none⟩)] ⟨fun b o v h => (by simp [IM.empty] at h), fun b x h => (by simp [IM.empty] at h)⟩ (by simp only [RepIT, RepI]; exact ⟨_, _, rfl, rfl, rfl⟩) ⟨fun A hA => (by cases hA), (by simp [blocks]), fun b hb => (by simp [blocks] at hb)⟩).mono ?_
  rintro en w' ⟨r, cr, cs', G', ⟨g, rfl, rfl⟩, rfl, g1, g2, g3, g4, g5, g6, o1, o2, o3, o4, o5⟩
  obtain ⟨vs, rfl, hvs⟩ := isClo_p 287 [PT g 0] G' _ g1
  simp only [RepIT, RepI] at hvs
  obtain ⟨z, t, hvs, rfl, rfl⟩ := hvs
  have hvs2 : vs = #[.pointer (some ⟨g, 0, none⟩)] := by
    apply Array.toList_inj.1; simpa using hvs
  subst hvs2
  obtain ⟨arr, h1, h2⟩ := g5.1 _ (List.mem_singleton.2 rfl)
  have h3 := RepIL_v h2
  have h4 : w'.heap[g]? = some (.cells (arrP b).toArray 382 (0, 0)) := by rw [← h3]; simpa using h1
  refine ⟨g, rfl, ?_, h4, ⟨o1, o2, o3, o4, fun k hk => o5 k hk (by simp [blocks]) (IM.free_still ⟨fun o => rfl, rfl⟩)⟩⟩
  rcases g6 g (by simp [blocks, boxA]) with h | h
  · exact h
  · simp [blocks] at h

theorem ownFrom_cells {β : Type} {B b : Nat} {cs : Array Value} {t : TypeId} {fz : Nat × Nat} : OwnFrom B (fun (_ : β) W => W.heap[b]? = some (.cells cs t fz)) := fun s A C row hs hg hr =>
  (hg.block b (Array.getElem?_eq_some_iff.1 hs).1 (fun e => by
    obtain ⟨_, o, ho, hc⟩ := hr b e.symm
    rw [hs] at ho; cases ho; cases hc)).trans hs
theorem cell_heap {W : World} {b j : Nat} {l : List Value} {t : TypeId} {v : Value} (h : W.heap[b]? = some (.cells l.toArray t (0, 0))) (hj : l[j]? = some v) : W.cell? ⟨b, j, none⟩ = some v := by
  simp [World.cell?, h, hj]

/-- A walk through reads, told so that it is not unfolded by chance. -/
structure Stl (P : Program) (ops : Array Oper) (w : World) (Q : Act → Prop) (l : List Oper) (a : Act) : Prop where
  h : wpStill P ops w Q l a
theorem Stl.step {P : Program} {ops : Array Oper} {w : World} {Q : Act → Prop} {o : Oper} {rest : List Oper} {a : Act}
    (h : ∀ K : Act → Prop, (∀ a, Stl P ops w Q rest a → K a) → if Region.wanted o (yielded ops a.tmps) then o.still P a w K else K (a.put o.dst undef)) : Stl P ops w Q (o :: rest) a :=
  ⟨wpStill_step (fun K hK => h K (fun a ha => hK a ha.h))⟩
theorem Stl.nil {P : Program} {ops : Array Oper} {w : World} {Q : Act → Prop} {a : Act} (h : Q a) : Stl P ops w Q [] a := ⟨wpStill_nil h⟩

theorem ntmps234_ : Tryz.f234.ntmps = 24 := by kernel_rfl

set_option maxHeartbeats 800000 in
theorem confCheck_calls (x : Cf) (w : World) : Calls Tryz.prog 234 #[.agg x.vs.toArray] w fun e w' => e = .returned (.int .i64 (ckF x)) ∧ Below w.heap.size w w' := by
  refine (callsIn_wide (n := 6)).1 ?_
  refine callsIn_of_wp_marks Tryz.func234 rfl trivial ?_ rfl
  simp only [ntmps234_, List.size_toArray, List.length_cons, List.length_nil, Nat.reduceAdd, Nat.reduceSub, Array.replicate_succ, Array.replicate_zero, List.push_toArray, List.append_toArray, List.nil_append, List.cons_append]
  have hF : Fence.wide.fn 268 := trivial
  gi_wp2_with (gi_at_call 268; refine (callsIn_wide.2 (places_calls _ _)).mono ?_; rintro e w1 ⟨g, rfl, hg, hga, hb1⟩)
  obtain ⟨b, hb⟩ : ∃ b, w.heap.size = b := ⟨_, rfl⟩
  rw [hb] at hga
  have hs1 : b + 2 ≤ w1.heap.size := by have := hb1.size; simp at this; omega
  have hx1 : w1.heap[b]? = some (.cells x.vs.toArray 120 (0, 0)) := by
    rw [hb1.block b (by simp; omega)]; subst hb
    exact (Below.heap_alloc _ _ _ (by simp)).trans (World.alloc_heap_new w _)
  have hx2 : w1.heap[b + 1]? = some (.cells #[.int .i64 0] 26 (0, 0)) := by
    rw [hb1.block (b + 1) (by simp; omega)]; subst hb
    have := World.alloc_heap_new (w.alloc (.cells x.vs.toArray 120)) (.cells #[.int .i64 0] 26)
    rw [World.size_alloc] at this
    exact this
  have hbw : Below b w w1 := by
    subst hb
    exact (((Below.refl _ w).alloc (Nat.le_refl _) _).alloc (by simp) _).trans (hb1.mono (by simp; omega))
  simp only [hb]
  refine wpIn_rangeFunc_ownH rfl (by decide : 1 ≤ 6) (gf := 287) (lb := #[.pointer (some ⟨g, 0, none⟩)]) rfl trivial (enters_of Tryz.func287 (by kernel_rfl) rfl) (places_stops Fence.wide 5 trivial rfl (by decide) g b w1 hga) walksK_t walksK_b (Below.refl _ _) (fun _ => rfl)
    (fun pre W => (∀ i ∈ pre, okAt x i.val = true) ∧ W.heap[b]? = some (.cells x.vs.toArray 120 (0, 0)) ∧ W.heap[b + 1]? = some (.cells #[.int .i64 0] 26 (0, 0)) ∧ Below b w W)
    (fun c pre W => c = .ret ∧ (∃ i, i ∈ pre ∧ okAt x i.val = false) ∧ W.heap[b + 1]? = some (.cells #[.int .i64 1] 26 (0, 0)) ∧ Below b w W)
    ?hI ?hIx ⟨fun i hi => (by cases hi), hx1, hx2, hbw⟩
    (fun (i : Fin 9) a' W => ∃ Bx, W.heap[Bx]? = some (.cells #[.pointer (some ⟨b, i.val, none⟩), .int .i64 (loP i.val), .int .i64 (hiP i.val)] 372 (0, 0)) ∧
      a' = { tmps := #[.agg x.vs.toArray, .pointer (some ⟨b, 0, none⟩), .pointer (some ⟨b + 1, 0, none⟩), undef, .pointer (some ⟨Bx, 0, none⟩), .func (.func 287) #[] #[.pointer (some ⟨g, 0, none⟩)], .int .i64 (i.val : Int), plV b i.val, undef, undef, undef, undef, undef, undef, undef, undef, undef, undef, undef, undef, undef, undef, undef, undef], defers := [] })
    ?hAx ?assign ?body ?done ?stop
  case hI => exact OwnFrom.and (ownFrom_pure _ _) (OwnFrom.and ownFrom_cells (OwnFrom.and ownFrom_cells (ownFrom_below (by omega) (by omega))))
  case hIx => exact fun c => OwnFrom.and (ownFrom_pure _ (fun _ => c = .ret)) (OwnFrom.and (ownFrom_pure _ _) (OwnFrom.and ownFrom_cells (ownFrom_below (by omega) (by omega))))
  case hAx =>
    rintro i a' s A C row ⟨Bx, h2, h3⟩ hg hr
    exact ⟨Bx, ownFrom_cells (β := Unit) () A C row h2 hg hr, h3⟩
  case assign =>
    rintro l pre i W K ⟨hi1, hi2, hi3, hi4⟩ hK
    have hbs : b ≤ W.heap.size := by have := hi4.size; omega
    gi_wp2
    exact hK _ _ ((KeepsOthers.alloc _ _).from _) (KeepsWalks.alloc _ _) ⟨hi1, (Below.heap_alloc _ _ _ (Array.getElem?_eq_some_iff.1 hi2).1).trans hi2, (Below.heap_alloc _ _ _ (Array.getElem?_eq_some_iff.1 hi3).1).trans hi3, hi4.alloc hbs _⟩
      ⟨W.heap.size, World.alloc_heap_new _ _, rfl⟩
  case body =>
    rintro l pre i a' W hl hr ⟨hi1, hi2, hi3, hi4⟩ ⟨Bx, hbx, rfl⟩ hlen
    have hp0 : W.cell? ⟨Bx, 0, none⟩ = some (.pointer (some ⟨b, i.val, none⟩)) := cell_heap hbx rfl
    have hp1 : W.cell? ⟨Bx, 1, none⟩ = some (.int .i64 (loP i.val)) := cell_heap hbx rfl
    have hp2 : W.cell? ⟨Bx, 2, none⟩ = some (.int .i64 (hiP i.val)) := cell_heap hbx rfl
    have hv : W.cell? ⟨b, i.val, none⟩ = some (.int .i64 (x.l.getD i.val 0)) := cell_heap hi2 (by
      obtain ⟨i, hi⟩ := i
      rcases (by omega : i = 0 ∨ i = 1 ∨ i = 2 ∨ i = 3 ∨ i = 4 ∨ i = 5 ∨ i = 6 ∨ i = 7 ∨ i = 8) with rfl | rfl | rfl | rfl | rfl | rfl | rfl | rfl | rfl <;> rfl)
    refine wpIn_block (wpIn_seq (round_region_still Tryz.wide_ (by kernel_rfl) (by kernel_rfl) (fun ⟨a, w, h⟩ => h) ?_))
    obtain ⟨W', hW'⟩ : ∃ W', ({ heap := W.heap, tape := W.tape, drawn := W.drawn + 1, os := W.os, output := W.output } : World) = W' := ⟨_, rfl⟩
    have hh : W'.heap = W.heap := by rw [← hW']
    have hk1 : KeepsFrom w1.heap.size W W' := by rw [← hW']; exact (KeepsOthers.drew W).from _
    have hk2 : KeepsWalks W W' := by rw [← hW']; exact (KeepsOthers.drew W).walks
    have hb4 : Below b w W' := by rw [← hW']; exact ⟨hi4.os, hi4.tape, hi4.output, hi4.size, hi4.block⟩
    have q2 : W'.heap[b]? = some (.cells x.vs.toArray 120 (0, 0)) := by rw [hh]; exact hi2
    have q3 : W'.heap[b + 1]? = some (.cells #[.int .i64 0] 26 (0, 0)) := by rw [hh]; exact hi3
    have qx : W'.heap[Bx]? = some (.cells #[.pointer (some ⟨b, i.val, none⟩), .int .i64 (loP i.val), .int .i64 (hiP i.val)] 372 (0, 0)) := by rw [hh]; exact hbx
    rw [hW']
    clear hp0 hp1 hp2 hv hbx hi2 hi3
    have hp0 : W'.cell? ⟨Bx, 0, none⟩ = some (.pointer (some ⟨b, i.val, none⟩)) := cell_heap qx rfl
    have hp1 : W'.cell? ⟨Bx, 1, none⟩ = some (.int .i64 (loP i.val)) := cell_heap qx rfl
    have hp2 : W'.cell? ⟨Bx, 2, none⟩ = some (.int .i64 (hiP i.val)) := cell_heap qx rfl
    have hv : W'.cell? ⟨b, i.val, none⟩ = some (.int .i64 (x.l.getD i.val 0)) := cell_heap q2 (by
      obtain ⟨i, hi⟩ := i
      rcases (by omega : i = 0 ∨ i = 1 ∨ i = 2 ∨ i = 3 ∨ i = 4 ∨ i = 5 ∨ i = 6 ∨ i = 7 ∨ i = 8) with rfl | rfl | rfl | rfl | rfl | rfl | rfl | rfl | rfl <;> rfl)
    have hc := Boxed.cell q3
    have hf := Boxed.frozen q3
    obtain ⟨v, hve⟩ : ∃ v, x.l.getD i.val 0 = v := ⟨_, rfl⟩
    obtain ⟨lo, hlo⟩ : ∃ lo, loP i.val = lo := ⟨_, rfl⟩
    obtain ⟨hi, hhi⟩ : ∃ hi, hiP i.val = hi := ⟨_, rfl⟩
    have hok : okAt x i.val = (decide (lo ≤ v) && decide (v ≤ hi)) := by unfold okAt; rw [hve, hlo, hhi]
    simp only [hve, hlo, hhi] at *
    refine Stl.h ?_
    by_cases h1 : v < lo
    · iterate 16 (refine Stl.step (fun K hK => ?_); go_simp; refine hK _ ?_; clear hK K)
      refine Stl.nil ?_
      change Code.wpIn (Fence.wide.inRound l) (6 - 1 - 1) Tryz.prog _ _ _ _; refine wpIn_cond_true rfl ?_
      gi_wp2
      exact ⟨hk1.trans ((KeepsOthers.setCell _ _ _).from _), rfl, ⟨i, by simp, by rw [hok]; simp; omega⟩, Boxed.set _ q3, hb4.setCell (p := ⟨b + 1, 0, none⟩) (by simp) _⟩
    · by_cases h2 : hi < v
      · iterate 16 (refine Stl.step (fun K hK => ?_); go_simp; refine hK _ ?_; clear hK K)
        refine Stl.nil ?_
        change Code.wpIn (Fence.wide.inRound l) (6 - 1 - 1) Tryz.prog _ _ _ _; refine wpIn_cond_true rfl ?_
        gi_wp2
        exact ⟨hk1.trans ((KeepsOthers.setCell _ _ _).from _), rfl, ⟨i, by simp, by rw [hok]; simp; omega⟩, Boxed.set _ q3, hb4.setCell (p := ⟨b + 1, 0, none⟩) (by simp) _⟩
      · iterate 16 (refine Stl.step (fun K hK => ?_); go_simp; refine hK _ ?_; clear hK K)
        refine Stl.nil ?_
        change Code.wpIn (Fence.wide.inRound l) (6 - 1 - 1) Tryz.prog _ _ _ _; refine wpIn_cond_false rfl ?_
        gi_wp2
        exact ⟨hk1, hk2, fun j hj => (by
          rcases List.mem_append.1 hj with h | h
          · exact hi1 j h
          · rw [List.mem_singleton.1 h, hok]; simp; omega), q2, q3, hb4⟩
  case done =>
    rintro D xs W hD rfl ⟨hi1, hi2, hi3, hi4⟩ hK
    have hc := Boxed.cell hi3
    have hf := Boxed.frozen hi3
    gi_wp2
    have hK' := (KeepsOthers.setCell W ⟨b + 1, 0, none⟩ (.int .i64 0)).same D _ hK rfl
    have hck : ckF x = 0 := by unfold ckF; rw [if_pos (fun i => hi1 i (List.mem_finRange i))]
    refine ⟨by simp, .inl ⟨_, _, rfl, run_takeDeferred hK', ?_⟩⟩
    have hc5 := cell_kept (World.cell?_setCell_same' W ⟨b + 1, 0, none⟩ (.int .i64 0) (by rw [hc]; rfl)) (grownBy_putObj' _ D (.deferred none)) (fun r e => by cases e; exact ⟨_, hK', rfl⟩)
    refine ⟨.int .i64 0, ?_, by rw [hck], ?_⟩
    · simp [results, Tryz.f234, go_sem, hc5]
    · rw [hb]
      exact (hi4.setCell (p := ⟨b + 1, 0, none⟩) (by simp) _).trans (belowK_b (w := w) (Nat.le_of_eq hb.symm) _ D _ _ (by omega) hK' rfl rfl)
  case stop =>
    rintro D c pre W hD hSp ⟨rfl, ⟨i, him, hio⟩, hi3, hi4⟩ hK
    have hc := Boxed.cell hi3
    have hck : ckF x = 1 := by unfold ckF; rw [if_neg (fun h => by rw [h i] at hio; cases hio)]
    gi_wp2
    refine ⟨by simp, .inl ⟨_, _, rfl, run_takeDeferred hK, ?_⟩⟩
    have hc5 := cell_kept hc (grownBy_putObj' _ D (.deferred none)) (fun r e => by cases e; exact ⟨_, hK, rfl⟩)
    refine ⟨.int .i64 1, ?_, by rw [hck], ?_⟩
    · simp [results, Tryz.f234, go_sem, hc5]
    · rw [hb]
      exact hi4.trans (belowK_b (w := w) (Nat.le_of_eq hb.symm) _ D _ _ (by omega) hK rfl rfl)
end Go.Proofs

/- Contracts of conf: Check, as the walk wants it; Of. -/
set_option linter.unusedSimpArgs false
set_option linter.unusedVariables false
set_option maxRecDepth 100000
namespace Go.Proofs
open Go.RowKit Go.Shelf Go.Sy

attribute [local go_sem] Oper.semAt_some

/-- A contract that was proved by hand, over arguments that are told by memory. -/
theorem FnP.ofHand {P : Program} {f : FuncId} {avs : List AV} {x : AV} (hc : Callable P f)
    (h : ∀ G w cargs, ImOK G w → RepIT G avs cargs → Calls P f cargs.toArray w fun e w' => (∃ v, e = .returned v ∧ ∀ H, RepI H x v) ∧ Below w.heap.size w w') : FnP P f avs (· = x) := by
  refine ⟨hc, fun G w cargs him hr => ?_⟩
  refine (h G w cargs him hr).mono ?_
  rintro e w' ⟨⟨v, rfl, hv⟩, hb⟩
  exact ⟨x, v, G, rfl, rfl, hv G, IM.le_refl _, NewIn.refl _ _, ⟨fun b o u hu => by
    have h1 := him.1 b o u hu
    have h2 := Go.block_lt_of_cell h1
    simp only [World.cell?] at h1 ⊢
    rw [hb.block b h2]
    exact h1, fun b x hx => (him.2 b x hx).keep0 (hb.block b (him.2 b x hx).lt)⟩, .of hb⟩

theorem confCheck_c (x : Cf) : FnP Tryz.prog 234 [.agg (Cf.c x)] (· = I64 (ckF x)) := by
  refine FnP.ofHand ⟨Tryz.f234, Tryz.func234, by kernel_rfl, by kernel_rfl⟩ (fun G w cargs him hr => ?_)
  simp only [RepIT] at hr
  obtain ⟨z, zs, rfl, h1, rfl⟩ := hr
  simp only [RepI] at h1
  obtain ⟨ys, rfl, h2⟩ := h1
  have h3 : ys.toList = x.vs := RepIL_v (l := x.vs) h2
  have h4 : ys = x.vs.toArray := by rw [← h3]
  subst h4
  refine (confCheck_calls x w).mono ?_
  rintro e w' ⟨rfl, hb⟩
  exact ⟨⟨_, rfl, fun H => by simp only [RepI]⟩, hb⟩

def Cf.ofV (l : Nat → Int) : Cf := ⟨l 0, l 1, l 2, l 3, l 4, l 5, l 6, l 7, l 8⟩
/-- The numbers that have come, the others still nought. -/
def prt (l : Nat → Int) (pre : List (Fin 9)) : List Value := (List.finRange 9).map fun j => .int .i64 (if j ∈ pre then l j.val else 0)
theorem prt_nil (l : Nat → Int) : prt l [] = [.int .i64 0, .int .i64 0, .int .i64 0, .int .i64 0, .int .i64 0, .int .i64 0, .int .i64 0, .int .i64 0, .int .i64 0] := by simp [prt]; rfl
theorem prt_all (l : Nat → Int) : prt l (List.finRange 9) = (Cf.ofV l).vs := by
  simp only [prt, List.mem_finRange, if_true]; rfl
theorem prt_len (l : Nat → Int) (pre : List (Fin 9)) : (prt l pre).length = 9 := by simp [prt]
theorem prt_get (l : Nat → Int) (pre : List (Fin 9)) (i : Fin 9) : (prt l pre)[i.val]? = some (.int .i64 (if i ∈ pre then l i.val else 0)) := by
  simp [prt]
theorem prt_set (l : Nat → Int) (pre : List (Fin 9)) (i : Fin 9) : (prt l pre).set i.val (.int .i64 (l i.val)) = prt l (pre ++ [i]) := by
  apply List.ext_getElem?
  intro j
  rw [List.getElem?_set]
  by_cases hj : j < 9
  · have h1 := prt_get l (pre ++ [i]) ⟨j, hj⟩
    have h2 := prt_get l pre ⟨j, hj⟩
    simp only at h1 h2
    rw [h1]
    by_cases e : i.val = j
    · subst e
      rw [if_pos rfl, if_pos (by rw [prt_len]; exact hj)]
      simp
    · rw [if_neg e, h2]
      have : (⟨j, hj⟩ : Fin 9) ≠ i := fun hh => e (by rw [← hh])
      simp [this]
  · rw [if_neg (by omega), List.getElem?_eq_none (by rw [prt_len]; omega), List.getElem?_eq_none (by rw [prt_len]; omega)]

def confOfV (l : Nat → Int) : Cf × Int := if ckF (Cf.ofV l) = 0 then (Cf.ofV l, 0) else (default, 1)
theorem ntmps233_ : Tryz.f233.ntmps = 26 := by kernel_rfl

theorem set9 {w : World} {b : Nat} {a0 a1 a2 a3 a4 a5 a6 a7 a8 v0 v1 v2 v3 v4 v5 v6 v7 v8 : Value} {t : TypeId} (h : w.heap[b]? = some (.cells #[a0, a1, a2, a3, a4, a5, a6, a7, a8] t (0, 0))) :
    (((((((((w.setCell ⟨b, 0, none⟩ v0).setCell ⟨b, 1, none⟩ v1).setCell ⟨b, 2, none⟩ v2).setCell ⟨b, 3, none⟩ v3).setCell ⟨b, 4, none⟩ v4).setCell ⟨b, 5, none⟩ v5).setCell ⟨b, 6, none⟩ v6).setCell ⟨b, 7, none⟩ v7).setCell ⟨b, 8, none⟩ v8).heap[b]? = some (.cells #[v0, v1, v2, v3, v4, v5, v6, v7, v8] t (0, 0)) := by
  have := setCell_heap (o := 8) (v := v8) (setCell_heap (o := 7) (v := v7) (setCell_heap (o := 6) (v := v6) (setCell_heap (o := 5) (v := v5) (setCell_heap (o := 4) (v := v4) (setCell_heap (o := 3) (v := v3) (setCell_heap (o := 2) (v := v2) (setCell_heap (o := 1) (v := v1) (setCell_heap (o := 0) (v := v0) h))))))))
  simpa using this
theorem set9_other {w : World} {b D : Nat} {v0 v1 v2 v3 v4 v5 v6 v7 v8 : Value} (h : D ≠ b) :
    (((((((((w.setCell ⟨b, 0, none⟩ v0).setCell ⟨b, 1, none⟩ v1).setCell ⟨b, 2, none⟩ v2).setCell ⟨b, 3, none⟩ v3).setCell ⟨b, 4, none⟩ v4).setCell ⟨b, 5, none⟩ v5).setCell ⟨b, 6, none⟩ v6).setCell ⟨b, 7, none⟩ v7).setCell ⟨b, 8, none⟩ v8).heap[D]? = w.heap[D]? := by
  rw [setCell_other h, setCell_other h, setCell_other h, setCell_other h, setCell_other h, setCell_other h, setCell_other h, setCell_other h, setCell_other h]
theorem set9_below {w w0 : World} {b n : Nat} {v0 v1 v2 v3 v4 v5 v6 v7 v8 : Value} (h : Below n w0 w) (hb : n ≤ b) :
    Below n w0 (((((((((w.setCell ⟨b, 0, none⟩ v0).setCell ⟨b, 1, none⟩ v1).setCell ⟨b, 2, none⟩ v2).setCell ⟨b, 3, none⟩ v3).setCell ⟨b, 4, none⟩ v4).setCell ⟨b, 5, none⟩ v5).setCell ⟨b, 6, none⟩ v6).setCell ⟨b, 7, none⟩ v7).setCell ⟨b, 8, none⟩ v8) :=
  ((((((((h.setCell (p := ⟨b, 0, none⟩) hb _).setCell (p := ⟨b, 1, none⟩) hb _).setCell (p := ⟨b, 2, none⟩) hb _).setCell (p := ⟨b, 3, none⟩) hb _).setCell (p := ⟨b, 4, none⟩) hb _).setCell (p := ⟨b, 5, none⟩) hb _).setCell (p := ⟨b, 6, none⟩) hb _).setCell (p := ⟨b, 7, none⟩) hb _).setCell (p := ⟨b, 8, none⟩) hb _
/-- What conf.Of gives back. -/
theorem res233 {W : World} {b : Nat} {x : Cf} {tmps : Array Value} {e : Int} (h9 : W.heap[b + 1]? = some (.cells x.vs.toArray 120 (0, 0))) (h2 : tmps[2]? = some (.pointer (some ⟨b + 1, 0, none⟩))) (h3 : tmps[3]? = some (.int .i64 e)) :
    (results Tryz.f233 tmps).run Tryz.prog W = .ok (.tuple #[.agg x.vs.toArray, .int .i64 e]) W := by
  have c0 := cell_heap (j := 0) h9 rfl
  have c1 := cell_heap (j := 1) h9 rfl
  have c2 := cell_heap (j := 2) h9 rfl
  have c3 := cell_heap (j := 3) h9 rfl
  have c4 := cell_heap (j := 4) h9 rfl
  have c5 := cell_heap (j := 5) h9 rfl
  have c6 := cell_heap (j := 6) h9 rfl
  have c7 := cell_heap (j := 7) h9 rfl
  have c8 := cell_heap (j := 8) h9 rfl
  have hl := load_whole (t := 120) (i := _) rfl h9 (by intro y hy; simp only [Cf.vs, List.mem_cons, List.not_mem_nil, or_false] at hy; rcases hy with rfl | rfl | rfl | rfl | rfl | rfl | rfl | rfl | rfl <;> rfl) rfl
  simp [results, Tryz.f233, go_sem, h2, h3, c0, c1, c2, c3, c4, c5, c6, c7, c8]
  rfl

set_option maxHeartbeats 4000000 in
theorem confOf_calls (l : Nat → Int) (sb so cap : Nat) (w : World) (hs : ∀ j : Fin 9, w.cell? ⟨sb, so + j.val, none⟩ = some (.int .i64 (l j.val))) :
    Calls Tryz.prog 233 #[.slice (some ⟨sb, so, none⟩) 9 cap] w fun e w' => e = .returned (.tuple #[.agg (confOfV l).1.vs.toArray, .int .i64 (confOfV l).2]) ∧ Below w.heap.size w w' := by
  refine (callsIn_wide (n := 6)).1 ?_
  refine callsIn_of_wp_marks Tryz.func233 rfl trivial ?_ rfl
  simp only [ntmps233_, List.size_toArray, List.length_cons, List.length_nil, Nat.reduceAdd, Nat.reduceSub, Array.replicate_succ, Array.replicate_zero, List.push_toArray, List.append_toArray, List.nil_append, List.cons_append]
  have hF : Fence.wide.fn 268 := trivial
  gi_wp2_with (gi_at_call 268; refine (callsIn_wide.2 (places_calls _ _)).mono ?_; rintro e w1 ⟨g, rfl, hg, hga, hb1⟩)
  obtain ⟨b, hb⟩ : ∃ b, w.heap.size = b := ⟨_, rfl⟩
  rw [hb] at hga
  have hs1 : b + 3 ≤ w1.heap.size := by have := hb1.size; simp at this; omega
  have e0 : w1.heap[b]? = some (.cells #[.slice (some ⟨sb, so, none⟩) 9 cap] 44 (0, 0)) := by
    rw [hb1.block b (by simp; omega)]; subst hb
    exact ((Below.heap_alloc _ _ _ (by simp; omega)).trans (Below.heap_alloc _ _ _ (by simp))).trans (World.alloc_heap_new w _)
  have e1 : w1.heap[b + 1]? = some (.cells (prt l []).toArray 120 (0, 0)) := by
    rw [hb1.block (b + 1) (by simp; omega)]; subst hb
    refine (Below.heap_alloc _ _ _ (by simp)).trans ?_
    have := World.alloc_heap_new (w.alloc (.cells #[.slice (some ⟨sb, so, none⟩) 9 cap] 44)) (.cells #[.int .i64 0, .int .i64 0, .int .i64 0, .int .i64 0, .int .i64 0, .int .i64 0, .int .i64 0, .int .i64 0, .int .i64 0] 120)
    rw [World.size_alloc] at this
    rw [prt_nil]
    exact this
  have e2 : w1.heap[b + 2]? = some (.cells (prt l []).toArray 120 (0, 0)) := by
    rw [hb1.block (b + 2) (by simp; omega)]; subst hb
    have := World.alloc_heap_new ((w.alloc (.cells #[.slice (some ⟨sb, so, none⟩) 9 cap] 44)).alloc (.cells #[.int .i64 0, .int .i64 0, .int .i64 0, .int .i64 0, .int .i64 0, .int .i64 0, .int .i64 0, .int .i64 0, .int .i64 0] 120)) (.cells #[.int .i64 0, .int .i64 0, .int .i64 0, .int .i64 0, .int .i64 0, .int .i64 0, .int .i64 0, .int .i64 0, .int .i64 0] 120)
    rw [World.size_alloc, World.size_alloc] at this
    rw [prt_nil]
    exact this
  have hbw : Below b w w1 := by
    subst hb
    exact ((((Below.refl _ w).alloc (Nat.le_refl _) _).alloc (by simp) _).alloc (by simp; omega) _).trans (hb1.mono (by simp; omega))
  have hsb : sb < b := by rw [← hb]; exact Go.block_lt_of_cell (hs ⟨0, by decide⟩)
  simp only [hb]
  refine wpIn_rangeFunc_ownH rfl (by decide : 1 ≤ 6) (gf := 287) (lb := #[.pointer (some ⟨g, 0, none⟩)]) rfl trivial (enters_of Tryz.func287 (by kernel_rfl) rfl) (places_stops Fence.wide 5 trivial rfl (by decide) g (b + 1 + 1) w1 hga) walksK_t walksK_b (Below.refl _ _) (fun _ => rfl)
    (fun pre W => W.heap[b]? = some (.cells #[.slice (some ⟨sb, so, none⟩) 9 cap] 44 (0, 0)) ∧ W.heap[b + 1]? = some (.cells (prt l []).toArray 120 (0, 0)) ∧ W.heap[b + 2]? = some (.cells (prt l pre).toArray 120 (0, 0)) ∧ Below b w W)
    (fun _ _ _ => False)
    ?hI ?hIx ⟨e0, e1, e2, hbw⟩
    (fun (i : Fin 9) a' W => ∃ Bx, W.heap[Bx]? = some (.cells #[.pointer (some ⟨b + 1 + 1, i.val, none⟩), .int .i64 (loP i.val), .int .i64 (hiP i.val)] 372 (0, 0)) ∧
      a' = { tmps := #[.slice (some ⟨sb, so, none⟩) 9 cap, .pointer (some ⟨b, 0, none⟩), .pointer (some ⟨b + 1, 0, none⟩), .int .i64 0, .pointer (some ⟨b + 1 + 1, 0, none⟩), .int .i64 (i.val : Int), .pointer (some ⟨Bx, 0, none⟩), .slice (some ⟨sb, so, none⟩) 9 cap, .int .i64 9, .bool false, undef, .func (.func 287) #[] #[.pointer (some ⟨g, 0, none⟩)], .int .i64 (i.val : Int), plV (b + 1 + 1) i.val, undef, undef, undef, undef, undef, undef, undef, undef, undef, undef, undef, undef], defers := [] })
    ?hAx ?assign ?body ?done ?stop
  case hI => exact OwnFrom.and ownFrom_cells (OwnFrom.and ownFrom_cells (OwnFrom.and (fun s A C row h hg hr => ownFrom_cells (β := Unit) () A C row h hg hr) (ownFrom_below (by omega) (by omega))))
  case hIx => exact fun c s A C row h hg hr => h
  case hAx =>
    rintro i a' s A C row ⟨Bx, h2, h3⟩ hg hr
    exact ⟨Bx, ownFrom_cells (β := Unit) () A C row h2 hg hr, h3⟩
  case assign =>
    rintro l' pre i W K ⟨i0, i1, i2, i4⟩ hK
    have hbs : b ≤ W.heap.size := by have := i4.size; omega
    gi_wp2
    exact hK _ _ ((KeepsOthers.alloc _ _).from _) (KeepsWalks.alloc _ _) ⟨(Below.heap_alloc _ _ _ (Array.getElem?_eq_some_iff.1 i0).1).trans i0, (Below.heap_alloc _ _ _ (Array.getElem?_eq_some_iff.1 i1).1).trans i1, (Below.heap_alloc _ _ _ (Array.getElem?_eq_some_iff.1 i2).1).trans i2, i4.alloc hbs _⟩
      ⟨W.heap.size, World.alloc_heap_new _ _, rfl⟩
  case body =>
    rintro l' pre i a' W hl' hr ⟨i0, i1, i2, i4⟩ ⟨Bx, hbx, rfl⟩ hlen
    refine wpIn_block (round_region_still_tail 6 Tryz.wide_ (by kernel_rfl) (by kernel_rfl) (fun ⟨a, w, h⟩ => h) ?_)
    obtain ⟨W', hW'⟩ : ∃ W', ({ heap := W.heap, tape := W.tape, drawn := W.drawn + 1, os := W.os, output := W.output } : World) = W' := ⟨_, rfl⟩
    have hh : W'.heap = W.heap := by rw [← hW']
    have hk1 : KeepsFrom w1.heap.size W W' := by rw [← hW']; exact (KeepsOthers.drew W).from _
    have hk2 : KeepsWalks W W' := by rw [← hW']; exact (KeepsOthers.drew W).walks
    have hb4 : Below b w W' := by rw [← hW']; exact ⟨i4.os, i4.tape, i4.output, i4.size, i4.block⟩
    have q0 : W'.heap[b]? = some (.cells #[.slice (some ⟨sb, so, none⟩) 9 cap] 44 (0, 0)) := by rw [hh]; exact i0
    have q1 : W'.heap[b + 1]? = some (.cells (prt l []).toArray 120 (0, 0)) := by rw [hh]; exact i1
    have q2 : W'.heap[b + 2]? = some (.cells (prt l pre).toArray 120 (0, 0)) := by rw [hh]; exact i2
    have qx : W'.heap[Bx]? = some (.cells #[.pointer (some ⟨b + 1 + 1, i.val, none⟩), .int .i64 (loP i.val), .int .i64 (hiP i.val)] 372 (0, 0)) := by rw [hh]; exact hbx
    have hv : W'.cell? ⟨sb, so + i.val, none⟩ = some (.int .i64 (l i.val)) := (hb4.cell (p := ⟨sb, so + i.val, none⟩) hsb).trans (hs i)
    rw [hW']
    simp only [List.take_succ_cons, List.take_zero, List.drop_succ_cons, List.drop_zero]
    refine Stl.h ?_
    clear hbx i0 i1 i2 hr hl' hg hb1 e0 e1 e2 hga hs
    have hp0 : W'.cell? ⟨Bx, 0, none⟩ = some (.pointer (some ⟨b + 1 + 1, i.val, none⟩)) := cell_heap qx rfl
    have hc0 := Boxed.cell q0
    have hc2 : W'.cell? ⟨b + 1 + 1, i.val, none⟩ = some (.int .i64 (if i ∈ pre then l i.val else 0)) := cell_heap q2 (prt_get l pre i)
    have hf2 : W'.frozen? ⟨b + 1 + 1, i.val, none⟩ = false := by simp [World.frozen?, show W'.heap[b + 1 + 1]? = _ from q2]
    have hi9 : (i.val : Int) < 9 := by omega
    have hi0 : (0 : Int) ≤ (i.val : Int) := by omega
    iterate 6 (refine Stl.step (fun K hK => ?_); go_simp; refine hK _ ?_; clear hK K)
    refine Stl.nil ?_
    go_wp2
    refine ⟨hk1.trans ((KeepsOthers.setCell _ _ _).from _), hk2.trans (KeepsWalks.setCell _ _ _), (setCell_other (by omega)).trans q0, (setCell_other (by omega)).trans q1, ?_, hb4.setCell (p := ⟨b + 1 + 1, i.val, none⟩) (by simp; omega) _⟩
    have h5 := setCell_heap (o := i.val) (v := .int .i64 (l i.val)) q2
    rw [show (prt l (pre ++ [i])).toArray = (prt l pre).toArray.setIfInBounds i.val (.int .i64 (l i.val)) by rw [← prt_set]; simp]
    exact h5
  case done =>
    rintro D xs W hD rfl ⟨i0, i1, i2, i4⟩ hK
    rw [prt_all] at i2
    have hF2 : Fence.wide.fn 234 := trivial
    have c0 : W.cell? ⟨b + 1 + 1, 0, none⟩ = some (.int .i64 (l 0)) := cell_heap i2 rfl
    have c1 : W.cell? ⟨b + 1 + 1, 1, none⟩ = some (.int .i64 (l 1)) := cell_heap i2 rfl
    have c2 : W.cell? ⟨b + 1 + 1, 2, none⟩ = some (.int .i64 (l 2)) := cell_heap i2 rfl
    have c3 : W.cell? ⟨b + 1 + 1, 3, none⟩ = some (.int .i64 (l 3)) := cell_heap i2 rfl
    have c4 : W.cell? ⟨b + 1 + 1, 4, none⟩ = some (.int .i64 (l 4)) := cell_heap i2 rfl
    have c5 : W.cell? ⟨b + 1 + 1, 5, none⟩ = some (.int .i64 (l 5)) := cell_heap i2 rfl
    have c6 : W.cell? ⟨b + 1 + 1, 6, none⟩ = some (.int .i64 (l 6)) := cell_heap i2 rfl
    have c7 : W.cell? ⟨b + 1 + 1, 7, none⟩ = some (.int .i64 (l 7)) := cell_heap i2 rfl
    have c8 : W.cell? ⟨b + 1 + 1, 8, none⟩ = some (.int .i64 (l 8)) := cell_heap i2 rfl
    gi_wp2
    refine (callsIn_wide.2 (confCheck_calls (Cf.ofV l) W)).mono ?_
    rintro e w2 ⟨rfl, hb2⟩
    obtain ⟨ce, hce⟩ : ∃ ce, ckF (Cf.ofV l) = ce := ⟨_, rfl⟩
    simp only [hce]
    have r1 : w2.heap[b + 1]? = some (.cells (prt l []).toArray 120 (0, 0)) := (hb2.block _ (Array.getElem?_eq_some_iff.1 i1).1).trans i1
    have r2 : w2.heap[b + 1 + 1]? = some (.cells (Cf.ofV l).vs.toArray 120 (0, 0)) := (hb2.block _ (Array.getElem?_eq_some_iff.1 i2).1).trans i2
    have rK : w2.heap[D]? = some (.deferred (some [])) := (hb2.block _ (Array.getElem?_eq_some_iff.1 hK).1).trans hK
    have rB : Below b w w2 := i4.trans (hb2.mono (by have := i4.size; omega))
    rw [prt_nil] at r1
    have d0 : w2.cell? ⟨b + 1 + 1, 0, none⟩ = some (.int .i64 (l 0)) := cell_heap r2 rfl
    have d1 : w2.cell? ⟨b + 1 + 1, 1, none⟩ = some (.int .i64 (l 1)) := cell_heap r2 rfl
    have d2 : w2.cell? ⟨b + 1 + 1, 2, none⟩ = some (.int .i64 (l 2)) := cell_heap r2 rfl
    have d3 : w2.cell? ⟨b + 1 + 1, 3, none⟩ = some (.int .i64 (l 3)) := cell_heap r2 rfl
    have d4 : w2.cell? ⟨b + 1 + 1, 4, none⟩ = some (.int .i64 (l 4)) := cell_heap r2 rfl
    have d5 : w2.cell? ⟨b + 1 + 1, 5, none⟩ = some (.int .i64 (l 5)) := cell_heap r2 rfl
    have d6 : w2.cell? ⟨b + 1 + 1, 6, none⟩ = some (.int .i64 (l 6)) := cell_heap r2 rfl
    have d7 : w2.cell? ⟨b + 1 + 1, 7, none⟩ = some (.int .i64 (l 7)) := cell_heap r2 rfl
    have d8 : w2.cell? ⟨b + 1 + 1, 8, none⟩ = some (.int .i64 (l 8)) := cell_heap r2 rfl
    have z0 : w2.cell? ⟨b + 1, 0, none⟩ = some (.int .i64 0) := cell_heap r1 rfl
    have z1 : w2.cell? ⟨b + 1, 1, none⟩ = some (.int .i64 0) := cell_heap r1 rfl
    have z2 : w2.cell? ⟨b + 1, 2, none⟩ = some (.int .i64 0) := cell_heap r1 rfl
    have z3 : w2.cell? ⟨b + 1, 3, none⟩ = some (.int .i64 0) := cell_heap r1 rfl
    have z4 : w2.cell? ⟨b + 1, 4, none⟩ = some (.int .i64 0) := cell_heap r1 rfl
    have z5 : w2.cell? ⟨b + 1, 5, none⟩ = some (.int .i64 0) := cell_heap r1 rfl
    have z6 : w2.cell? ⟨b + 1, 6, none⟩ = some (.int .i64 0) := cell_heap r1 rfl
    have z7 : w2.cell? ⟨b + 1, 7, none⟩ = some (.int .i64 0) := cell_heap r1 rfl
    have z8 : w2.cell? ⟨b + 1, 8, none⟩ = some (.int .i64 0) := cell_heap r1 rfl
    have f0 : w2.frozen? ⟨b + 1, 0, none⟩ = false := by simp [World.frozen?, r1]
    have f1 : w2.frozen? ⟨b + 1, 1, none⟩ = false := by simp [World.frozen?, r1]
    have f2 : w2.frozen? ⟨b + 1, 2, none⟩ = false := by simp [World.frozen?, r1]
    have f3 : w2.frozen? ⟨b + 1, 3, none⟩ = false := by simp [World.frozen?, r1]
    have f4 : w2.frozen? ⟨b + 1, 4, none⟩ = false := by simp [World.frozen?, r1]
    have f5 : w2.frozen? ⟨b + 1, 5, none⟩ = false := by simp [World.frozen?, r1]
    have f6 : w2.frozen? ⟨b + 1, 6, none⟩ = false := by simp [World.frozen?, r1]
    have f7 : w2.frozen? ⟨b + 1, 7, none⟩ = false := by simp [World.frozen?, r1]
    have f8 : w2.frozen? ⟨b + 1, 8, none⟩ = false := by simp [World.frozen?, r1]
    by_cases h0 : ce = 0
    · subst h0
      gi_wp2
      have hD9 := (set9_other (v0 := .int .i64 (l 0)) (v1 := .int .i64 (l 1)) (v2 := .int .i64 (l 2)) (v3 := .int .i64 (l 3)) (v4 := .int .i64 (l 4)) (v5 := .int .i64 (l 5)) (v6 := .int .i64 (l 6)) (v7 := .int .i64 (l 7)) (v8 := .int .i64 (l 8)) (show D ≠ b + 1 by omega)).trans rK
      have hN9 := set9 (v0 := .int .i64 (l 0)) (v1 := .int .i64 (l 1)) (v2 := .int .i64 (l 2)) (v3 := .int .i64 (l 3)) (v4 := .int .i64 (l 4)) (v5 := .int .i64 (l 5)) (v6 := .int .i64 (l 6)) (v7 := .int .i64 (l 7)) (v8 := .int .i64 (l 8)) r1
      have hB9 := set9_below (v0 := .int .i64 (l 0)) (v1 := .int .i64 (l 1)) (v2 := .int .i64 (l 2)) (v3 := .int .i64 (l 3)) (v4 := .int .i64 (l 4)) (v5 := .int .i64 (l 5)) (v6 := .int .i64 (l 6)) (v7 := .int .i64 (l 7)) (v8 := .int .i64 (l 8)) rB (show b ≤ b + 1 by omega)
      refine ⟨by simp, .inl ⟨_, _, rfl, run_takeDeferred hD9, ?_⟩⟩
      refine ⟨_, res233 (x := Cf.ofV l) (e := 0) ((World.putObj_heap_other (show b + 1 ≠ D by omega)).trans hN9) rfl rfl, by unfold confOfV; rw [hce, if_pos rfl], ?_⟩
      rw [hb]
      exact hB9.trans (belowK_b (w := w) (Nat.le_of_eq hb.symm) _ D _ _ (by omega) hD9 rfl rfl)
    · gi_wp2
      have hD9 := (set9_other (v0 := .int .i64 0) (v1 := .int .i64 0) (v2 := .int .i64 0) (v3 := .int .i64 0) (v4 := .int .i64 0) (v5 := .int .i64 0) (v6 := .int .i64 0) (v7 := .int .i64 0) (v8 := .int .i64 0) (show D ≠ b + 1 by omega)).trans rK
      have hN9 := set9 (v0 := .int .i64 0) (v1 := .int .i64 0) (v2 := .int .i64 0) (v3 := .int .i64 0) (v4 := .int .i64 0) (v5 := .int .i64 0) (v6 := .int .i64 0) (v7 := .int .i64 0) (v8 := .int .i64 0) r1
      have hB9 := set9_below (v0 := .int .i64 0) (v1 := .int .i64 0) (v2 := .int .i64 0) (v3 := .int .i64 0) (v4 := .int .i64 0) (v5 := .int .i64 0) (v6 := .int .i64 0) (v7 := .int .i64 0) (v8 := .int .i64 0) rB (show b ≤ b + 1 by omega)
      refine ⟨by simp, .inl ⟨_, _, rfl, run_takeDeferred hD9, ?_⟩⟩
      refine ⟨_, res233 (x := default) (e := 1) ((World.putObj_heap_other (show b + 1 ≠ D by omega)).trans hN9) rfl rfl, by unfold confOfV; rw [hce, if_neg h0], ?_⟩
      rw [hb]
      exact hB9.trans (belowK_b (w := w) (Nat.le_of_eq hb.symm) _ D _ _ (by omega) hD9 rfl rfl)
  case stop =>
    rintro D c pre W hD hSp h hK
    exact h.elim

def confOfF (l : List Int) : Cf × Int := if l.length = 9 then confOfV (fun j => l.getD j 0) else (default, 1)
theorem confOf_c (l : List Int) (hl : l.length ≤ 1000) : FnP Tryz.prog 233 [SL 1 INTc l] (· = .tup [.agg (Cf.c (confOfF l).1), I64 (confOfF l).2]) := by
  by_cases h9 : l.length = 9
  · refine FnP.ofHand ⟨Tryz.f233, Tryz.func233, by kernel_rfl, by kernel_rfl⟩ (fun G w cargs him hr => ?_)
    simp only [RepIT] at hr
    obtain ⟨z, zs, rfl, h1, rfl⟩ := hr
    simp only [RepI] at h1
    obtain ⟨a, c, rfl, hc, h2⟩ := h1
    rcases h2 with h2 | ⟨sb, so, rfl, h2⟩
    · omega
    rw [h9]
    refine (confOf_calls (fun j => l.getD j 0) sb so c w (fun j => ?_)).mono ?_
    · have h3 := h2 j.val (by omega)
      simp only [CellsAt, and_true] at h3
      obtain ⟨z, h4, h5, _⟩ := h3
      simp only [RepI] at h5
      subst h5
      have h6 := him.1 _ _ _ h4
      simp only [Nat.mul_one] at h6
      rw [h6]
      rw [List.getD_eq_getElem?_getD, List.getD_eq_getElem?_getD, List.getElem?_eq_getElem (show j.val < l.length by omega)]
      rfl
    · rintro e w' ⟨rfl, hb⟩
      refine ⟨⟨_, rfl, fun H => ?_⟩, hb⟩
      rw [show confOfF l = confOfV (fun j => l.getD j 0) by unfold confOfF; rw [if_pos h9]]
      simp only [RepI, RepIT]
      refine ⟨_, rfl, _, _, rfl, ⟨_, rfl, ?_⟩, _, _, rfl, rfl, rfl⟩
      simp only [Cf.c, Cf.vs, RepIL, RepI]
      exact ⟨_, _, rfl, rfl, rfl, _, _, rfl, rfl, rfl, _, _, rfl, rfl, rfl, _, _, rfl, rfl, rfl, _, _, rfl, rfl, rfl, _, _, rfl, rfl, rfl, _, _, rfl, rfl, rfl, _, _, rfl, rfl, rfl, _, _, rfl, rfl, rfl, rfl⟩
  · rw [show confOfF l = (default, 1) by unfold confOfF; rw [if_neg h9]]
    refine FnP.intro Tryz.tabOK Tryz.wide_ Tryz.func233 rfl (by decide) rfl (fun X => ?_)
    repeat (first | refine sc rfl ?_ | refine so rfl ?_ | refine sb rfl ?_)
    refine C_true rfl (by simp; omega) ?_
    repeat (first | refine sc rfl ?_ | refine so rfl ?_ | refine sb rfl ?_)
    exact ⟨_, rfl, rfl, rfl⟩
end Go.Proofs
