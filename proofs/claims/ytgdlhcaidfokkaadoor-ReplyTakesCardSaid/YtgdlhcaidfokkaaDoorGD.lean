/- Contracts of the document's: Take of numbers, of frames. -/
import Derived.Test.YtgdlhcaidfokkaaDoorGC
import Derived.Test.YtgdlhcaidfokkaaDoorSy25
set_option linter.unusedSimpArgs false
set_option linter.unusedVariables false
set_option maxRecDepth 100000
namespace Go.Proofs
open Go.Sy Go.Lib

def pw (i : Nat) : Nat := if i ≤ 9 then 128 ^ i else 0
theorem pw_step {i : Nat} (h : i < 10) : IntKind.u64.wrap ((pw i : Nat) * 128 : Int) = ((pw (i + 1) : Nat) : Int) := by
  unfold pw
  rw [if_pos (by omega)]
  by_cases h9 : i = 9
  · subst h9; decide
  · rw [if_pos (by omega), Nat.pow_succ]
    have : 128 ^ i ≤ 128 ^ 8 := Nat.pow_le_pow_right (by omega) (by omega)
    rw [show ((128 ^ i : Nat) : Int) * 128 = ((128 ^ i * 128 : Nat) : Int) by rw [Int.natCast_mul]; rfl]
    exact u64wrap (by omega) (by omega)

theorem refTake01_p (l : List UInt8) (hl : l.length ≤ 9223372036854775000) : FnP Tryd.prog 50 [.s l] (· = tkA (tk l)) := by
  refine FnP.intro Tryd.tabOK Tryd.wide_ Tryd.func50 rfl (by decide) rfl (fun X => ?_)
  have fin : ∀ (t : TK) (r : AV), tk l = t → r = tkA t → r = tkA (tk l) := fun t r h hr => by rw [hr, h]
  repeat (first | refine sc rfl ?_ | refine so rfl ?_ | refine sb rfl ?_)
  refine C_loop (fun q : Nat × Nat => ⟨[(0, .s l), (7, I64 (q.1 : Nat)), (5, U64 (q.2 : Nat)), (6, U64 (pw q.1 : Nat))], []⟩)
    (fun q => q.1 ≤ 10 ∧ q.1 ≤ l.length ∧ q.2 < 128 ^ q.1 ∧ tk l = comb q.1 q.2 (tkS (10 - q.1) (decide (0 < q.1)) (l.drop q.1))) (fun q => 10 - q.1) (0, 0) ⟨by decide, by simp only []; omega, by decide, tk_comb l⟩
    (Le.sub [] ⟨rfl, rfl, rfl, rfl, trivial⟩ rfl) ?_
  rintro ⟨i, n⟩ ⟨hi10, hil, hn, ht⟩
  simp only [] at hi10 hil hn ht
  repeat (first | refine sc rfl ?_ | refine so rfl ?_ | refine sb rfl ?_)
  refine O_join ⟨[(0, .s l), (7, I64 (i : Nat)), (5, U64 (n : Nat)), (6, U64 (pw i : Nat)), (16, B (decide (i < l.length ∧ i < 10)))], []⟩ ?_ (fun s h => C_le _ h ?_)
  · have fin2 : ∀ x : Bool, x = decide (i < l.length ∧ i < 10) → some (B x) = some (B (decide (i < l.length ∧ i < 10))) := fun x hb => by rw [hb]
    refine O_case 13 rfl (fun h5 => ?_) (fun h5 => ?_) <;> simp at h5 <;> repeat (first | refine sc rfl ?_ | refine so rfl ?_ | refine sb rfl ?_)
    · exact Le.sub [] ⟨rfl, rfl, rfl, rfl, fin2 _ (by rw [Bool.eq_iff_iff]; simp; omega), trivial⟩ rfl
    · exact Le.sub [] ⟨rfl, rfl, rfl, rfl, fin2 _ (by rw [Bool.eq_iff_iff]; simp; omega), trivial⟩ rfl
  refine C_if rfl (fun h => ?_) (fun h => ?_) <;> simp only [decide_eq_true_eq, decide_eq_false_iff_not] at h
  · have hi : i < l.length ∧ i < 10 := by omega
    obtain ⟨f, hf⟩ : ∃ f, 10 - i = f + 1 := ⟨9 - i, by omega⟩
    rw [hf] at ht
    obtain ⟨c, hc⟩ : ∃ c, by_ l i = c := ⟨_, rfl⟩
    have hc256 : c < 256 := by rw [← hc]; exact by_lt l i
    have key : ((f = 0 ∧ 1 < c) ∨ (c = 0 ∧ decide (0 < i) = true)) ↔ ((i = 9 ∧ 1 < c) ∨ (c = 0 ∧ 0 < i)) := by simp only [decide_eq_true_eq]; omega
    repeat (first | refine sc rfl ?_ | refine so rfl ?_ | refine sb rfl ?_ | refine And.intro (by omega) ?_)
    rw [Int.toNat_natCast, getD_by, hc, u64wrap (x := (c : Int)) (by omega) (by omega)]
    repeat (first | refine sc rfl ?_ | refine so rfl ?_ | refine sb rfl ?_)
    refine O_join ⟨[(0, .s l), (7, I64 (i : Nat)), (5, U64 (n : Nat)), (6, U64 (pw i : Nat)), (8, U64 (c : Nat)), (36, B (decide ((i = 9 ∧ 1 < c) ∨ (c = 0 ∧ 0 < i))))], []⟩ ?_ (fun s h => C_le _ h ?_)
    · have fin2 : ∀ x : Bool, x = decide ((i = 9 ∧ 1 < c) ∨ (c = 0 ∧ 0 < i)) → some (B x) = some (B (decide ((i = 9 ∧ 1 < c) ∨ (c = 0 ∧ 0 < i)))) := fun x hb => by rw [hb]
      refine O_case 25 rfl (fun h5 => ?_) (fun h5 => ?_) <;> simp at h5 <;> repeat (first | refine sc rfl ?_ | refine so rfl ?_ | refine sb rfl ?_)
      · refine O_case 29 rfl (fun h6 => ?_) (fun h6 => ?_) <;> simp at h6 <;> repeat (first | refine sc rfl ?_ | refine so rfl ?_ | refine sb rfl ?_)
        · exact Le.sub [] ⟨rfl, rfl, rfl, rfl, rfl, fin2 _ (by rw [Bool.eq_iff_iff]; simp; omega), trivial⟩ rfl
        · refine O_case 32 rfl (fun h7 => ?_) (fun h7 => ?_) <;> simp at h7 <;> repeat (first | refine sc rfl ?_ | refine so rfl ?_ | refine sb rfl ?_)
          · exact Le.sub [] ⟨rfl, rfl, rfl, rfl, rfl, fin2 _ (by rw [Bool.eq_iff_iff]; simp; omega), trivial⟩ rfl
          · exact Le.sub [] ⟨rfl, rfl, rfl, rfl, rfl, fin2 _ (by rw [Bool.eq_iff_iff]; simp; omega), trivial⟩ rfl
      · refine O_case 32 rfl (fun h7 => ?_) (fun h7 => ?_) <;> simp at h7 <;> repeat (first | refine sc rfl ?_ | refine so rfl ?_ | refine sb rfl ?_)
        · exact Le.sub [] ⟨rfl, rfl, rfl, rfl, rfl, fin2 _ (by rw [Bool.eq_iff_iff]; simp; omega), trivial⟩ rfl
        · exact Le.sub [] ⟨rfl, rfl, rfl, rfl, rfl, fin2 _ (by rw [Bool.eq_iff_iff]; simp; omega), trivial⟩ rfl
    refine C_if rfl (fun h1 => ?_) (fun h1 => ?_)
    · have h2 := key.2 (of_decide_eq_true h1)
      repeat (first | refine sc rfl ?_ | refine so rfl ?_ | refine sb rfl ?_)
      exact ⟨_, rfl, rfl, fin (0, 0, 1) _ (by rw [ht, comb_bad hi.1 hc h2]) rfl⟩
    have h2 : ¬ ((f = 0 ∧ 1 < c) ∨ (c = 0 ∧ decide (0 < i) = true)) := fun hh => of_decide_eq_false h1 (key.1 hh)
    have hp9 := pow_le9 (i := i) (by omega)
    have hm : c % 128 * 128 ^ i ≤ 127 * 128 ^ i := Nat.mul_le_mul_right _ (by omega)
    have hsum : n + c % 128 * 128 ^ i < 18446744073709551616 := by
      by_cases h9 : i = 9
      · subst h9
        have h3 : c ≤ 1 := by omega
        have h4 : c % 128 * 128 ^ 9 ≤ 1 * 128 ^ 9 := Nat.mul_le_mul_right _ (by omega)
        omega
      · have h4 : 128 ^ i ≤ 128 ^ 8 := Nat.pow_le_pow_right (by omega) (by omega)
        omega
    have hpw : pw i = 128 ^ i := by unfold pw; rw [if_pos (by omega)]
    repeat (first | refine sc rfl ?_ | refine so rfl ?_ | refine sb rfl ?_ | refine And.intro (by omega) ?_)
    have hv : IntKind.u64.wrap ((n : Int) + IntKind.u64.wrap ((c : Int).tmod 128 * ((pw i : Nat) : Int))) = ((n + c % 128 * 128 ^ i : Nat) : Int) := by
      rw [Int.tmod_eq_emod_of_nonneg (by omega), hpw, show (c : Int) % 128 * ((128 ^ i : Nat) : Int) = ((c % 128 * 128 ^ i : Nat) : Int) by rw [Int.natCast_mul]; rfl, u64wrap (x := ((c % 128 * 128 ^ i : Nat) : Int)) (by omega) (by omega), show (n : Int) + ((c % 128 * 128 ^ i : Nat) : Int) = ((n + c % 128 * 128 ^ i : Nat) : Int) by omega, u64wrap (by omega) (by omega)]
    rw [hv, pw_step hi.2]
    repeat (first | refine sc rfl ?_ | refine so rfl ?_ | refine sb rfl ?_)
    refine C_if rfl (fun h3 => ?_) (fun h3 => ?_) <;> simp only [decide_eq_true_eq, decide_eq_false_iff_not] at h3
    · repeat (first | refine sc rfl ?_ | refine so rfl ?_ | refine sb rfl ?_)
      rw [w64 (by omega) (by omega)]
      exact ⟨_, rfl, rfl, fin (n + c % 128 * 128 ^ i, i + 1, 0) _ (by rw [ht, comb_last hi.1 hc h2 (by omega)]) rfl⟩
    · repeat (first | refine sc rfl ?_ | refine so rfl ?_ | refine sb rfl ?_)
      rw [w64 (by omega) (by omega)]
      refine ⟨(i + 1, n + c % 128 * 128 ^ i), ⟨by simp only []; omega, by simp only []; omega, ?_, ?_⟩, by simp only []; omega, Le.sub [] ⟨rfl, rfl, rfl, rfl, trivial⟩ rfl⟩
      · simp only [Nat.pow_succ]
        omega
      · simp only []
        rw [ht, comb_step hi.1 hc h2 (by omega), show 10 - (i + 1) = f by omega, show decide (0 < i + 1) = true from decide_eq_true (by omega)]
  · repeat (first | refine sc rfl ?_ | refine so rfl ?_ | refine sb rfl ?_)
    refine ⟨_, rfl, rfl, fin (0, 0, 2) _ ?_ rfl⟩
    rw [ht, comb_end (by omega)]

def int2 (t : TK) : AV := if t.2.2 ≠ 0 then .tup [I64 0, I64 0, I64 t.2.2] else if 1048576 < t.1 then .tup [I64 0, I64 0, I64 3] else .tup [I64 (t.1 : Nat), I64 (t.2.1 : Nat), I64 0]
theorem refInt_p (l : List UInt8) (hl : l.length ≤ 9223372036854775000) : FnP Tryd.prog 49 [.s l, I64 1048576] (· = int2 (tk l)) := by
  refine FnP.intro Tryd.tabOK Tryd.wide_ Tryd.func49 rfl (by decide) rfl (fun X => ?_)
  repeat (first | refine sc rfl ?_ | refine so rfl ?_ | refine sb rfl ?_)
  refine O_call (refTake01_p l hl) (by rfl) (by rfl) (by rfl) (by rfl) (fun r hr => ?_)
  subst hr
  obtain ⟨n, k, e, ht⟩ : ∃ n k e, tk l = (n, k, e) := ⟨_, _, _, rfl⟩
  rw [ht]
  simp only [int2]
  repeat (first | refine sc rfl ?_ | refine so rfl ?_ | refine sb rfl ?_)
  refine C_if rfl (fun h => ?_) (fun h => ?_)
  · have he : e ≠ 0 := by simpa using h
    repeat (first | refine sc rfl ?_ | refine so rfl ?_ | refine sb rfl ?_)
    exact ⟨_, rfl, rfl, by rw [if_pos he]⟩
  · have he : e = 0 := by simpa using h
    subst he
    repeat (first | refine sc rfl ?_ | refine so rfl ?_ | refine sb rfl ?_)
    refine C_false rfl rfl ?_
    repeat (first | refine sc rfl ?_ | refine so rfl ?_ | refine sb rfl ?_)
    rw [show IntKind.u64.wrap 1048576 = 1048576 by decide]
    refine C_if rfl (fun h2 => ?_) (fun h2 => ?_) <;> simp only [decide_eq_true_eq, decide_eq_false_iff_not] at h2
    · repeat (first | refine sc rfl ?_ | refine so rfl ?_ | refine sb rfl ?_)
      exact ⟨_, rfl, rfl, by rw [if_neg (by decide), if_pos (by omega)]⟩
    · repeat (first | refine sc rfl ?_ | refine so rfl ?_ | refine sb rfl ?_)
      rw [w64 (by omega) (by omega)]
      exact ⟨_, rfl, rfl, by rw [if_neg (by decide), if_neg (by omega)]⟩
end Go.Proofs

/- Contracts of the document's: Take of frames, of replies; the law ReplyTakes. -/
set_option linter.unusedSimpArgs false
set_option linter.unusedVariables false
set_option maxRecDepth 100000
namespace Go.Proofs
open Go.Sy Go.Lib

theorem lenB_ref (b : List UInt8) : IntKind.i64.wrap (IntKind.i64.wrap (IntKind.i64.wrap ((b.getD (Int.toNat 2) 0).toNat : Int) * 256) + IntKind.i64.wrap ((b.getD (Int.toNat 3) 0).toNat : Int)) = (lenB b : Int) := by
  have h0 := by_lt b 2
  have h1 := by_lt b 3
  show IntKind.i64.wrap (IntKind.i64.wrap (IntKind.i64.wrap (by_ b 2 : Int) * 256) + IntKind.i64.wrap (by_ b 3 : Int)) = _
  rw [w64 (x := (by_ b 2 : Int)) (by omega) (by omega), w64 (x := (by_ b 3 : Int)) (by omega) (by omega), w64 (x := (by_ b 2 : Int) * 256) (by omega) (by omega), w64 (by omega) (by omega)]
  unfold lenB
  omega

def fr5A (b : List UInt8) : AV → Prop := fun r => ∃ m : Int, r = (if frE b = 0 then .tup [.agg [I64 (by_ b 0 : Nat), I64 (by_ b 1 : Nat), .s ((b.drop 4).take (lenB b))], I64 (lenB b : Nat), I64 0] else .tup [.agg [I64 0, I64 0, .s []], I64 m, I64 (frE b)])

theorem refTake05_p (b : List UInt8) (hb : b.length ≤ 9223372036854775000) : FnP Tryd.prog 48 [.s b] (fr5A b) := by
  refine FnP.intro Tryd.tabOK Tryd.wide_ Tryd.func48 rfl (by decide) rfl (fun X => ?_)
  have fin : ∀ (e m : Int), frE b = e → e ≠ 0 → fr5A b (.tup [.agg [I64 0, I64 0, .s []], I64 m, I64 e]) := fun e m h h0 => ⟨m, by rw [if_neg (by rw [h]; exact h0), h]⟩
  have hl := lenB_lt b
  have b0 := by_lt b 0
  have b1 := by_lt b 1
  repeat (first | refine sc rfl ?_ | refine so rfl ?_ | refine sb rfl ?_)
  refine C_if rfl (fun h => ?_) (fun h => ?_) <;> simp only [decide_eq_true_eq, decide_eq_false_iff_not] at h
  · repeat (first | refine sc rfl ?_ | refine so rfl ?_ | refine sb rfl ?_)
    exact ⟨_, rfl, rfl, fin 2 _ (by unfold frE headE; rw [if_pos (show b.length < 4 by omega), if_neg (by decide)]) (by decide)⟩
  repeat (first | refine sc rfl ?_ | refine so rfl ?_ | refine sb rfl ?_ | refine And.intro (by omega) ?_)
  refine O_join ⟨[(0, .s b), (2, .bp 2 0), (17, B (decide (¬ (1 ≤ by_ b 0 ∧ by_ b 0 ≤ 9))))], [.box 2 58 [I64 0, I64 0, .s []]]⟩ ?_ (fun s h => C_le _ h ?_)
  · have fin2 : ∀ x : Bool, x = decide (¬ (1 ≤ by_ b 0 ∧ by_ b 0 ≤ 9)) → some (B x) = some (B (decide (¬ (1 ≤ by_ b 0 ∧ by_ b 0 ≤ 9)))) := fun x hb => by rw [hb]
    rw [show ((b.getD (Int.toNat 0) 0).toNat : Int) = (by_ b 0 : Int) from rfl]
    refine O_case 13 rfl (fun h5 => ?_) (fun h5 => ?_) <;> simp at h5 <;> repeat (first | refine sc rfl ?_ | refine so rfl ?_ | refine sb rfl ?_ | refine And.intro (by omega) ?_)
    · exact Le.sub [2] ⟨rfl, rfl, fin2 _ (by rw [Bool.eq_iff_iff]; simp; omega), trivial⟩ rfl
    · rw [show ((b.getD (Int.toNat 0) 0).toNat : Int) = (by_ b 0 : Int) from rfl]
      exact Le.sub [2] ⟨rfl, rfl, fin2 _ (by rw [Bool.eq_iff_iff]; simp; omega), trivial⟩ rfl
  refine C_if rfl (fun h1 => ?_) (fun h1 => ?_) <;> simp only [decide_eq_true_eq, decide_eq_false_iff_not, Decidable.not_not] at h1
  · repeat (first | refine sc rfl ?_ | refine so rfl ?_ | refine sb rfl ?_)
    exact ⟨_, rfl, rfl, fin 4 _ (by unfold frE headE; rw [if_neg (show ¬ b.length < 4 by omega), if_pos h1, if_neg (by decide)]) (by decide)⟩
  repeat (first | refine sc rfl ?_ | refine so rfl ?_ | refine sb rfl ?_)
  refine C_drawD rfl (by kernel_rfl) ?_
  repeat (first | refine sd rfl ?_ | refine And.intro (by omega) ?_ | refine And.intro (by decide) ?_)
  rw [lenB_ref]
  repeat (first | refine sc rfl ?_ | refine so rfl ?_ | refine sb rfl ?_)
  have hE0 : headE b = if 1024 < lenB b then 3 else 0 := by unfold headE; rw [if_neg (show ¬ b.length < 4 by omega), if_neg (by omega)]
  refine C_if rfl (fun h2 => ?_) (fun h2 => ?_) <;> simp only [decide_eq_true_eq, decide_eq_false_iff_not] at h2
  · repeat (first | refine sc rfl ?_ | refine so rfl ?_ | refine sb rfl ?_)
    exact ⟨_, rfl, rfl, fin 3 _ (by unfold frE; rw [hE0, if_pos (show 1024 < lenB b by omega), if_neg (by decide)]) (by decide)⟩
  rw [if_neg (by omega)] at hE0
  repeat (first | refine sc rfl ?_ | refine so rfl ?_ | refine sb rfl ?_)
  rw [w64 (x := 4 + (lenB b : Int)) (by omega) (by omega)]
  refine C_if rfl (fun h3 => ?_) (fun h3 => ?_) <;> simp only [decide_eq_true_eq, decide_eq_false_iff_not] at h3
  · repeat (first | refine sc rfl ?_ | refine so rfl ?_ | refine sb rfl ?_)
    exact ⟨_, rfl, rfl, fin 2 _ (by unfold frE; rw [hE0, if_pos rfl, if_pos (by omega)]) (by decide)⟩
  repeat (first | refine sc rfl ?_ | refine so rfl ?_ | refine sb rfl ?_)
  have hF : frE b = 0 := by unfold frE; rw [hE0, if_pos rfl, if_neg (by omega)]
  refine C_drawS (fun fl => [.box 2 58 (if fl then [I64 (by_ b 0 : Nat), I64 (by_ b 1 : Nat), .s ((b.drop 4).take (lenB b))] else [I64 0, I64 0, .s []])]) 12 rfl rfl (by kernel_rfl) ?_
  repeat (first | refine ss rfl ?_ | refine And.intro (by omega) ?_ | refine And.intro trivial ?_)
  rw [w64 (by omega) (by omega)]
  refine And.intro (by omega) ?_
  rw [show IntKind.i64.wrap ((b.getD (Int.toNat 0) 0).toNat : Int) = (by_ b 0 : Int) from byte_prog b 0, show IntKind.i64.wrap ((b.getD (Int.toNat 1) 0).toNat : Int) = (by_ b 1 : Int) from byte_prog b 1,
    show List.take (((4 : Int) + (lenB b : Int)).toNat - Int.toNat 4) (List.drop (Int.toNat 4) b) = (b.drop 4).take (lenB b) by rw [show ((4 : Int) + (lenB b : Int)).toNat - Int.toNat 4 = lenB b by omega]; rfl]
  repeat (first | refine ss rfl ?_ | refine And.intro trivial ?_)
  refine S_store (k := 2) (cells := [I64 0, I64 0, .s []]) (new := [I64 (by_ b 0 : Nat), I64 (by_ b 1 : Nat), .s ((b.drop 4).take (lenB b))]) (c := []) (tt := 58) rfl rfl rfl rfl rfl rfl rfl rfl ?_
  repeat (first | refine ss rfl ?_ | refine And.intro trivial ?_)
  repeat (first | refine sc rfl ?_ | refine so rfl ?_ | refine sb rfl ?_)
  exact ⟨_, rfl, rfl, 0, by rw [if_pos hF]; rfl⟩

/-- What is taken, in pieces. -/
theorem tkR_some {b : List UInt8} {id st : Nat} {d : List UInt8} (h : tkR b = some (id, st, d)) :
    frE b = 0 ∧ (b.drop 4).take (lenB b) = b.drop 4 ∧ upOK (b.drop 4) = true ∧ ∃ k k2, tk (unpL (b.drop 4)) = (st, k, 0) ∧ st ≤ 1048576 ∧ tk ((unpL (b.drop 4)).drop k) = (id, k2, 0) ∧ d = (unpL (b.drop 4)).drop (k + k2) := by
  unfold tkR at h
  split at h
  case isFalse => cases h
  rename_i h1
  split at h
  case isFalse => cases h
  rename_i h2
  split at h
  case isFalse => cases h
  rename_i h3
  simp only [Option.some.injEq, Prod.mk.injEq] at h
  have hh := h1.1
  unfold hdr at hh
  rw [decide_eq_true_eq] at hh
  obtain ⟨q1, q2, q3, q4, q5⟩ := hh
  refine ⟨?_, List.take_of_length_le (by rw [List.length_drop]; omega), h1.2, (tk (unpL (b.drop 4))).2.1, (tk ((unpL (b.drop 4)).drop (tk (unpL (b.drop 4))).2.1)).2.1, ?_, by rw [← h.2.1]; exact h2.2, ?_, h.2.2.symm⟩
  · have h6 : headE b = 0 := by unfold headE; rw [if_neg (by omega), if_neg (by omega), if_neg (by omega)]
    unfold frE
    rw [if_pos h6, if_neg (by omega)]
  · exact Prod.ext h.2.1 (Prod.ext rfl h2.1)
  · exact Prod.ext h.1 (Prod.ext rfl h3)

theorem refRTake_p (b : List UInt8) (hb : b.length ≤ 9223372036854775000) : FnP Tryd.prog 28 [.s b] (· = rA (tkR b)) := by
  refine FnP.intro Tryd.tabOK Tryd.wide_ Tryd.func28 rfl (by decide) rfl (fun X => ?_)
  have hl := lenB_lt b
  have b0 := by_lt b 0
  have b1 := by_lt b 1
  cases hY : tkR b with
  | some y =>
    obtain ⟨id, st, d⟩ := y
    obtain ⟨g1, g2, g3, k, k2, g4, g5, g6, g7⟩ := tkR_some hY
    obtain ⟨p1, p2, p3, p4⟩ := put_of_take hY
    have hz := frE_zero g1
    have hsl := unp_len (b.drop 4)
    rw [List.length_drop] at hsl
    have hun := pad_unp (b.drop 4) g3
    have hk := tk_take g4
    have hk2 := tk_take g6
    rw [List.length_drop] at hk2
    repeat (first | refine sc rfl ?_ | refine so rfl ?_ | refine sb rfl ?_)
    refine O_call (refTake05_p b hb) (by rfl) (by rfl) (by rfl) (by rfl) (fun r hr => ?_)
    obtain ⟨m, rfl⟩ := hr
    rw [if_pos g1, g2]
    repeat (first | refine sc rfl ?_ | refine so rfl ?_ | refine sb rfl ?_)
    refine C_false rfl rfl ?_
    repeat (first | refine sc rfl ?_ | refine so rfl ?_ | refine sb rfl ?_)
    refine O_call (refUnpad_p (b.drop 4) (by rw [List.length_drop]; omega)) (by rfl) (by rfl) (by rfl) (by rfl) (fun r hr => ?_)
    subst hr
    rw [(unpE_iff _).2 g3]
    generalize unpL (b.drop 4) = s at *
    repeat (first | refine sc rfl ?_ | refine so rfl ?_ | refine sb rfl ?_)
    refine C_false rfl rfl ?_
    repeat (first | refine sc rfl ?_ | refine so rfl ?_ | refine sb rfl ?_)
    refine O_call (refInt_p s (by omega)) (by rfl) (by rfl) (by rfl) (by rfl) (fun r hr => ?_)
    subst hr
    rw [g4, show int2 (st, k, 0) = .tup [I64 (st : Nat), I64 (k : Nat), I64 0] by
      unfold int2; rw [if_neg (fun h => h rfl), if_neg (by simp only []; omega)]]
    repeat (first | refine sc rfl ?_ | refine so rfl ?_ | refine sb rfl ?_)
    refine C_false rfl rfl ?_
    repeat (first | refine sc rfl ?_ | refine so rfl ?_ | refine sb rfl ?_ | refine And.intro (by omega) ?_)
    rw [Int.toNat_natCast]
    refine O_call (refTake01_p (s.drop k) (by rw [List.length_drop]; omega)) (by rfl) (by rfl) (by rfl) (by rfl) (fun r hr => ?_)
    subst hr
    rw [g6]
    repeat (first | refine sc rfl ?_ | refine so rfl ?_ | refine sb rfl ?_)
    refine C_false rfl rfl ?_
    repeat (first | refine sc rfl ?_ | refine so rfl ?_ | refine sb rfl ?_)
    rw [w64 (x := ((k : Nat) : Int) + ((k2 : Nat) : Int)) (by omega) (by omega)]
    refine And.intro (by omega) ?_
    rw [show s.drop ((k : Int) + (k2 : Int)).toNat = d by rw [g7, show ((k : Int) + (k2 : Int)).toNat = k + k2 by omega]]
    repeat (first | refine sc rfl ?_ | refine so rfl ?_ | refine sb rfl ?_)
    refine O_call (refrPut_p id (st : Nat) d p2 (by rw [g7, List.length_drop]; omega)) (by rfl) (by rfl) (by rfl) (by rfl) (fun r hr => ?_)
    subst hr
    rw [p3, p4]
    repeat (first | refine sc rfl ?_ | refine so rfl ?_ | refine sb rfl ?_)
    refine C_false rfl (by simp) ?_
    repeat (first | refine sc rfl ?_ | refine so rfl ?_ | refine sb rfl ?_)
    exact ⟨_, rfl, rfl, rfl⟩
  | none =>
    have fin : ∀ r : AV, r = .tup [.agg [U64 0, I64 0, .s []], I64 1] → r = rA none := fun r h => h
    repeat (first | refine sc rfl ?_ | refine so rfl ?_ | refine sb rfl ?_)
    refine O_call (refTake05_p b hb) (by rfl) (by rfl) (by rfl) (by rfl) (fun r hr => ?_)
    obtain ⟨m, rfl⟩ := hr
    by_cases g1 : frE b = 0
    case neg =>
      rw [if_neg g1]
      repeat (first | refine sc rfl ?_ | refine so rfl ?_ | refine sb rfl ?_)
      refine C_true rfl (by simpa using g1) ?_
      repeat (first | refine sc rfl ?_ | refine so rfl ?_ | refine sb rfl ?_)
      exact ⟨_, rfl, rfl, rfl⟩
    rw [if_pos g1]
    obtain ⟨bd, hbd⟩ : ∃ x, (b.drop 4).take (lenB b) = x := ⟨_, rfl⟩
    have hbl : bd.length ≤ b.length := by rw [← hbd, List.length_take, List.length_drop]; omega
    rw [hbd]
    repeat (first | refine sc rfl ?_ | refine so rfl ?_ | refine sb rfl ?_)
    refine C_false rfl rfl ?_
    repeat (first | refine sc rfl ?_ | refine so rfl ?_ | refine sb rfl ?_)
    refine O_call (refUnpad_p bd (by omega)) (by rfl) (by rfl) (by rfl) (by rfl) (fun r hr => ?_)
    subst hr
    by_cases g3 : upOK bd = true
    case neg =>
      repeat (first | refine sc rfl ?_ | refine so rfl ?_ | refine sb rfl ?_)
      refine C_true rfl (by unfold unpE; rw [if_neg g3]; rfl) ?_
      repeat (first | refine sc rfl ?_ | refine so rfl ?_ | refine sb rfl ?_)
      exact ⟨_, rfl, rfl, rfl⟩
    have hun := pad_unp bd g3
    rw [(unpE_iff _).2 g3]
    generalize unpL bd = s at *
    repeat (first | refine sc rfl ?_ | refine so rfl ?_ | refine sb rfl ?_)
    refine C_false rfl rfl ?_
    repeat (first | refine sc rfl ?_ | refine so rfl ?_ | refine sb rfl ?_)
    refine O_call (refInt_p s (by omega)) (by rfl) (by rfl) (by rfl) (by rfl) (fun r hr => ?_)
    subst hr
    obtain ⟨st, k, e1, ht⟩ : ∃ n k e, tk s = (n, k, e) := ⟨_, _, _, rfl⟩
    rw [ht]
    unfold int2
    simp only []
    by_cases he1 : e1 = 0
    case neg =>
      rw [if_pos he1]
      repeat (first | refine sc rfl ?_ | refine so rfl ?_ | refine sb rfl ?_)
      refine C_true rfl (by simpa using he1) ?_
      repeat (first | refine sc rfl ?_ | refine so rfl ?_ | refine sb rfl ?_)
      exact ⟨_, rfl, rfl, rfl⟩
    subst he1
    rw [if_neg (fun h => h rfl)]
    by_cases hst : 1048576 < st
    case pos =>
      rw [if_pos hst]
      repeat (first | refine sc rfl ?_ | refine so rfl ?_ | refine sb rfl ?_)
      refine C_true rfl rfl ?_
      repeat (first | refine sc rfl ?_ | refine so rfl ?_ | refine sb rfl ?_)
      exact ⟨_, rfl, rfl, rfl⟩
    rw [if_neg hst]
    have hk := tk_take ht
    repeat (first | refine sc rfl ?_ | refine so rfl ?_ | refine sb rfl ?_)
    refine C_false rfl rfl ?_
    repeat (first | refine sc rfl ?_ | refine so rfl ?_ | refine sb rfl ?_ | refine And.intro (by omega) ?_)
    rw [Int.toNat_natCast]
    refine O_call (refTake01_p (s.drop k) (by rw [List.length_drop]; omega)) (by rfl) (by rfl) (by rfl) (by rfl) (fun r hr => ?_)
    subst hr
    obtain ⟨id, k2, e2, ht2⟩ : ∃ n j e, tk (s.drop k) = (n, j, e) := ⟨_, _, _, rfl⟩
    rw [ht2]
    simp only [tkA]
    by_cases he2 : e2 = 0
    case neg =>
      repeat (first | refine sc rfl ?_ | refine so rfl ?_ | refine sb rfl ?_)
      refine C_true rfl (by simpa using he2) ?_
      repeat (first | refine sc rfl ?_ | refine so rfl ?_ | refine sb rfl ?_)
      exact ⟨_, rfl, rfl, rfl⟩
    subst he2
    have hk2 := tk_take ht2
    rw [List.length_drop] at hk2
    repeat (first | refine sc rfl ?_ | refine so rfl ?_ | refine sb rfl ?_)
    refine C_false rfl rfl ?_
    repeat (first | refine sc rfl ?_ | refine so rfl ?_ | refine sb rfl ?_)
    rw [w64 (x := ((k : Nat) : Int) + ((k2 : Nat) : Int)) (by omega) (by omega)]
    refine And.intro (by omega) ?_
    have hdl : (s.drop ((k : Int) + (k2 : Int)).toNat).length ≤ s.length := by rw [List.length_drop]; omega
    generalize s.drop ((k : Int) + (k2 : Int)).toNat = d at *
    repeat (first | refine sc rfl ?_ | refine so rfl ?_ | refine sb rfl ?_)
    refine O_call (refrPut_p id (st : Nat) d hk2.2.2.2 (by omega)) (by rfl) (by rfl) (by rfl) (by rfl) (fun r hr => ?_)
    subst hr
    repeat (first | refine sc rfl ?_ | refine so rfl ?_ | refine sb rfl ?_)
    refine O_case 67 rfl (fun h5 => ?_) (fun h5 => ?_) <;> repeat (first | refine sc rfl ?_ | refine so rfl ?_ | refine sb rfl ?_)
    · refine C_true rfl rfl ?_
      repeat (first | refine sc rfl ?_ | refine so rfl ?_ | refine sb rfl ?_)
      exact ⟨_, rfl, rfl, rfl⟩
    · have hE : rputE id (st : Nat) d = 0 := by simpa using h5
      refine C_true rfl ?_ ?_
      · have hne : rputL id (st : Nat) d ≠ b := fun h => by
          have := take_of_put hk2.2.2.2 hE
          rw [h, hY] at this
          cases this
        simpa using hne
      repeat (first | refine sc rfl ?_ | refine so rfl ?_ | refine sb rfl ?_)
      exact ⟨_, rfl, rfl, rfl⟩

theorem lawRTakes_p (b : List UInt8) (hb : b.length ≤ 9223372036854775000) : FnP Tryd.prog 9 [.s b] (· = B true) := by
  refine FnP.intro Tryd.tabOK Tryd.wide_ Tryd.func9 rfl (by decide) rfl (fun X => ?_)
  repeat (first | refine sc rfl ?_ | refine so rfl ?_ | refine sb rfl ?_)
  refine O_call (rTake_p b hb) (by rfl) (by rfl) (by rfl) (by rfl) (fun r hr => ?_)
  subst hr
  rw [rA_eq]
  repeat (first | refine sc rfl ?_ | refine so rfl ?_ | refine sb rfl ?_)
  refine O_call (refRTake_p b hb) (by rfl) (by rfl) (by rfl) (by rfl) (fun r hr => ?_)
  subst hr
  rw [rA_eq]
  repeat (first | refine sc rfl ?_ | refine so rfl ?_ | refine sb rfl ?_)
  generalize tkR b = Y
  refine C_drawD rfl (by kernel_rfl) ?_
  repeat (first | refine sd rfl ?_)
  refine D_call (ours35_p ((rid Y : Nat) : Int) ((rst Y : Nat) : Int) (rdat Y)) rfl rfl rfl rfl ?_
  refine D_eq35 rfl rfl rfl rfl ?_
  repeat (first | refine sd rfl ?_)
  simp only [beq_self_eq_true]
  refine D_call awake35_p rfl rfl rfl rfl ?_
  repeat (first | refine sd rfl ?_)
  repeat (first | refine sc rfl ?_ | refine so rfl ?_ | refine sb rfl ?_)
  exact ⟨_, rfl, rfl, rfl⟩
end Go.Proofs
