/- Contracts: reply.Take. -/
import Derived.Test.YtgdlhcaidfokkaaDoorD44
set_option linter.unusedSimpArgs false
set_option linter.unusedVariables false
set_option maxRecDepth 100000
namespace Go.Proofs
open Go.Sy Go.Lib

def hdr (b : List UInt8) : Bool := decide (4 ≤ b.length ∧ by_ b 0 = 9 ∧ by_ b 1 = 0 ∧ lenB b ≤ 1024 ∧ 4 + lenB b = b.length)
/-- The reply of bytes: its id, its status, its data. -/
def tkR (b : List UInt8) : Option (Nat × Nat × List UInt8) :=
  if hdr b ∧ upOK (b.drop 4) then
    (if (tk (unpL (b.drop 4))).2.2 = 0 ∧ (tk (unpL (b.drop 4))).1 ≤ 1048576 then
      (if (tk ((unpL (b.drop 4)).drop (tk (unpL (b.drop 4))).2.1)).2.2 = 0 then
        some ((tk ((unpL (b.drop 4)).drop (tk (unpL (b.drop 4))).2.1)).1, (tk (unpL (b.drop 4))).1, (unpL (b.drop 4)).drop ((tk (unpL (b.drop 4))).2.1 + (tk ((unpL (b.drop 4)).drop (tk (unpL (b.drop 4))).2.1)).2.1))
      else none)
    else none)
  else none
def rA : Option (Nat × Nat × List UInt8) → AV
  | none => .tup [.agg [U64 0, I64 0, .s []], I64 1]
  | some (id, st, d) => .tup [.agg [U64 (id : Nat), I64 (st : Nat), .s d], I64 0]

theorem frA_of (b : List UInt8) : (frE b = 0 ∧ frA b = .tup [.agg [I64 (by_ b 0 : Nat), I64 (by_ b 1 : Nat), .s ((b.drop 4).take (lenB b))], I64 ((4 + lenB b : Nat) : Int), I64 0]) ∨
    (frE b ≠ 0 ∧ frA b = .tup [.agg [I64 0, I64 0, .s []], I64 0, I64 (frE b)]) := by
  by_cases h : frE b = 0
  · left; exact ⟨h, by unfold frA; rw [if_pos h]⟩
  · right; exact ⟨h, by unfold frA; rw [if_neg h]⟩
theorem hdr_of {b : List UInt8} (h : frE b ≠ 0) : hdr b = false := by
  unfold hdr; rw [decide_eq_false_iff_not]
  rintro ⟨h1, h2, h3, h4, h5⟩
  apply h
  have h6 : headE b = 0 := by unfold headE; rw [if_neg (by omega), if_neg (by omega), if_neg (by omega)]
  unfold frE
  rw [if_pos h6, if_neg (by omega)]
theorem frE_zero {b : List UInt8} (h : frE b = 0) : 4 ≤ b.length ∧ 1 ≤ by_ b 0 ∧ by_ b 0 ≤ 9 ∧ lenB b ≤ 1024 ∧ lenB b ≤ b.length - 4 := by
  unfold frE at h
  split at h
  · rename_i h1
    unfold headE at h1
    split at h1
    · cases h1
    · split at h1
      · cases h1
      · split at h1
        · cases h1
        · split at h
          · cases h
          · omega
  · rename_i h1; exact absurd h h1
theorem unp_len (b : List UInt8) : (unpL b).length ≤ b.length := by
  unfold unpL; split
  · rw [List.length_take, List.length_drop]; omega
  · simp

theorem rTake_p (b : List UInt8) (hb : b.length ≤ 9223372036854775000) : FnP Tryd.prog 27 [.s b] (· = rA (tkR b)) := by
  refine FnP.intro Tryd.tabOK Tryd.wide_ Tryd.func27 rfl (by decide) rfl (fun X => ?_)
  have fin : tkR b = none → AV.tup [.agg [U64 0, I64 0, .s []], I64 1] = rA (tkR b) := fun h => by rw [h]; rfl
  have hl := lenB_lt b
  have b0 := by_lt b 0
  have b1 := by_lt b 1
  repeat (first | refine sc rfl ?_ | refine so rfl ?_ | refine sb rfl ?_)
  refine O_call (fTake_p b hb) (by rfl) (by rfl) (by rfl) (by rfl) (fun r hr => ?_)
  subst hr
  rcases frA_of b with ⟨hE, hA⟩ | ⟨hE, hA⟩
  case inr =>
    rw [hA]
    repeat (first | refine sc rfl ?_ | refine so rfl ?_ | refine sb rfl ?_)
    refine O_true 20 rfl (by simpa using hE) ?_
    repeat (first | refine sc rfl ?_ | refine so rfl ?_ | refine sb rfl ?_)
    refine C_true rfl rfl ?_
    repeat (first | refine sc rfl ?_ | refine so rfl ?_ | refine sb rfl ?_)
    refine ⟨_, rfl, rfl, fin ?_⟩
    unfold tkR
    rw [if_neg (by rw [hdr_of hE]; simp)]
  case inl =>
    have hz := frE_zero hE
    rw [hA]
    repeat (first | refine sc rfl ?_ | refine so rfl ?_ | refine sb rfl ?_)
    refine O_join ⟨[(2, .bp 2 0), (3, I64 0), (4, .bp 4 0), (35, B (!hdr b))], [.box 4 58 [I64 (by_ b 0 : Nat), I64 (by_ b 1 : Nat), .s ((b.drop 4).take (lenB b))], .box 2 35 [U64 0, I64 0, .s []]]⟩ ?_ (fun s h => C_le _ h ?_)
    · have fin2 : ∀ x : Bool, x = (!hdr b) → some (B x) = some (B (!hdr b)) := fun x hb => by rw [hb]
      have hbad : ¬ (by_ b 0 = 9 ∧ by_ b 1 = 0 ∧ 4 + lenB b = b.length) → (!hdr b) = true := fun h => by
        have : hdr b = false := by unfold hdr; rw [decide_eq_false_iff_not]; omega
        rw [this]; rfl
      refine O_case 26 rfl (fun h5 => ?_) (fun h5 => ?_) <;> simp at h5 <;> repeat (first | refine sc rfl ?_ | refine so rfl ?_ | refine sb rfl ?_)
      · exact Le.sub [4, 2] ⟨rfl, rfl, rfl, fin2 _ (hbad (by omega)).symm, trivial⟩ rfl
      · refine O_case 31 rfl (fun h6 => ?_) (fun h6 => ?_) <;> simp at h6 <;> repeat (first | refine sc rfl ?_ | refine so rfl ?_ | refine sb rfl ?_)
        · exact Le.sub [4, 2] ⟨rfl, rfl, rfl, fin2 _ (hbad (by omega)).symm, trivial⟩ rfl
        · refine Le.sub [4, 2] ⟨rfl, rfl, rfl, fin2 _ ?_, trivial⟩ rfl
          by_cases h7 : by_ b 1 = 0
          · have : hdr b = true := by unfold hdr; rw [decide_eq_true_eq]; omega
            rw [this, h7]; rfl
          · rw [hbad (by omega)]
            simp; omega
    refine C_if rfl (fun h1 => ?_) (fun h1 => ?_) <;> simp only [Bool.not_eq_true', Bool.not_eq_false'] at h1
    · repeat (first | refine sc rfl ?_ | refine so rfl ?_ | refine sb rfl ?_)
      refine ⟨_, rfl, rfl, fin ?_⟩
      unfold tkR
      rw [if_neg (by rw [h1]; simp)]
    have h1' := h1
    unfold hdr at h1'
    rw [decide_eq_true_eq] at h1'
    obtain ⟨q1, q2, q3, q4, q5⟩ := h1'
    have hbody : (b.drop 4).take (lenB b) = b.drop 4 := List.take_of_length_le (by rw [List.length_drop]; omega)
    rw [hbody]
    repeat (first | refine sc rfl ?_ | refine so rfl ?_ | refine sb rfl ?_)
    refine O_call (Unpad_p (b.drop 4) (by rw [List.length_drop]; omega)) (by rfl) (by rfl) (by rfl) (by rfl) (fun r hr => ?_)
    subst hr
    repeat (first | refine sc rfl ?_ | refine so rfl ?_ | refine sb rfl ?_)
    by_cases hu : upOK (b.drop 4) = true
    case neg =>
      refine C_true rfl (by unfold unpE; rw [if_neg hu]; rfl) ?_
      repeat (first | refine sc rfl ?_ | refine so rfl ?_ | refine sb rfl ?_)
      refine ⟨_, rfl, rfl, fin ?_⟩
      unfold tkR
      rw [if_neg (fun h => hu h.2)]
    refine C_false rfl (by unfold unpE; rw [if_pos hu]; rfl) ?_
    have hsl := unp_len (b.drop 4)
    rw [List.length_drop] at hsl
    unfold tkR at fin ⊢
    rw [if_pos ⟨h1, hu⟩] at fin ⊢
    obtain ⟨s, hs⟩ : ∃ s, unpL (b.drop 4) = s := ⟨_, rfl⟩
    rw [hs] at fin hsl ⊢
    repeat (first | refine sc rfl ?_ | refine so rfl ?_ | refine sb rfl ?_)
    refine O_callNew (Read_p s) rfl rfl rfl rfl rfl rfl (fun cells hp _ => ?_) (fun cells hp => by rw [hp]; rfl)
    subst hp
    repeat (first | refine sc rfl ?_ | refine so rfl ?_ | refine sb rfl ?_)
    obtain ⟨st, k, e1, ht⟩ : ∃ n k e, tk s = (n, k, e) := ⟨_, _, _, rfl⟩
    by_cases hi : e1 = 0 ∧ st ≤ 1048576
    case neg =>
      rw [ht] at fin ⊢
      simp only [] at fin ⊢
      rw [if_neg hi] at fin ⊢
      refine O_callBox (Int_err s (by rw [ht]; simp only []; omega) (by omega)) rfl rfl rfl rfl rfl rfl rfl rfl (fun r cells hp => ?_)
      obtain ⟨e, he, rfl, rfl⟩ := hp
      repeat (first | refine sc rfl ?_ | refine so rfl ?_ | refine sb rfl ?_)
      refine O_callBox (Num_stop s 0 e he) rfl rfl rfl rfl rfl rfl rfl rfl (fun r cells hp => ?_)
      obtain ⟨rfl, rfl⟩ := hp
      repeat (first | refine sc rfl ?_ | refine so rfl ?_ | refine sb rfl ?_)
      refine O_callBox (Rest_stop s 0 e he) rfl rfl rfl rfl rfl rfl rfl rfl (fun r cells hp => ?_)
      obtain ⟨rfl, rfl⟩ := hp
      repeat (first | refine sc rfl ?_ | refine so rfl ?_ | refine sb rfl ?_)
      refine O_callBox (Done_err s 0 e he) rfl rfl rfl rfl rfl rfl rfl rfl (fun r cells hp => ?_)
      obtain ⟨rfl, rfl⟩ := hp
      repeat (first | refine sc rfl ?_ | refine so rfl ?_ | refine sb rfl ?_)
      refine C_true rfl (by simpa using he) ?_
      repeat (first | refine sc rfl ?_ | refine so rfl ?_ | refine sb rfl ?_)
      exact ⟨_, rfl, rfl, fin rfl⟩
    obtain ⟨rfl, hst⟩ := hi
    have hk := tk_take ht
    rw [ht] at fin ⊢
    simp only [] at fin ⊢
    rw [if_pos ⟨trivial, hst⟩] at fin ⊢
    refine O_callBox (Int_ok s st k ht hst (by omega)) rfl rfl rfl rfl rfl rfl rfl rfl (fun r cells hp => ?_)
    obtain ⟨rfl, rfl⟩ := hp
    repeat (first | refine sc rfl ?_ | refine so rfl ?_ | refine sb rfl ?_)
    obtain ⟨id, k2, e2, ht2⟩ : ∃ n j e, tk (s.drop k) = (n, j, e) := ⟨_, _, _, rfl⟩
    rw [ht2] at fin ⊢
    simp only [] at fin ⊢
    by_cases he2 : e2 = 0
    case neg =>
      rw [if_neg he2] at fin ⊢
      refine O_callBox (Num_err s k hk.2.2.1 (by rw [ht2]; exact he2) (by omega)) rfl rfl rfl rfl rfl rfl rfl rfl (fun r cells hp => ?_)
      obtain ⟨e, he, rfl, rfl⟩ := hp
      repeat (first | refine sc rfl ?_ | refine so rfl ?_ | refine sb rfl ?_)
      refine O_callBox (Rest_stop s k e he) rfl rfl rfl rfl rfl rfl rfl rfl (fun r cells hp => ?_)
      obtain ⟨rfl, rfl⟩ := hp
      repeat (first | refine sc rfl ?_ | refine so rfl ?_ | refine sb rfl ?_)
      refine O_callBox (Done_err s k e he) rfl rfl rfl rfl rfl rfl rfl rfl (fun r cells hp => ?_)
      obtain ⟨rfl, rfl⟩ := hp
      repeat (first | refine sc rfl ?_ | refine so rfl ?_ | refine sb rfl ?_)
      refine C_true rfl (by simpa using he) ?_
      repeat (first | refine sc rfl ?_ | refine so rfl ?_ | refine sb rfl ?_)
      exact ⟨_, rfl, rfl, fin rfl⟩
    subst he2
    rw [if_pos rfl] at fin ⊢
    have hk2 := tk_take ht2
    rw [List.length_drop] at hk2
    refine O_callBox (Num_ok s k id k2 hk.2.2.1 ht2 (by omega)) rfl rfl rfl rfl rfl rfl rfl rfl (fun r cells hp => ?_)
    obtain ⟨rfl, rfl⟩ := hp
    repeat (first | refine sc rfl ?_ | refine so rfl ?_ | refine sb rfl ?_)
    refine O_callBox (Rest_ok s (k + k2) (by omega) (by omega)) rfl rfl rfl rfl rfl rfl rfl rfl (fun r cells hp => ?_)
    obtain ⟨rfl, rfl⟩ := hp
    repeat (first | refine sc rfl ?_ | refine so rfl ?_ | refine sb rfl ?_)
    refine O_callBox (Done_ok s (by omega)) rfl rfl rfl rfl rfl rfl rfl rfl (fun r cells hp => ?_)
    obtain ⟨rfl, rfl⟩ := hp
    repeat (first | refine sc rfl ?_ | refine so rfl ?_ | refine sb rfl ?_)
    refine C_false rfl rfl ?_
    repeat (first | refine sc rfl ?_ | refine so rfl ?_ | refine sb rfl ?_)
    exact ⟨_, rfl, rfl, rfl⟩
end Go.Proofs
