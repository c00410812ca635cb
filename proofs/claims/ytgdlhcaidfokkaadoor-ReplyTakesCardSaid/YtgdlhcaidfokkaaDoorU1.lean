/- The plain law of utf: which texts are right, how many runes they have, two texts one behind the other. No program in sight. -/
import Derived.Lib.DecodeN
set_option linter.unusedVariables false
set_option linter.unusedSimpArgs false
namespace Go.Proofs
open Go Go.Lib

def by_ (l : List UInt8) (i : Nat) : Nat := (l.getD i 0).toNat
theorem by_lt (l : List UInt8) (i : Nat) : by_ l i < 256 := by unfold by_; exact UInt8.toNat_lt _
theorem by_out (l : List UInt8) (i : Nat) (h : l.length ≤ i) : by_ l i = 0 := by
  unfold by_; rw [List.getD_eq_getElem?_getD, List.getElem?_eq_none h]; rfl
theorem by_app (l m : List UInt8) (i : Nat) (h : i < l.length) : by_ (l ++ m) i = by_ l i := by
  unfold by_; rw [List.getD_eq_getElem?_getD, List.getD_eq_getElem?_getD, List.getElem?_append_left h]

/-- The rune with which a text begins, and how many bytes it has. -/
def rn (l : List UInt8) : Nat × Nat := decodeN l.length (by_ l 0) (by_ l 1) (by_ l 2) (by_ l 3)
def wdN (q : Nat × Nat) : Nat := if q.1 = 65533 ∧ q.2 < 2 then 0 else q.2
/-- How many bytes the rune has with which a text begins; 0: none begins. -/
def wd (l : List UInt8) : Nat := wdN (rn l)

def pN (n b0 b1 b2 b3 : Nat) : Nat :=
  if b0 < 128 then 1
  else if b0 / 32 = 6 ∧ 1 < n ∧ b1 / 64 = 2 then (if 128 ≤ b0 % 32 * 64 + b1 % 64 then 2 else 0)
  else if b0 / 16 = 14 ∧ 1 < n ∧ b1 / 64 = 2 ∧ 2 < n ∧ b2 / 64 = 2 then
    (if 2048 ≤ b0 % 16 * 4096 + b1 % 64 * 64 + b2 % 64 ∧ (b0 % 16 * 4096 + b1 % 64 * 64 + b2 % 64 < 55296 ∨ 57344 ≤ b0 % 16 * 4096 + b1 % 64 * 64 + b2 % 64) then 3 else 0)
  else if b0 / 8 = 30 ∧ 1 < n ∧ b1 / 64 = 2 ∧ 2 < n ∧ b2 / 64 = 2 ∧ 3 < n ∧ b3 / 64 = 2 then
    (if 65536 ≤ b0 % 8 * 262144 + b1 % 64 * 4096 + b2 % 64 * 64 + b3 % 64 ∧ b0 % 8 * 262144 + b1 % 64 * 4096 + b2 % 64 * 64 + b3 % 64 ≤ 1114111 then 4 else 0)
  else 0

theorem wdN_ite {c : Prop} [Decidable c] (v k : Nat) (hk : 2 ≤ k) : wdN (if c then (v, k) else (65533, 1)) = if c then k else 0 := by
  split
  · unfold wdN; rw [if_neg (by simp only []; omega)]
  · rfl

set_option maxHeartbeats 2000000 in
theorem wdN_eq (n b0 b1 b2 b3 : Nat) (h0 : b0 < 256) : wdN (decodeN n b0 b1 b2 b3) = pN n b0 b1 b2 b3 := by
  unfold decodeN pN
  by_cases c0 : b0 < 128
  · simp only [c0, if_true]
    unfold wdN
    rw [if_neg (by simp only []; omega)]
  simp only [c0, if_false]
  by_cases c1 : b0 / 32 = 6 ∧ 1 < n ∧ b1 / 64 = 2
  · simp only [if_pos c1]
    rw [wdN_ite _ _ (by omega)]
  simp only [if_neg c1]
  by_cases c2 : b0 / 16 = 14 ∧ 1 < n ∧ b1 / 64 = 2 ∧ 2 < n ∧ b2 / 64 = 2
  · have c2' : b0 / 16 = 14 ∧ (1 < n ∧ b1 / 64 = 2) ∧ 2 < n ∧ b2 / 64 = 2 := by omega
    simp only [if_pos c2, if_pos c2']
    rw [wdN_ite _ _ (by omega)]
    refine ite_congr (propext ⟨fun h => by omega, fun h => by omega⟩) (fun _ => rfl) (fun _ => rfl)
  have c2' : ¬ (b0 / 16 = 14 ∧ (1 < n ∧ b1 / 64 = 2) ∧ 2 < n ∧ b2 / 64 = 2) := by omega
  simp only [if_neg c2, if_neg c2']
  by_cases c3 : b0 / 8 = 30 ∧ 1 < n ∧ b1 / 64 = 2 ∧ 2 < n ∧ b2 / 64 = 2 ∧ 3 < n ∧ b3 / 64 = 2
  · have c3' : b0 / 8 = 30 ∧ (1 < n ∧ b1 / 64 = 2) ∧ (2 < n ∧ b2 / 64 = 2) ∧ 3 < n ∧ b3 / 64 = 2 := by omega
    simp only [if_pos c3, if_pos c3']
    rw [wdN_ite _ _ (by omega)]
    refine ite_congr (propext ⟨fun h => by omega, fun h => by omega⟩) (fun _ => rfl) (fun _ => rfl)
  have c3' : ¬ (b0 / 8 = 30 ∧ (1 < n ∧ b1 / 64 = 2) ∧ (2 < n ∧ b2 / 64 = 2) ∧ 3 < n ∧ b3 / 64 = 2) := by omega
  simp only [if_neg c3, if_neg c3']
  rfl

theorem wd_eq (l : List UInt8) : wd l = pN l.length (by_ l 0) (by_ l 1) (by_ l 2) (by_ l 3) := wdN_eq _ _ _ _ _ (by_lt _ _)

theorem wd_le4 (l : List UInt8) : wd l ≤ 4 := by
  rw [wd_eq]; unfold pN
  repeat' split
  all_goals omega
theorem wd_len (l : List UInt8) (h : l ≠ []) : wd l ≤ l.length := by
  have : 0 < l.length := List.length_pos_iff.2 h
  rw [wd_eq]; unfold pN
  repeat' split
  all_goals omega

theorem wd_app (l m : List UInt8) (h : l ≠ []) (hw : wd l ≠ 0) : wd (l ++ m) = wd l := by
  have hl : 0 < l.length := List.length_pos_iff.2 h
  have e0 := by_app l m 0 hl
  have e1 := by_app l m 1
  have e2 := by_app l m 2
  have e3 := by_app l m 3
  rw [wd_eq] at hw
  rw [wd_eq, wd_eq, e0, List.length_append]
  generalize by_ l 0 = b0 at *
  generalize by_ l 1 = b1 at *
  generalize by_ l 2 = b2 at *
  generalize by_ l 3 = b3 at *
  generalize by_ (l ++ m) 1 = c1 at *
  generalize by_ (l ++ m) 2 = c2 at *
  generalize by_ (l ++ m) 3 = c3 at *
  generalize l.length = n at *
  generalize m.length = k at *
  by_cases q1 : 1 < n
  · obtain rfl := e1 q1
    by_cases q2 : 2 < n
    · obtain rfl := e2 q2
      by_cases q3 : 3 < n
      · obtain rfl := e3 q3
        unfold pN
        simp only [q1, q2, q3, show 1 < n + k by omega, show 2 < n + k by omega, show 3 < n + k by omega]
      · unfold pN at hw ⊢
        simp only [q1, q2, q3, show 1 < n + k by omega, show 2 < n + k by omega, true_and, false_and, and_false, if_false] at hw ⊢
        repeat' split
        all_goals first | rfl | (simp_all; done) | (exfalso; simp_all; done) | omega
    · unfold pN at hw ⊢
      simp only [q1, q2, show 1 < n + k by omega, true_and, false_and, and_false, if_false] at hw ⊢
      repeat' split
      all_goals first | rfl | (simp_all; done) | (exfalso; simp_all; done) | omega
  · unfold pN at hw ⊢
    simp only [q1, true_and, false_and, and_false, if_false] at hw ⊢
    repeat' split
    all_goals first | rfl | (simp_all; done) | (exfalso; simp_all; done) | omega

theorem wd_app0 (l m : List UInt8) (h : 4 ≤ l.length) (hw : wd l = 0) : wd (l ++ m) = 0 := by
  rw [wd_eq] at hw ⊢
  rw [by_app l m 0 (by omega), by_app l m 1 (by omega), by_app l m 2 (by omega), by_app l m 3 (by omega), List.length_append]
  refine Eq.trans ?_ hw
  unfold pN
  simp only [show 1 < l.length by omega, show 2 < l.length by omega, show 3 < l.length by omega, show 1 < l.length + m.length by omega, show 2 < l.length + m.length by omega, show 3 < l.length + m.length by omega]

/-- The first byte with which no rune begins, counted from a place. -/
def scanL : Nat → List UInt8 → Nat → Int
  | 0, _, _ => -1
  | f + 1, l, p => if l = [] then -1 else if wd l = 0 then p else scanL f (l.drop (wd l)) (p + wd l)
def cntF : Nat → List UInt8 → Nat
  | 0, _ => 0
  | f + 1, l => if l = [] then 0 else if wd l = 0 then 0 else cntF f (l.drop (wd l)) + 1
def badL (l : List UInt8) : Int := scanL l.length l 0
def cntL (l : List UInt8) : Nat := if badL l < 0 then cntF l.length l else 0

theorem drop_lt (l : List UInt8) (h : l ≠ []) (hw : wd l ≠ 0) : (l.drop (wd l)).length < l.length := by
  have : 0 < l.length := List.length_pos_iff.2 h
  rw [List.length_drop]; omega

theorem scanL_fuel : ∀ (f g : Nat) (l : List UInt8) (p : Nat), l.length ≤ f → l.length ≤ g → scanL f l p = scanL g l p
  | 0, 0, l, p, _, _ => rfl
  | 0, g + 1, l, p, hf, _ => by
    have : l = [] := List.eq_nil_of_length_eq_zero (by omega)
    simp [scanL, this]
  | f + 1, 0, l, p, _, hg => by
    have : l = [] := List.eq_nil_of_length_eq_zero (by omega)
    simp [scanL, this]
  | f + 1, g + 1, l, p, hf, hg => by
    simp only [scanL]
    split
    · rfl
    · rename_i h
      split
      · rfl
      · rename_i hw
        have := drop_lt l h hw
        exact scanL_fuel f g _ _ (by omega) (by omega)
theorem cntF_fuel : ∀ (f g : Nat) (l : List UInt8), l.length ≤ f → l.length ≤ g → cntF f l = cntF g l
  | 0, 0, l, _, _ => rfl
  | 0, g + 1, l, hf, _ => by
    have : l = [] := List.eq_nil_of_length_eq_zero (by omega)
    simp [cntF, this]
  | f + 1, 0, l, _, hg => by
    have : l = [] := List.eq_nil_of_length_eq_zero (by omega)
    simp [cntF, this]
  | f + 1, g + 1, l, hf, hg => by
    simp only [cntF]
    split
    · rfl
    · rename_i h
      split
      · rfl
      · rename_i hw
        have := drop_lt l h hw
        rw [cntF_fuel f g _ (by omega) (by omega)]

def scan (l : List UInt8) (p : Nat) : Int := scanL l.length l p
def cnt (l : List UInt8) : Nat := cntF l.length l
theorem scan_nil (p : Nat) : scan [] p = -1 := rfl
theorem scan_bad {l : List UInt8} (h : l ≠ []) (hw : wd l = 0) (p : Nat) : scan l p = p := by
  unfold scan
  obtain ⟨x, xs, rfl⟩ := List.exists_cons_of_ne_nil h
  simp only [List.length_cons, scanL, if_neg h, hw, if_true]
theorem scan_step {l : List UInt8} (h : l ≠ []) (hw : wd l ≠ 0) (p : Nat) : scan l p = scan (l.drop (wd l)) (p + wd l) := by
  have h1 := drop_lt l h hw
  unfold scan
  obtain ⟨x, xs, rfl⟩ := List.exists_cons_of_ne_nil h
  simp only [List.length_cons, scanL, if_neg h, if_neg hw]
  simp only [List.length_cons] at h1
  exact scanL_fuel _ _ _ _ (by omega) (by omega)
theorem cnt_nil : cnt [] = 0 := rfl
theorem cnt_step {l : List UInt8} (h : l ≠ []) (hw : wd l ≠ 0) : cnt l = cnt (l.drop (wd l)) + 1 := by
  have h1 := drop_lt l h hw
  unfold cnt
  obtain ⟨x, xs, rfl⟩ := List.exists_cons_of_ne_nil h
  simp only [List.length_cons, cntF, if_neg h, if_neg hw]
  simp only [List.length_cons] at h1
  rw [cntF_fuel _ _ _ (by omega) (Nat.le_refl _)]

theorem scan_ge (l : List UInt8) (p : Nat) : scan l p = -1 ∨ (p : Int) ≤ scan l p ∧ scan l p < p + l.length := by
  generalize hn : l.length = n
  induction n using Nat.strongRecOn generalizing l p with
  | ind n ih =>
    by_cases h : l = []
    · subst h; exact .inl rfl
    have hp : 0 < l.length := List.length_pos_iff.2 h
    by_cases hw : wd l = 0
    · rw [scan_bad h hw]; right; omega
    · rw [scan_step h hw]
      have h1 := drop_lt l h hw
      rcases ih _ (by omega) (l.drop (wd l)) (p + wd l) rfl with h2 | h2
      · exact .inl h2
      · right
        have := wd_len l h
        rw [List.length_drop] at h2
        omega
theorem scan_shift (l : List UInt8) (p q : Nat) : scan l (p + q) = if scan l p < 0 then -1 else scan l p + q := by
  generalize hn : l.length = n
  induction n using Nat.strongRecOn generalizing l p with
  | ind n ih =>
    by_cases h : l = []
    · subst h; simp [scan_nil]
    by_cases hw : wd l = 0
    · rw [scan_bad h hw, scan_bad h hw, if_neg (by omega)]; omega
    · rw [scan_step h hw, scan_step h hw]
      have h1 := drop_lt l h hw
      have := ih _ (by omega) (l.drop (wd l)) (p + wd l) rfl
      rw [show p + q + wd l = p + wd l + q by omega]
      exact this

/-- A right text, and another behind it. -/
theorem scan_app_good (l m : List UInt8) (p : Nat) (hl : scan l p < 0) : scan (l ++ m) p = scan m (p + l.length) ∧ cnt (l ++ m) = cnt l + cnt m := by
  generalize hn : l.length = n
  induction n using Nat.strongRecOn generalizing l p with
  | ind n ih =>
    by_cases h : l = []
    · subst h; subst hn; simp [cnt_nil]
    by_cases hw : wd l = 0
    · rw [scan_bad h hw] at hl; omega
    · have h1 := drop_lt l h hw
      have h2 := wd_len l h
      have h3 : l ++ m ≠ [] := by simp [h]
      have h4 := wd_app l m h hw
      have h5 : (l ++ m).drop (wd (l ++ m)) = l.drop (wd l) ++ m := by rw [h4, List.drop_append_of_le_length h2]
      rw [scan_step h hw] at hl
      obtain ⟨i1, i2⟩ := ih _ (by omega) (l.drop (wd l)) (p + wd l) hl rfl
      rw [scan_step h3 (by rw [h4]; exact hw), cnt_step h3 (by rw [h4]; exact hw), h5, h4, i1, i2, cnt_step h hw, List.length_drop]
      refine ⟨?_, by omega⟩
      congr 1
      omega
/-- A text that is wrong, and another behind it. -/
theorem scan_app_bad (l m : List UInt8) (p : Nat) (hl : ¬ scan l p < 0) (h4 : 4 ≤ (p : Int) + l.length - scan l p) : scan (l ++ m) p = scan l p := by
  generalize hn : l.length = n
  induction n using Nat.strongRecOn generalizing l p with
  | ind n ih =>
    by_cases h : l = []
    · subst h; simp [scan_nil] at hl
    by_cases hw : wd l = 0
    · rw [scan_bad h hw] at h4 ⊢
      rw [scan_bad (by simp [h]) (wd_app0 l m (by omega) hw)]
    · have h1 := drop_lt l h hw
      have h2 := wd_len l h
      have h3 : l ++ m ≠ [] := by simp [h]
      have h6 := wd_app l m h hw
      have h5 : (l ++ m).drop (wd (l ++ m)) = l.drop (wd l) ++ m := by rw [h6, List.drop_append_of_le_length h2]
      rw [scan_step h hw] at hl h4 ⊢
      rw [scan_step h3 (by rw [h6]; exact hw), h5, h6]
      exact ih _ (by omega) (l.drop (wd l)) (p + wd l) hl (by rw [List.length_drop]; omega) rfl

/-! ### the document's way -/
def more? (l : List UInt8) (i : Nat) : Option Nat := if i < l.length ∧ 128 ≤ by_ l i ∧ by_ l i ≤ 191 then some (by_ l i - 128) else none
def startN (c : Nat) : Nat × Nat × Nat := if 240 ≤ c ∧ c < 248 then (c - 240, 4, 65536) else if 224 ≤ c ∧ c < 240 then (c - 224, 3, 2048) else if 192 ≤ c ∧ c < 224 then (c - 192, 2, 128) else (0, 0, 0)
def runN (l : List UInt8) : Nat → Nat → Nat → Option Nat
  | 0, _, n => some n
  | f + 1, i, n => match more? l i with
    | none => none
    | some x => runN l f (i + 1) (n * 64 + x)
def finN (k least : Nat) : Option Nat → Nat
  | none => 0
  | some n => if n < least ∨ 1114112 ≤ n ∨ 55296 ≤ n ∧ n < 57344 then 0 else k
def refWd (l : List UInt8) : Nat := if by_ l 0 < 128 then 1 else finN (startN (by_ l 0)).2.1 (startN (by_ l 0)).2.2 (runN l ((startN (by_ l 0)).2.1 - 1) 1 (startN (by_ l 0)).1)

theorem more_pos {l : List UInt8} {i : Nat} (h : i < l.length ∧ by_ l i / 64 = 2) : more? l i = some (by_ l i - 128) := by
  unfold more?; rw [if_pos (by omega)]
theorem more_neg {l : List UInt8} {i : Nat} (h : ¬ (i < l.length ∧ by_ l i / 64 = 2)) : more? l i = none := by
  unfold more?; rw [if_neg (by omega)]

set_option maxHeartbeats 4000000 in
theorem refWd_eq (l : List UInt8) : refWd l = wd l := by
  rw [wd_eq]
  have b0 := by_lt l 0
  have b1 := by_lt l 1
  have b2 := by_lt l 2
  have b3 := by_lt l 3
  unfold refWd pN
  by_cases c0 : by_ l 0 < 128
  · simp only [c0, if_true]
  simp only [c0, if_false]
  unfold startN
  by_cases c4 : 240 ≤ by_ l 0 ∧ by_ l 0 < 248
  · simp only [if_pos c4, runN, Nat.reduceSub, Nat.reduceAdd]
    rw [if_neg (by omega), if_neg (by omega)]
    by_cases m1 : 1 < l.length ∧ by_ l 1 / 64 = 2
    · by_cases m2 : 2 < l.length ∧ by_ l 2 / 64 = 2
      · by_cases m3 : 3 < l.length ∧ by_ l 3 / 64 = 2
        · simp only [more_pos m1, more_pos m2, more_pos m3, finN]
          (conv => rhs; rw [if_pos (by omega)])
          by_cases d : 65536 ≤ by_ l 0 % 8 * 262144 + by_ l 1 % 64 * 4096 + by_ l 2 % 64 * 64 + by_ l 3 % 64 ∧ by_ l 0 % 8 * 262144 + by_ l 1 % 64 * 4096 + by_ l 2 % 64 * 64 + by_ l 3 % 64 ≤ 1114111
          · rw [if_pos d, if_neg (by omega)]
          · rw [if_neg d, if_pos (by omega)]
        · simp only [more_pos m1, more_pos m2, more_neg m3, finN]
          rw [if_neg (by omega)]
      · simp only [more_pos m1, more_neg m2, finN]
        rw [if_neg (by omega)]
    · simp only [more_neg m1, finN]
      rw [if_neg (by omega)]
  simp only [if_neg c4]
  by_cases c3 : 224 ≤ by_ l 0 ∧ by_ l 0 < 240
  · simp only [if_pos c3, runN, Nat.reduceSub, Nat.reduceAdd]
    rw [if_neg (by omega)]
    by_cases m1 : 1 < l.length ∧ by_ l 1 / 64 = 2
    · by_cases m2 : 2 < l.length ∧ by_ l 2 / 64 = 2
      · simp only [more_pos m1, more_pos m2, finN]
        (conv => rhs; rw [if_pos (by omega)])
        by_cases d : 2048 ≤ by_ l 0 % 16 * 4096 + by_ l 1 % 64 * 64 + by_ l 2 % 64 ∧ (by_ l 0 % 16 * 4096 + by_ l 1 % 64 * 64 + by_ l 2 % 64 < 55296 ∨ 57344 ≤ by_ l 0 % 16 * 4096 + by_ l 1 % 64 * 64 + by_ l 2 % 64)
        · rw [if_pos d, if_neg (by omega)]
        · rw [if_neg d, if_pos (by omega)]
      · simp only [more_pos m1, more_neg m2, finN]
        rw [if_neg (by omega), if_neg (by omega)]
    · simp only [more_neg m1, finN]
      rw [if_neg (by omega), if_neg (by omega)]
  simp only [if_neg c3]
  by_cases c2 : 192 ≤ by_ l 0 ∧ by_ l 0 < 224
  · simp only [if_pos c2, runN, Nat.reduceSub, Nat.reduceAdd]
    by_cases m1 : 1 < l.length ∧ by_ l 1 / 64 = 2
    · simp only [more_pos m1, finN]
      (conv => rhs; rw [if_pos (by omega)])
      by_cases d : 128 ≤ by_ l 0 % 32 * 64 + by_ l 1 % 64
      · rw [if_pos d, if_neg (by omega)]
      · rw [if_neg d, if_pos (by omega)]
    · simp only [more_neg m1, finN]
      rw [if_neg (by omega), if_neg (by omega), if_neg (by omega)]
  simp only [if_neg c2]
  rw [if_neg (by omega), if_neg (by omega), if_neg (by omega)]
  simp [runN, finN]
end Go.Proofs
namespace Go.Proofs
open Go Go.Lib
/-! ### names -/
def letB (c : Int) : Bool := decide (97 ≤ c ∧ c ≤ 122 ∨ 65 ≤ c ∧ c ≤ 90)
def okB (c : Int) (first : Bool) : Bool := letB c || (!first && (decide (c = 95) || decide (48 ≤ c ∧ c ≤ 57)))
def nameF : List UInt8 → Bool → Bool
  | [], _ => true
  | x :: xs, f => okB x.toNat f && nameF xs false
def nameL (l : List UInt8) : Bool := decide (1 ≤ l.length ∧ l.length ≤ 16) && nameF l true

theorem okB_lt {c : Int} {f : Bool} (h : okB c f = true) : 48 ≤ c ∧ c < 128 := by
  unfold okB letB at h
  cases f <;> simp at h <;> omega
theorem rn_one (l : List UInt8) : ((rn l).1 < 128 ∨ by_ l 0 < 128) → rn l = (by_ l 0, 1) := by
  intro h
  unfold rn decodeN at h ⊢
  by_cases c0 : by_ l 0 < 128
  · rw [if_pos c0]
  exfalso
  rcases h with h | h
  · revert h
    rw [if_neg c0]
    repeat' split
    all_goals simp only []
    all_goals omega
  · exact c0 h
theorem ok_rn (l : List UInt8) (f : Bool) : okB (rn l).1 f = okB (by_ l 0) f := by
  by_cases h : (rn l).1 < 128 ∨ by_ l 0 < 128
  · rw [rn_one l h]
  · cases h1 : okB (rn l).1 f with
    | true => have := okB_lt h1; omega
    | false =>
      cases h2 : okB (by_ l 0) f with
      | true => have := okB_lt h2; omega
      | false => rfl
theorem ok_width {l : List UInt8} {f : Bool} (h : okB (rn l).1 f = true) : (rn l).2 = 1 := by
  have := okB_lt h
  rw [rn_one l (.inl (by omega))]
theorem nameF_drop {l : List UInt8} {p : Nat} (h : p < l.length) (f : Bool) : nameF (l.drop p) f = (okB (by_ l p) f && nameF (l.drop (p + 1)) false) := by
  rw [List.drop_eq_getElem_cons h]
  simp only [nameF]
  congr 2
  unfold by_
  rw [List.getD_eq_getElem?_getD, List.getElem?_eq_getElem h]
  rfl
theorem name_good : ∀ (l : List UInt8) (f : Bool) (p : Nat), nameF l f = true → scan l p < 0 ∧ cnt l = l.length
  | [], f, p, _ => by simp [scan_nil, cnt_nil]
  | x :: xs, f, p, h => by
    simp only [nameF, Bool.and_eq_true] at h
    have h1 := okB_lt h.1
    have hb : by_ (x :: xs) 0 = x.toNat := rfl
    have hr := rn_one (x :: xs) (.inr (by rw [hb]; omega))
    have hw : wd (x :: xs) = 1 := by
      unfold wd wdN; rw [hr, if_neg (by rw [hb]; simp only []; omega)]
    have ih := name_good xs false (p + 1) h.2
    rw [scan_step (by simp) (by rw [hw]; omega), cnt_step (by simp) (by rw [hw]; omega), hw]
    simp only [List.drop_succ_cons, List.drop_zero, List.length_cons]
    exact ⟨ih.1, by omega⟩
theorem nameL_good {l : List UInt8} (h : nameL l = true) : badL l < 0 ∧ cntL l = l.length := by
  simp only [nameL, Bool.and_eq_true] at h
  have := name_good l true 0 h.2
  have hb : badL l < 0 := this.1
  exact ⟨hb, by unfold cntL; rw [if_pos hb]; exact this.2⟩

theorem cntL_le (l : List UInt8) : cntL l ≤ l.length := by
  have key : ∀ n (l : List UInt8), l.length = n → cnt l ≤ n := by
    intro n
    induction n using Nat.strongRecOn with
    | ind n ih =>
      intro l hn
      by_cases h : l = []
      · subst h; simp [cnt_nil]
      by_cases hw : wd l = 0
      · have : cnt l = 0 := by
          unfold cnt
          obtain ⟨x, xs, rfl⟩ := List.exists_cons_of_ne_nil h
          simp only [List.length_cons, cntF, hw, if_true]
          simp
        omega
      · have := drop_lt l h hw
        rw [cnt_step h hw]
        have := ih _ (by omega) (l.drop (wd l)) rfl
        omega
  unfold cntL
  split
  · exact key _ l rfl
  · omega
theorem badL_lt (l : List UInt8) : badL l < l.length ∧ -1 ≤ badL l := by
  rcases scan_ge l 0 with h | h <;> (unfold scan at h; unfold badL; omega)

/-- The law UtfTogether's three ways. -/
theorem together_good {a b : List UInt8} (ha : badL a < 0) : badL (a ++ b) = (if badL b < 0 then -1 else a.length + badL b) ∧ (badL b < 0 → cntL (a ++ b) = cntL a + cntL b) := by
  obtain ⟨h1, h2⟩ := scan_app_good a b 0 ha
  have h3 : badL (a ++ b) = (if badL b < 0 then -1 else a.length + badL b) := by
    have := scan_shift b 0 a.length
    rw [Nat.zero_add] at this
    show scan (a ++ b) 0 = _
    rw [h1, Nat.zero_add, this]
    show (if badL b < 0 then (-1 : Int) else badL b + a.length) = _
    split <;> omega
  refine ⟨h3, fun hb => ?_⟩
  rw [if_pos hb] at h3
  unfold cntL
  rw [if_pos (by omega), if_pos ha, if_pos hb]
  exact h2
theorem together_bad {a : List UInt8} (b : List UInt8) (ha : ¬ badL a < 0) (h : ¬ (a.length : Int) - badL a < 4) : badL (a ++ b) = badL a :=
  scan_app_bad a b 0 ha (by show (4 : Int) ≤ ((0 : Nat) : Int) + a.length - badL a; omega)
end Go.Proofs
