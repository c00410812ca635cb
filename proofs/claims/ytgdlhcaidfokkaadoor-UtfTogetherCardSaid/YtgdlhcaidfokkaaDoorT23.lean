/- Contracts at the door seat, part three: the document's Rune. -/
import Derived.Test.YtgdlhcaidfokkaaDoorT22
set_option linter.unusedSimpArgs false
set_option linter.unusedVariables false
set_option maxRecDepth 100000
namespace Go.Proofs
open Go.Sy Go.Lib

def st1 (c : Nat) : Nat × Nat × Nat := if 192 ≤ c ∧ c < 224 then (c - 192, 2, 128) else (0, 0, 0)
def st2 (c : Nat) : Nat × Nat × Nat := if 224 ≤ c ∧ c < 240 then (c - 224, 3, 2048) else st1 c
theorem startN_eq (c : Nat) : startN c = if 240 ≤ c ∧ c < 248 then (c - 240, 4, 65536) else st2 c := rfl
theorem more_drop (l : List UInt8) (p i : Nat) : more? (l.drop p) i = more? l (p + i) := by
  unfold more?
  rw [by_drop, List.length_drop]
  by_cases h : p + i < l.length
  · simp only [show (i < l.length - p) = True from eq_true (by omega), show (p + i < l.length) = True from eq_true h]
  · simp only [show (i < l.length - p) = False from eq_false (by omega), show (p + i < l.length) = False from eq_false h]
theorem startN_bd (c : Nat) (h : c < 256) : (startN c).1 ≤ 31 ∧ (startN c).2.1 ≤ 4 ∧ (startN c).2.2 ≤ 65536 := by
  unfold startN
  repeat' split
  all_goals simp only []
  all_goals omega
def nb (i : Nat) : Nat := if i ≤ 1 then 63 else if i ≤ 2 then 4095 else if i ≤ 3 then 262143 else 16777215
theorem more_le {l : List UInt8} {i x : Nat} (h : more? l i = some x) : x ≤ 63 := by
  unfold more? at h
  split at h
  · cases h; omega
  · cases h

theorem Rune_p (l : List UInt8) (p : Nat) (hp : p < l.length) (hl : l.length ≤ 9223372036854775000) : FnP Tryd.prog 32 [.s l, I64 (p : Int)] (· = I64 (wd (l.drop p) : Nat)) := by
  refine FnP.intro Tryd.tabOK Tryd.wide_ Tryd.func32 rfl (by decide) rfl (fun X => ?_)
  rw [← refWd_eq]
  have hb : by_ (l.drop p) 0 = by_ l p := by_drop l p 0
  obtain ⟨c, hc⟩ : ∃ c, by_ l p = c := ⟨_, rfl⟩
  have hc256 : c < 256 := by rw [← hc]; exact by_lt l p
  have hsb := startN_bd c hc256
  unfold refWd
  rw [hb, hc]
  repeat (first | refine sc rfl ?_ | refine so rfl ?_ | refine sb rfl ?_ | refine ⟨by omega, ?_⟩)
  rw [Int.toNat_natCast, getD_by, w64 (x := (by_ l p : Int)) (by omega) (by omega), hc]
  repeat (first | refine sc rfl ?_ | refine so rfl ?_ | refine sb rfl ?_ | refine ⟨by omega, ?_⟩)
  refine C_if rfl (fun h => ?_) (fun h => ?_) <;> simp only [decide_eq_true_eq, decide_eq_false_iff_not] at h
  · repeat (first | refine sc rfl ?_ | refine so rfl ?_ | refine sb rfl ?_)
    exact ⟨_, rfl, rfl, by rw [if_pos (by omega)]; rfl⟩
  rw [if_neg (by omega)]
  repeat (first | refine sc rfl ?_ | refine so rfl ?_ | refine sb rfl ?_)
  refine O_join ⟨[(0, .s l), (1, I64 (p : Int)), (5, I64 c), (6, I64 0), (7, I64 0), (8, I64 0), (23, B (decide (192 ≤ c ∧ c < 224)))], []⟩ ?_ (fun s h => C_le _ h ?_)
  · refine O_case 20 rfl (fun h => ?_) (fun h => ?_) <;> simp at h
    · repeat (first | refine sc rfl ?_ | refine so rfl ?_ | refine sb rfl ?_)
      exact Le.sub [] ⟨rfl, rfl, rfl, rfl, rfl, rfl, congrArg (fun x => some (B x)) (by rw [Bool.eq_iff_iff]; simp; omega), trivial⟩ rfl
    · repeat (first | refine sc rfl ?_ | refine so rfl ?_ | refine sb rfl ?_)
      exact Le.sub [] ⟨rfl, rfl, rfl, rfl, rfl, rfl, congrArg (fun x => some (B x)) (by rw [Bool.eq_iff_iff]; simp; omega), trivial⟩ rfl
  refine C_ifJ ⟨[(0, .s l), (1, I64 (p : Int)), (5, I64 c), (6, I64 ((st1 c).1 : Nat)), (7, I64 ((st1 c).2.1 : Nat)), (8, I64 ((st1 c).2.2 : Nat))], []⟩ rfl (fun h => ?_) (fun h => ?_) (fun s h => C_le _ h ?_)
  · have h5 := of_decide_eq_true h
    repeat (first | refine sc rfl ?_ | refine so rfl ?_ | refine sb rfl ?_)
    rw [w64 (by omega) (by omega)]
    unfold st1
    rw [if_pos h5]
    repeat (first | refine sc rfl ?_ | refine so rfl ?_ | refine sb rfl ?_)
    exact Le.sub [] ⟨rfl, rfl, rfl, congrArg (fun x => some (I64 x)) (by simp only []; omega), rfl, rfl, trivial⟩ rfl
  · have h5 := of_decide_eq_false h
    unfold st1
    rw [if_neg h5]
    repeat (first | refine sc rfl ?_ | refine so rfl ?_ | refine sb rfl ?_)
    exact Le.sub [] ⟨rfl, rfl, rfl, rfl, rfl, rfl, trivial⟩ rfl
  repeat (first | refine sc rfl ?_ | refine so rfl ?_ | refine sb rfl ?_)
  refine O_join ⟨[(0, .s l), (1, I64 (p : Int)), (5, I64 c), (6, I64 ((st1 c).1 : Nat)), (7, I64 ((st1 c).2.1 : Nat)), (8, I64 ((st1 c).2.2 : Nat)), (31, B (decide (224 ≤ c ∧ c < 240)))], []⟩ ?_ (fun s h => C_le _ h ?_)
  · refine O_case 28 rfl (fun h => ?_) (fun h => ?_) <;> simp at h
    · repeat (first | refine sc rfl ?_ | refine so rfl ?_ | refine sb rfl ?_)
      exact Le.sub [] ⟨rfl, rfl, rfl, rfl, rfl, rfl, congrArg (fun x => some (B x)) (by rw [Bool.eq_iff_iff]; simp; omega), trivial⟩ rfl
    · repeat (first | refine sc rfl ?_ | refine so rfl ?_ | refine sb rfl ?_)
      exact Le.sub [] ⟨rfl, rfl, rfl, rfl, rfl, rfl, congrArg (fun x => some (B x)) (by rw [Bool.eq_iff_iff]; simp; omega), trivial⟩ rfl
  refine C_ifJ ⟨[(0, .s l), (1, I64 (p : Int)), (5, I64 c), (6, I64 ((st2 c).1 : Nat)), (7, I64 ((st2 c).2.1 : Nat)), (8, I64 ((st2 c).2.2 : Nat))], []⟩ rfl (fun h => ?_) (fun h => ?_) (fun s h => C_le _ h ?_)
  · have h5 := of_decide_eq_true h
    repeat (first | refine sc rfl ?_ | refine so rfl ?_ | refine sb rfl ?_)
    rw [w64 (by omega) (by omega)]
    unfold st2
    rw [if_pos h5]
    repeat (first | refine sc rfl ?_ | refine so rfl ?_ | refine sb rfl ?_)
    exact Le.sub [] ⟨rfl, rfl, rfl, congrArg (fun x => some (I64 x)) (by simp only []; omega), rfl, rfl, trivial⟩ rfl
  · have h5 := of_decide_eq_false h
    unfold st2
    rw [if_neg h5]
    repeat (first | refine sc rfl ?_ | refine so rfl ?_ | refine sb rfl ?_)
    exact Le.sub [] ⟨rfl, rfl, rfl, rfl, rfl, rfl, trivial⟩ rfl
  repeat (first | refine sc rfl ?_ | refine so rfl ?_ | refine sb rfl ?_)
  refine O_join ⟨[(0, .s l), (1, I64 (p : Int)), (5, I64 c), (6, I64 ((st2 c).1 : Nat)), (7, I64 ((st2 c).2.1 : Nat)), (8, I64 ((st2 c).2.2 : Nat)), (39, B (decide (240 ≤ c ∧ c < 248)))], []⟩ ?_ (fun s h => C_le _ h ?_)
  · refine O_case 36 rfl (fun h => ?_) (fun h => ?_) <;> simp at h
    · repeat (first | refine sc rfl ?_ | refine so rfl ?_ | refine sb rfl ?_)
      exact Le.sub [] ⟨rfl, rfl, rfl, rfl, rfl, rfl, congrArg (fun x => some (B x)) (by rw [Bool.eq_iff_iff]; simp; omega), trivial⟩ rfl
    · repeat (first | refine sc rfl ?_ | refine so rfl ?_ | refine sb rfl ?_)
      exact Le.sub [] ⟨rfl, rfl, rfl, rfl, rfl, rfl, congrArg (fun x => some (B x)) (by rw [Bool.eq_iff_iff]; simp; omega), trivial⟩ rfl
  refine C_ifJ ⟨[(0, .s l), (1, I64 (p : Int)), (5, I64 c), (6, I64 ((startN c).1 : Nat)), (7, I64 ((startN c).2.1 : Nat)), (8, I64 ((startN c).2.2 : Nat))], []⟩ rfl (fun h => ?_) (fun h => ?_) (fun s h => C_le _ h ?_)
  · have h5 := of_decide_eq_true h
    repeat (first | refine sc rfl ?_ | refine so rfl ?_ | refine sb rfl ?_)
    rw [w64 (by omega) (by omega)]
    rw [startN_eq, if_pos h5]
    repeat (first | refine sc rfl ?_ | refine so rfl ?_ | refine sb rfl ?_)
    exact Le.sub [] ⟨rfl, rfl, rfl, congrArg (fun x => some (I64 x)) (by simp only []; omega), rfl, rfl, trivial⟩ rfl
  · have h5 := of_decide_eq_false h
    rw [startN_eq, if_neg h5]
    repeat (first | refine sc rfl ?_ | refine so rfl ?_ | refine sb rfl ?_)
    exact Le.sub [] ⟨rfl, rfl, rfl, rfl, rfl, rfl, trivial⟩ rfl
  obtain ⟨n0, hn0⟩ : ∃ n0, (startN c).1 = n0 := ⟨_, rfl⟩
  obtain ⟨k, hk⟩ : ∃ k, (startN c).2.1 = k := ⟨_, rfl⟩
  obtain ⟨least, hle⟩ : ∃ x, (startN c).2.2 = x := ⟨_, rfl⟩
  rw [hn0, hk, hle]
  rw [hn0, hk, hle] at hsb
  repeat (first | refine sc rfl ?_ | refine so rfl ?_ | refine sb rfl ?_)
  refine C_loop (fun q : Nat × Nat => ⟨[(0, .s l), (1, I64 (p : Int)), (6, I64 (q.2 : Nat)), (7, I64 (k : Nat)), (8, I64 (least : Nat)), (9, I64 (q.1 : Nat))], []⟩)
    (fun q => 1 ≤ q.1 ∧ (q.1 = 1 ∨ q.1 ≤ k) ∧ q.2 ≤ nb q.1 ∧ runN (l.drop p) (k - q.1) q.1 q.2 = runN (l.drop p) (k - 1) 1 n0) (fun q => k - q.1) (1, n0) ⟨by simp only []; omega, .inl rfl, by show n0 ≤ 63; omega, rfl⟩
    (Le.sub [] ⟨rfl, rfl, rfl, rfl, rfl, rfl, trivial⟩ rfl) ?_
  rintro ⟨i, n⟩ ⟨hi1, hik, hnb, hrun⟩
  simp only [] at hi1 hik hnb hrun
  repeat (first | refine sc rfl ?_ | refine so rfl ?_ | refine sb rfl ?_)
  refine C_if rfl (fun h => ?_) (fun h => ?_) <;> simp only [decide_eq_true_eq, decide_eq_false_iff_not] at h
  · have hik' : i < k := by omega
    repeat (first | refine sc rfl ?_ | refine so rfl ?_ | refine sb rfl ?_)
    rw [w64 (by omega) (by omega), show ((p : Int) + (i : Int)) = ((p + i : Nat) : Int) by omega]
    refine O_call (more_p l (p + i)) (by rfl) (by rfl) (by rfl) (by rfl) (fun r hr => ?_)
    subst hr
    rw [← more_drop]
    have hstep : runN (l.drop p) (k - i) i n = match more? (l.drop p) i with
        | none => none
        | some x => runN (l.drop p) (k - (i + 1)) (i + 1) (n * 64 + x) := by
      rw [show k - i = (k - (i + 1)) + 1 by omega]; rfl
    cases hm : more? (l.drop p) i with
    | none =>
      rw [hm] at hstep
      repeat (first | refine sc rfl ?_ | refine so rfl ?_ | refine sb rfl ?_)
      refine C_true rfl rfl ?_
      repeat (first | refine sc rfl ?_ | refine so rfl ?_ | refine sb rfl ?_)
      exact ⟨_, rfl, rfl, by rw [← hrun, hstep]; rfl⟩
    | some x =>
      rw [hm] at hstep
      have hx := more_le hm
      repeat (first | refine sc rfl ?_ | refine so rfl ?_ | refine sb rfl ?_)
      refine C_false rfl rfl ?_
      have hb1 : n * 64 + x ≤ nb (i + 1) := by
        unfold nb at hnb ⊢
        split at hnb
        · rw [if_neg (by omega), if_pos (by omega)]; omega
        · split at hnb
          · rw [if_neg (by omega), if_neg (by omega), if_pos (by omega)]; omega
          · split at hnb
            · rw [if_neg (by omega), if_neg (by omega), if_neg (by omega)]; omega
            · omega
      have hb2 : nb (i + 1) ≤ 16777215 := by unfold nb; (repeat' split) <;> omega
      repeat (first | refine sc rfl ?_ | refine so rfl ?_ | refine sb rfl ?_)
      rw [show (some x).getD 0 = x from rfl, w64 (x := (n : Int) * 64) (by omega) (by omega), w64 (x := (n : Int) * 64 + (x : Int)) (by omega) (by omega), w64 (by omega) (by omega)]
      repeat (first | refine sc rfl ?_ | refine so rfl ?_ | refine sb rfl ?_)
      refine ⟨(i + 1, n * 64 + x), ⟨by simp only []; omega, by simp only []; omega, hb1, ?_⟩, by simp only []; omega, Le.sub [] ⟨rfl, rfl, congrArg (fun x => some (I64 x)) (by omega), rfl, rfl, rfl, trivial⟩ rfl⟩
      simp only []
      rw [← hrun, hstep]
  · have hlast : runN (l.drop p) (k - 1) 1 n0 = some n := by
      rw [← hrun, show k - i = 0 by omega]; rfl
    rw [hlast]
    repeat (first | refine sc rfl ?_ | refine so rfl ?_ | refine sb rfl ?_)
    refine O_join ⟨[(7, I64 (k : Nat)), (75, B (decide (n < least ∨ 1114112 ≤ n ∨ 55296 ≤ n ∧ n < 57344)))], []⟩ ?_ (fun s h => C_le _ h ?_)
    · have fin : ∀ b : Bool, b = decide (n < least ∨ 1114112 ≤ n ∨ 55296 ≤ n ∧ n < 57344) → some (B b) = some (B (decide (n < least ∨ 1114112 ≤ n ∨ 55296 ≤ n ∧ n < 57344))) := fun b hb => by rw [hb]
      refine O_case 64 rfl (fun h1 => ?_) (fun h1 => ?_) <;> simp at h1
      · repeat (first | refine sc rfl ?_ | refine so rfl ?_ | refine sb rfl ?_)
        exact Le.sub [] ⟨rfl, fin _ (by rw [Bool.eq_iff_iff]; simp; omega), trivial⟩ rfl
      · repeat (first | refine sc rfl ?_ | refine so rfl ?_ | refine sb rfl ?_)
        refine O_case 68 rfl (fun h2 => ?_) (fun h2 => ?_) <;> simp at h2
        · repeat (first | refine sc rfl ?_ | refine so rfl ?_ | refine sb rfl ?_)
          exact Le.sub [] ⟨rfl, fin _ (by rw [Bool.eq_iff_iff]; simp; omega), trivial⟩ rfl
        · repeat (first | refine sc rfl ?_ | refine so rfl ?_ | refine sb rfl ?_)
          refine O_case 71 rfl (fun h3 => ?_) (fun h3 => ?_) <;> simp at h3
          · repeat (first | refine sc rfl ?_ | refine so rfl ?_ | refine sb rfl ?_)
            exact Le.sub [] ⟨rfl, fin _ (by rw [Bool.eq_iff_iff]; simp; omega), trivial⟩ rfl
          · repeat (first | refine sc rfl ?_ | refine so rfl ?_ | refine sb rfl ?_)
            exact Le.sub [] ⟨rfl, fin _ (by rw [Bool.eq_iff_iff]; simp; omega), trivial⟩ rfl
    unfold finN
    refine C_if rfl (fun h => ?_) (fun h => ?_)
    · repeat (first | refine sc rfl ?_ | refine so rfl ?_ | refine sb rfl ?_)
      exact ⟨_, rfl, rfl, by simp only []; rw [if_pos (of_decide_eq_true h)]; rfl⟩
    · repeat (first | refine sc rfl ?_ | refine so rfl ?_ | refine sb rfl ?_)
      exact ⟨_, rfl, rfl, by simp only []; rw [if_neg (of_decide_eq_false h)]⟩
end Go.Proofs
