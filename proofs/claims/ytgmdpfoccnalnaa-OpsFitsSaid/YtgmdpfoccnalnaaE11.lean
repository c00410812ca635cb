/- The law's guard, once more: what it says of declarations. -/
import Derived.Test.YtgmdpfoccnalnaaE10
import Derived.Test.YtgmdpfoccnalnaaE7
import Derived.Test.YtgmdpfoccnalnaaE6
set_option linter.unusedSimpArgs false
set_option linter.unusedVariables false
set_option maxRecDepth 100000
namespace Go.Proofs
open Go.Sy Go.Lib

theorem small_c : ∀ (n : Nat) (t : Ty) (deep : Int), SizeOf.sizeOf t ≤ n → FnP Try.prog 29 [.agg (Ty.c t), I64 deep] (fun r => ∃ g, r = B g ∧ (g = true → FewT t))
  | 0, t, deep, h => by cases t; simp at h
  | n + 1, t, deep, hn => by
    refine FnP.intro Try.tabOK Try.wide_ Try.func29 rfl (by decide) rfl (fun X => ?_)
    repeat (first | refine sc rfl ?_ | refine so rfl ?_ | refine sb rfl ?_)
    refine O_case 8 rfl (fun c1 => ?_) (fun c1 => ?_) <;> simp only [decide_eq_true_eq, decide_eq_false_iff_not, Bool.not_eq_true', Bool.not_eq_false', beq_iff_eq, beq_eq_false_iff_ne, bne_iff_ne, ne_eq, bne_eq_false_iff_eq, Decidable.not_not] at c1
    · repeat (first | refine sc rfl ?_ | refine so rfl ?_ | refine sb rfl ?_)
      refine C_true rfl rfl ?_
      repeat (first | refine sc rfl ?_ | refine so rfl ?_ | refine sb rfl ?_)
      exact ⟨_, rfl, rfl, false, rfl, fun h => by cases h⟩
    repeat (first | refine sc rfl ?_ | refine so rfl ?_ | refine sb rfl ?_)
    refine C_if rfl (fun c2 => ?_) (fun c2 => ?_) <;> simp only [decide_eq_true_eq, decide_eq_false_iff_not, Bool.not_eq_true', Bool.not_eq_false', beq_iff_eq, beq_eq_false_iff_ne, bne_iff_ne, ne_eq, bne_eq_false_iff_eq, Decidable.not_not] at c2
    · repeat (first | refine sc rfl ?_ | refine so rfl ?_ | refine sb rfl ?_)
      exact ⟨_, rfl, rfl, false, rfl, fun h => by cases h⟩
    have hlen : t.of.length ≤ 3 := by omega
    repeat (first | refine sc rfl ?_ | refine so rfl ?_ | refine sb rfl ?_)
    refine C_loop (fun i : Nat => ⟨[(1, I64 deep), (2, .bp 2 0), (5, I64 (i : Nat))], [.box 2 71 (Ty.c t)]⟩) (fun i => i ≤ t.of.length ∧ ∀ j, j < i → FewT (t.of.getD j default)) (fun i => t.of.length - i) 0 ⟨Nat.zero_le _, fun j hj => absurd hj (Nat.not_lt_zero _)⟩ (Le.sub [2] ⟨rfl, rfl, rfl, trivial⟩ rfl) ?_
    rintro i ⟨hi, hall⟩
    repeat (first | refine sc rfl ?_ | refine so rfl ?_ | refine sb rfl ?_)
    refine C_if rfl (fun m1 => ?_) (fun m1 => ?_) <;> simp only [decide_eq_true_eq, decide_eq_false_iff_not, Bool.not_eq_true', Bool.not_eq_false', beq_iff_eq, beq_eq_false_iff_ne, bne_iff_ne, ne_eq, bne_eq_false_iff_eq, Decidable.not_not] at m1
    · have hil : i < t.of.length := by omega
      iterate 7 (first | refine sc rfl ?_ | refine so rfl ?_ | refine sb rfl ?_)
      refine O_le _ (Le.one 22 (SL 3 Ty.c t.of) rfl (.row (Ty.rows_eq _))) ?_
      repeat (first | refine sc rfl ?_ | refine so rfl ?_ | refine sb rfl ?_)
      refine ⟨by omega, ?_⟩
      rw [Int.toNat_natCast]
      repeat (first | refine sc rfl ?_ | refine so rfl ?_ | refine sb rfl ?_)
      refine O_call (small_c n (t.of.getD i default) _ (by have := of_lt hil; omega)) (by rfl) (by rfl) (by rfl) (by rfl) (fun r hr => ?_)
      obtain ⟨g, rfl, hg⟩ := hr
      repeat (first | refine sc rfl ?_ | refine so rfl ?_ | refine sb rfl ?_)
      cases g with
      | true =>
        refine C_false rfl rfl ?_
        repeat (first | refine sc rfl ?_ | refine so rfl ?_ | refine sb rfl ?_)
        rw [w64 (x := (i : Int) + 1) (by omega) (by omega)]
        refine ⟨i + 1, ⟨hil, fun j hj => ?_⟩, by omega, Le.sub [2] ⟨rfl, rfl, rfl, trivial⟩ rfl⟩
        by_cases hji : j < i
        · exact hall j hji
        · obtain rfl : j = i := by omega
          exact hg rfl
      | false =>
        refine C_true rfl rfl ?_
        repeat (first | refine sc rfl ?_ | refine so rfl ?_ | refine sb rfl ?_)
        exact ⟨_, rfl, rfl, false, rfl, fun h => by cases h⟩
    · obtain rfl : i = t.of.length := by omega
      repeat (first | refine sc rfl ?_ | refine so rfl ?_ | refine sb rfl ?_)
      exact ⟨_, rfl, rfl, true, rfl, fun _ => .mk (by omega) hall⟩

/-- What the law's guard lets by. -/
def Lets (l : List Dcl) : Prop := FewL l ∧ ∀ i, i < l.length → (l.getD i default).fields.length ≤ 30

theorem Great_c (l : List Dcl) : FnP Try.prog 13 [SL 5 Dcl.c l] (fun r => ∃ g, r = B g ∧ (g = false → Lets l)) := by
  refine FnP.intro Try.tabOK Try.wide_ Try.func13 rfl (by decide) rfl (fun X => ?_)
  repeat (first | refine sc rfl ?_ | refine so rfl ?_ | refine sb rfl ?_)
  refine C_loop (fun i : Nat => ⟨[(0, SL 5 Dcl.c l), (3, I64 (i : Nat))], []⟩) (fun i => i ≤ l.length ∧ i ≤ 21 ∧ ∀ j, j < i → FewD (l.getD j default) ∧ (l.getD j default).fields.length ≤ 30) (fun i => l.length - i) 0 ⟨Nat.zero_le _, by omega, fun j hj => absurd hj (Nat.not_lt_zero _)⟩ (Le.sub [] ⟨rfl, rfl, trivial⟩ rfl) ?_
  rintro i ⟨hi, hi21, hall⟩
  repeat (first | refine sc rfl ?_ | refine so rfl ?_ | refine sb rfl ?_)
  refine C_if rfl (fun m1 => ?_) (fun m1 => ?_) <;> simp only [decide_eq_true_eq, decide_eq_false_iff_not, Bool.not_eq_true', Bool.not_eq_false', beq_iff_eq, beq_eq_false_iff_ne, bne_iff_ne, ne_eq, bne_eq_false_iff_eq, Decidable.not_not] at m1
  · have hil : i < l.length := by omega
    repeat (first | refine sc rfl ?_ | refine so rfl ?_ | refine sb rfl ?_)
    refine O_case 13 rfl (fun c1 => ?_) (fun c1 => ?_) <;> simp only [decide_eq_true_eq, decide_eq_false_iff_not, Bool.not_eq_true', Bool.not_eq_false', beq_iff_eq, beq_eq_false_iff_ne, bne_iff_ne, ne_eq, bne_eq_false_iff_eq, Decidable.not_not] at c1
    · repeat (first | refine sc rfl ?_ | refine so rfl ?_ | refine sb rfl ?_)
      refine C_true rfl rfl ?_
      repeat (first | refine sc rfl ?_ | refine so rfl ?_ | refine sb rfl ?_)
      exact ⟨_, rfl, rfl, true, rfl, fun h => by cases h⟩
    repeat (first | refine sc rfl ?_ | refine so rfl ?_ | refine sb rfl ?_)
    refine ⟨by omega, ?_⟩
    rw [Int.toNat_natCast]
    repeat (first | refine sc rfl ?_ | refine so rfl ?_ | refine sb rfl ?_)
    refine O_case 22 rfl (fun c2 => ?_) (fun c2 => ?_) <;> simp only [decide_eq_true_eq, decide_eq_false_iff_not, Bool.not_eq_true', Bool.not_eq_false', beq_iff_eq, beq_eq_false_iff_ne, bne_iff_ne, ne_eq, bne_eq_false_iff_eq, Decidable.not_not] at c2
    · repeat (first | refine sc rfl ?_ | refine so rfl ?_ | refine sb rfl ?_)
      refine C_true rfl rfl ?_
      repeat (first | refine sc rfl ?_ | refine so rfl ?_ | refine sb rfl ?_)
      exact ⟨_, rfl, rfl, true, rfl, fun h => by cases h⟩
    repeat (first | refine sc rfl ?_ | refine so rfl ?_ | refine sb rfl ?_)
    refine ⟨by omega, ?_⟩
    rw [Int.toNat_natCast]
    repeat (first | refine sc rfl ?_ | refine so rfl ?_ | refine sb rfl ?_)
    refine C_if rfl (fun c3 => ?_) (fun c3 => ?_) <;> simp only [decide_eq_true_eq, decide_eq_false_iff_not, Bool.not_eq_true', Bool.not_eq_false', beq_iff_eq, beq_eq_false_iff_ne, bne_iff_ne, ne_eq, bne_eq_false_iff_eq, Decidable.not_not] at c3
    · repeat (first | refine sc rfl ?_ | refine so rfl ?_ | refine sb rfl ?_)
      exact ⟨_, rfl, rfl, true, rfl, fun h => by cases h⟩
    have h30 : (l.getD i default).fields.length ≤ 30 := by omega
    have hm30 : (l.getD i default).methods.length ≤ 30 := by omega
    repeat (first | refine sc rfl ?_ | refine so rfl ?_ | refine sb rfl ?_)
    refine C_loop (fun k : Nat => ⟨[(0, SL 5 Dcl.c l), (3, I64 (i : Nat)), (4, I64 (k : Nat))], []⟩) (fun k => k ≤ (l.getD i default).fields.length ∧ ∀ j, j < k → FewT ((l.getD i default).fields.getD j default).ty) (fun k => (l.getD i default).fields.length - k) 0 ⟨Nat.zero_le _, fun j hj => absurd hj (Nat.not_lt_zero _)⟩ (Le.sub [] ⟨rfl, rfl, rfl, trivial⟩ rfl) ?_
    rintro k ⟨hk, hks⟩
    repeat (first | refine sc rfl ?_ | refine so rfl ?_ | refine sb rfl ?_)
    refine ⟨by omega, ?_⟩
    rw [Int.toNat_natCast]
    repeat (first | refine sc rfl ?_ | refine so rfl ?_ | refine sb rfl ?_)
    refine C_if rfl (fun m2 => ?_) (fun m2 => ?_) <;> simp only [decide_eq_true_eq, decide_eq_false_iff_not, Bool.not_eq_true', Bool.not_eq_false', beq_iff_eq, beq_eq_false_iff_ne, bne_iff_ne, ne_eq, bne_eq_false_iff_eq, Decidable.not_not] at m2
    · have hkl : k < (l.getD i default).fields.length := by omega
      repeat (first | refine sc rfl ?_ | refine so rfl ?_ | refine sb rfl ?_)
      refine ⟨by omega, ?_⟩
      rw [Int.toNat_natCast]
      repeat (first | refine sc rfl ?_ | refine so rfl ?_ | refine sb rfl ?_)
      refine ⟨by omega, ?_⟩
      rw [Int.toNat_natCast]
      repeat (first | refine sc rfl ?_ | refine so rfl ?_ | refine sb rfl ?_)
      refine O_call (small_c _ ((l.getD i default).fields.getD k default).ty 0 (Nat.le_refl _)) (by rfl) (by rfl) (by rfl) (by rfl) (fun r hr => ?_)
      obtain ⟨g, rfl, hg⟩ := hr
      repeat (first | refine sc rfl ?_ | refine so rfl ?_ | refine sb rfl ?_)
      cases g with
      | true =>
        refine C_false rfl rfl ?_
        repeat (first | refine sc rfl ?_ | refine so rfl ?_ | refine sb rfl ?_)
        rw [w64 (x := (k : Int) + 1) (by omega) (by omega)]
        refine ⟨k + 1, ⟨hkl, fun j hj => ?_⟩, by omega, Le.sub [] ⟨rfl, rfl, rfl, trivial⟩ rfl⟩
        by_cases hjk : j < k
        · exact hks j hjk
        · obtain rfl : j = k := by omega
          exact hg rfl
      | false =>
        refine C_true rfl rfl ?_
        repeat (first | refine sc rfl ?_ | refine so rfl ?_ | refine sb rfl ?_)
        exact ⟨_, rfl, rfl, true, rfl, fun h => by cases h⟩
    · obtain rfl : k = (l.getD i default).fields.length := by omega
      repeat (first | refine sc rfl ?_ | refine so rfl ?_ | refine sb rfl ?_)
      rw [w64 (x := (i : Int) + 1) (by omega) (by omega)]
      refine ⟨i + 1, ⟨hil, by omega, fun j hj => ?_⟩, by omega, Le.sub [] ⟨rfl, rfl, trivial⟩ rfl⟩
      by_cases hji : j < i
      · exact hall j hji
      · obtain rfl : j = i := by omega
        exact ⟨⟨⟨by omega, hks⟩, by omega⟩, h30⟩
  · obtain rfl : i = l.length := by omega
    repeat (first | refine sc rfl ?_ | refine so rfl ?_ | refine sb rfl ?_)
    exact ⟨_, rfl, rfl, false, rfl, fun _ => ⟨⟨by omega, fun j hj => (hall j hj).1⟩, fun j hj => (hall j hj).2⟩⟩
end Go.Proofs

/- The document's side, by ghost loops: Find, Kind, Field, Row. -/
set_option linter.unusedSimpArgs false
set_option linter.unusedVariables false
set_option maxRecDepth 100000
namespace Go.Proofs
open Go.Sy Go.Lib

def fndZ (nm : List UInt8) (l : List Dcl) : Int := match fndL nm l with
  | none => -1
  | some j => (j : Nat)

theorem fndL_first {nm : List UInt8} : ∀ {l : List Dcl} {i : Nat}, i < l.length → (∀ j, j < i → (l.getD j default).name ≠ nm) → (l.getD i default).name = nm → fndL nm l = some i
  | [], i, h, _, _ => by simp at h
  | d :: l, 0, _, _, h => by simp only [fndL]; rw [if_pos (by simpa using h)]
  | d :: l, i + 1, hi, hall, h => by
    simp only [fndL]
    rw [if_neg (by have := hall 0 (by omega); simpa using this)]
    rw [fndL_first (l := l) (i := i) (by simpa using hi) (fun j hj => by have := hall (j + 1) (by omega); simpa using this) (by simpa using h)]
    rfl
theorem fndL_none {nm : List UInt8} : ∀ {l : List Dcl}, (∀ j, j < l.length → (l.getD j default).name ≠ nm) → fndL nm l = none
  | [], _ => rfl
  | d :: l, hall => by
    simp only [fndL]
    rw [if_neg (by have := hall 0 (by simp); simpa using this), fndL_none (l := l) (fun j hj => by have := hall (j + 1) (by simpa using hj); simpa using this)]
    rfl

theorem FindR_c (l : List Dcl) (hl : l.length ≤ 1000) (nm : List UInt8) : FnP Try.prog 49 [SL 5 Dcl.c l, .s nm] (· = I64 (fndZ nm l)) := by
  refine FnP.intro Try.tabOK Try.wide_ Try.func49 rfl (by decide) rfl (fun X => ?_)
  repeat (first | refine sc rfl ?_ | refine so rfl ?_ | refine sb rfl ?_)
  refine C_loop (fun i : Nat => ⟨[(0, SL 5 Dcl.c l), (1, .s nm), (5, I64 (i : Nat))], []⟩) (fun i => i ≤ l.length ∧ ∀ j, j < i → (l.getD j default).name ≠ nm) (fun i => l.length - i) 0 ⟨Nat.zero_le _, fun j hj => absurd hj (Nat.not_lt_zero _)⟩ (Le.sub [] ⟨rfl, rfl, rfl, trivial⟩ rfl) ?_
  rintro i ⟨hi, hall⟩
  repeat (first | refine sc rfl ?_ | refine so rfl ?_ | refine sb rfl ?_)
  refine C_if rfl (fun m1 => ?_) (fun m1 => ?_) <;> simp only [decide_eq_true_eq, decide_eq_false_iff_not, Bool.not_eq_true', Bool.not_eq_false', beq_iff_eq, beq_eq_false_iff_ne, bne_iff_ne, ne_eq, bne_eq_false_iff_eq, Decidable.not_not] at m1
  · have hil : i < l.length := by omega
    repeat (first | refine sc rfl ?_ | refine so rfl ?_ | refine sb rfl ?_)
    refine ⟨by omega, ?_⟩
    rw [Int.toNat_natCast]
    repeat (first | refine sc rfl ?_ | refine so rfl ?_ | refine sb rfl ?_)
    refine C_if rfl (fun m2 => ?_) (fun m2 => ?_) <;> simp only [decide_eq_true_eq, decide_eq_false_iff_not, Bool.not_eq_true', Bool.not_eq_false', beq_iff_eq, beq_eq_false_iff_ne, bne_iff_ne, ne_eq, bne_eq_false_iff_eq, Decidable.not_not] at m2
    · repeat (first | refine sc rfl ?_ | refine so rfl ?_ | refine sb rfl ?_)
      exact ⟨_, rfl, rfl, by rw [fndZ, fndL_first hil hall m2]⟩
    · repeat (first | refine sc rfl ?_ | refine so rfl ?_ | refine sb rfl ?_)
      rw [w64 (x := (i : Int) + 1) (by omega) (by omega)]
      refine ⟨i + 1, ⟨hil, fun j hj => ?_⟩, by omega, Le.sub [] ⟨rfl, rfl, rfl, trivial⟩ rfl⟩
      by_cases hji : j < i
      · exact hall j hji
      · obtain rfl : j = i := by omega
        exact m2
  · obtain rfl : i = l.length := by omega
    repeat (first | refine sc rfl ?_ | refine so rfl ?_ | refine sb rfl ?_)
    exact ⟨_, rfl, rfl, by rw [fndZ, fndL_none hall]⟩

theorem KindR_c (l : List Dcl) (hl : l.length ≤ 1000) (nm : List UInt8) : FnP Try.prog 37 [SL 5 Dcl.c l, .s nm] (· = I64 (kindL l nm)) := by
  refine FnP.intro Try.tabOK Try.wide_ Try.func37 rfl (by decide) rfl (fun X => ?_)
  repeat (first | refine sc rfl ?_ | refine so rfl ?_ | refine sb rfl ?_)
  refine O_call (FindR_c l hl nm) (by rfl) (by rfl) (by rfl) (by rfl) (fun r hr => ?_)
  subst hr
  repeat (first | refine sc rfl ?_ | refine so rfl ?_ | refine sb rfl ?_)
  cases hf : fndL nm l with
  | none =>
    refine C_true rfl (by simp [fndZ, hf]) ?_
    repeat (first | refine sc rfl ?_ | refine so rfl ?_ | refine sb rfl ?_)
    exact ⟨_, rfl, rfl, by simp [kindL, hf]⟩
  | some j =>
    have hj := fndL_lt hf
    have hz : fndZ nm l = (j : Nat) := by simp [fndZ, hf]
    rw [hz]
    refine C_false rfl (by simp) ?_
    repeat (first | refine sc rfl ?_ | refine so rfl ?_ | refine sb rfl ?_)
    refine ⟨by omega, ?_⟩
    rw [Int.toNat_natCast]
    repeat (first | refine sc rfl ?_ | refine so rfl ?_ | refine sb rfl ?_)
    exact ⟨_, rfl, rfl, by simp [kindL, hf]⟩

/-- A tag's first place. -/
def tagZ (tag : Int) : List Fld → Option Nat
  | [] => none
  | f :: F => if f.tag = tag then some 0 else (tagZ tag F).map (· + 1)
theorem tagZ_first {tag : Int} : ∀ {F : List Fld} {i : Nat}, i < F.length → (∀ j, j < i → (F.getD j default).tag ≠ tag) → (F.getD i default).tag = tag → tagZ tag F = some i
  | [], i, h, _, _ => by simp at h
  | d :: l, 0, _, _, h => by simp only [tagZ]; rw [if_pos (by simpa using h)]
  | d :: l, i + 1, hi, hall, h => by
    simp only [tagZ]
    rw [if_neg (by have := hall 0 (by omega); simpa using this)]
    rw [tagZ_first (F := l) (i := i) (by simpa using hi) (fun j hj => by have := hall (j + 1) (by omega); simpa using this) (by simpa using h)]
    rfl
theorem tagZ_none {tag : Int} : ∀ {F : List Fld}, (∀ j, j < F.length → (F.getD j default).tag ≠ tag) → tagZ tag F = none
  | [], _ => rfl
  | d :: l, hall => by
    simp only [tagZ]
    rw [if_neg (by have := hall 0 (by simp); simpa using this), tagZ_none (F := l) (fun j hj => by have := hall (j + 1) (by simpa using hj); simpa using this)]
    rfl

theorem FieldR_c (d : Dcl) (hF : d.fields.length ≤ 1000) (tag : Int) : FnP Try.prog 67 [.agg (Dcl.c d), I64 tag] (· = I64 (match tagZ tag d.fields with | none => -1 | some j => (j : Nat))) := by
  refine FnP.intro Try.tabOK Try.wide_ Try.func67 rfl (by decide) rfl (fun X => ?_)
  repeat (first | refine sc rfl ?_ | refine so rfl ?_ | refine sb rfl ?_)
  refine C_loop (fun i : Nat => ⟨[(1, I64 tag), (2, .bp 2 0), (5, I64 (i : Nat))], [.box 2 68 (Dcl.c d)]⟩) (fun i => i ≤ d.fields.length ∧ ∀ j, j < i → (d.fields.getD j default).tag ≠ tag) (fun i => d.fields.length - i) 0 ⟨Nat.zero_le _, fun j hj => absurd hj (Nat.not_lt_zero _)⟩ (Le.sub [2] ⟨rfl, rfl, rfl, trivial⟩ rfl) ?_
  rintro i ⟨hi, hall⟩
  repeat (first | refine sc rfl ?_ | refine so rfl ?_ | refine sb rfl ?_)
  refine C_if rfl (fun m1 => ?_) (fun m1 => ?_) <;> simp only [decide_eq_true_eq, decide_eq_false_iff_not, Bool.not_eq_true', Bool.not_eq_false', beq_iff_eq, beq_eq_false_iff_ne, bne_iff_ne, ne_eq, bne_eq_false_iff_eq, Decidable.not_not] at m1
  · have hil : i < d.fields.length := by omega
    repeat (first | refine sc rfl ?_ | refine so rfl ?_ | refine sb rfl ?_)
    refine ⟨by omega, ?_⟩
    rw [Int.toNat_natCast]
    repeat (first | refine sc rfl ?_ | refine so rfl ?_ | refine sb rfl ?_)
    refine C_if rfl (fun m2 => ?_) (fun m2 => ?_) <;> simp only [decide_eq_true_eq, decide_eq_false_iff_not, Bool.not_eq_true', Bool.not_eq_false', beq_iff_eq, beq_eq_false_iff_ne, bne_iff_ne, ne_eq, bne_eq_false_iff_eq, Decidable.not_not] at m2
    · repeat (first | refine sc rfl ?_ | refine so rfl ?_ | refine sb rfl ?_)
      exact ⟨_, rfl, rfl, by rw [tagZ_first hil hall m2]⟩
    · repeat (first | refine sc rfl ?_ | refine so rfl ?_ | refine sb rfl ?_)
      rw [w64 (x := (i : Int) + 1) (by omega) (by omega)]
      refine ⟨i + 1, ⟨hil, fun j hj => ?_⟩, by omega, Le.sub [2] ⟨rfl, rfl, rfl, trivial⟩ rfl⟩
      by_cases hji : j < i
      · exact hall j hji
      · obtain rfl : j = i := by omega
        exact m2
  · obtain rfl : i = d.fields.length := by omega
    repeat (first | refine sc rfl ?_ | refine so rfl ?_ | refine sb rfl ?_)
    exact ⟨_, rfl, rfl, by rw [tagZ_none hall]⟩
end Go.Proofs

/- The document's side, by ghost loops: Row; the lists of types. -/
set_option linter.unusedSimpArgs false
set_option linter.unusedVariables false
set_option maxRecDepth 100000
namespace Go.Proofs
open Go.Sy Go.Lib

/-- The fields that a name's declaration has. -/
def fldsL (l : List Dcl) (nm : List UInt8) : List Fld := match fndL nm l with
  | none => []
  | some j => (l.getD j default).fields

def rowZ (l : List Dcl) (nm : List UInt8) (tag : Int) : Option Fld := (tagZ tag (fldsL l nm)).map fun j => (fldsL l nm).getD j default
theorem tagZ_lt {tag : Int} : ∀ {F : List Fld} {j : Nat}, tagZ tag F = some j → j < F.length
  | [], j, h => by simp [tagZ] at h
  | d :: l, j, h => by
    simp only [tagZ] at h
    split at h
    · cases h; simp
    · obtain ⟨i, hi, rfl⟩ := Option.map_eq_some_iff.1 h
      have := tagZ_lt hi
      simp; omega

theorem RowR_c (l : List Dcl) (hl : FewL l) (nm : List UInt8) (tag : Int) : FnP Try.prog 50 [SL 5 Dcl.c l, .s nm, I64 tag] (fun r => (rowZ l nm tag = none ∧ r = .tup [.agg [I64 0, .s [], I64 0, .s [], .v (.slice none 0 0)], B false]) ∨ ∃ f, rowZ l nm tag = some f ∧ r = .tup [.agg (Fld.c f), B true]) := by
  refine FnP.intro Try.tabOK Try.wide_ Try.func50 rfl (by decide) rfl (fun X => ?_)
  repeat (first | refine sc rfl ?_ | refine so rfl ?_ | refine sb rfl ?_)
  refine O_call (FindR_c l hl.1 nm) (by rfl) (by rfl) (by rfl) (by rfl) (fun r hr => ?_)
  subst hr
  repeat (first | refine sc rfl ?_ | refine so rfl ?_ | refine sb rfl ?_)
  cases hf : fndL nm l with
  | none =>
    refine C_true rfl (by simp [fndZ, hf]) ?_
    repeat (first | refine sc rfl ?_ | refine so rfl ?_ | refine sb rfl ?_)
    exact ⟨_, rfl, rfl, .inl ⟨by simp [rowZ, fldsL, hf, tagZ], rfl⟩⟩
  | some j =>
    have hj := fndL_lt hf
    have hz : fndZ nm l = (j : Nat) := by simp [fndZ, hf]
    rw [hz]
    refine C_false rfl (by simp) ?_
    repeat (first | refine sc rfl ?_ | refine so rfl ?_ | refine sb rfl ?_)
    refine ⟨by omega, ?_⟩
    rw [Int.toNat_natCast]
    repeat (first | refine sc rfl ?_ | refine so rfl ?_ | refine sb rfl ?_)
    refine O_call (FieldR_c (l.getD j default) (hl.2 j hj).f.1 tag) (by rfl) (by rfl) (by rfl) (by rfl) (fun r hr => ?_)
    subst hr
    repeat (first | refine sc rfl ?_ | refine so rfl ?_ | refine sb rfl ?_)
    have hfl : fldsL l nm = (l.getD j default).fields := by simp [fldsL, hf]
    cases ht : tagZ tag (l.getD j default).fields with
    | none =>
      simp only []
      refine C_true rfl rfl ?_
      repeat (first | refine sc rfl ?_ | refine so rfl ?_ | refine sb rfl ?_)
      exact ⟨_, rfl, rfl, .inl ⟨by rw [rowZ, hfl, ht]; rfl, rfl⟩⟩
    | some k =>
      have hk := tagZ_lt ht
      simp only []
      refine C_false rfl (by simp) ?_
      repeat (first | refine sc rfl ?_ | refine so rfl ?_ | refine sb rfl ?_)
      refine ⟨by omega, ?_⟩
      rw [Int.toNat_natCast]
      repeat (first | refine sc rfl ?_ | refine so rfl ?_ | refine sb rfl ?_)
      refine ⟨by omega, ?_⟩
      rw [Int.toNat_natCast]
      repeat (first | refine sc rfl ?_ | refine so rfl ?_ | refine sb rfl ?_)
      exact ⟨_, rfl, rfl, .inr ⟨_, by simp only [rowZ, hfl, ht, Option.map_some], rfl⟩⟩
end Go.Proofs

/- The document's types of an operation are those of its letters. -/
set_option linter.unusedSimpArgs false
set_option linter.unusedVariables false
set_option maxRecDepth 100000
namespace Go.Proofs
open Go.Sy Go.Lib

theorem tys0 : TypesR_F [] = some [] := by
  unfold TypesR_F; rw [Iter_iff.2 ⟨5, rfl⟩]; rfl
theorem tys1 : TypesR_F [1] = some [⟨4, [], []⟩] := by
  unfold TypesR_F; rw [Iter_iff.2 ⟨5, rfl⟩]; rfl
theorem tys11 : TypesR_F [1, 1] = some [⟨4, [], []⟩, ⟨4, [], []⟩] := by
  unfold TypesR_F; rw [Iter_iff.2 ⟨5, rfl⟩]; rfl
theorem tys12 : TypesR_F [1, 2] = some [⟨4, [], []⟩, ⟨2, [], []⟩] := by
  unfold TypesR_F; rw [Iter_iff.2 ⟨5, rfl⟩]; rfl
theorem tys113 : TypesR_F [1, 1, 3] = some [⟨4, [], []⟩, ⟨4, [], []⟩, ⟨3, [], []⟩] := by
  unfold TypesR_F; rw [Iter_iff.2 ⟨5, rfl⟩]; rfl
theorem tys5 : TypesR_F [5] = some [⟨9, [], [⟨4, [], []⟩]⟩] := by
  unfold TypesR_F; rw [Iter_iff.2 ⟨5, rfl⟩]; rfl
theorem tys4 : TypesR_F [4] = some [⟨1, [], []⟩] := by
  unfold TypesR_F; rw [Iter_iff.2 ⟨5, rfl⟩]; rfl
theorem tys2 : TypesR_F [2] = some [⟨2, [], []⟩] := by
  unfold TypesR_F; rw [Iter_iff.2 ⟨5, rfl⟩]; rfl

theorem inTypes (op : Int) : ∃ L, InR_F op = some L ∧ TypesR_F L = some (inT op) := by
  unfold inT rowO Row_F InR_F
  cases hb : (op == 1) <;> cases hb6 : (op == 6) <;> cases hb2 : (op == 2) <;> cases hb5 : (op == 5) <;> cases hb3 : (op == 3) <;> cases hb4 : (op == 4) <;> cases hb7 : (op == 7) <;> cases hb8 : (op == 8) <;>
    first
      | exact ⟨_, rfl, tys0⟩
      | exact ⟨_, rfl, tys1⟩
      | exact ⟨_, rfl, tys11⟩
      | exact ⟨_, rfl, tys12⟩
      | exact ⟨_, rfl, tys113⟩
      | (exfalso; simp only [beq_iff_eq, beq_eq_false_iff_ne] at *; omega)
theorem outTypes (op : Int) : ∃ L, OutR_F op = some L ∧ TypesR_F L = some (outT op) := by
  unfold outT rowO Row_F OutR_F
  cases hb : (op == 1) <;> cases hb6 : (op == 6) <;> cases hb2 : (op == 2) <;> cases hb5 : (op == 5) <;> cases hb3 : (op == 3) <;> cases hb4 : (op == 4) <;> cases hb7 : (op == 7) <;> cases hb8 : (op == 8) <;>
    first
      | exact ⟨_, rfl, tys0⟩
      | exact ⟨_, rfl, tys5⟩
      | exact ⟨_, rfl, tys4⟩
      | exact ⟨_, rfl, tys2⟩
      | (exfalso; simp only [beq_iff_eq, beq_eq_false_iff_ne] at *; omega)
end Go.Proofs

/- The document's side: which types are the same. -/
set_option linter.unusedSimpArgs false
set_option linter.unusedVariables false
set_option maxRecDepth 100000
namespace Go.Proofs
open Go.Sy Go.Lib

noncomputable def sameT (a b : Ty) : Bool := @decide (a = b) (Classical.propDecidable _)
theorem sameT_true {a b : Ty} : sameT a b = true ↔ a = b := by unfold sameT; simp
theorem sameT_false {a b : Ty} : sameT a b = false ↔ a ≠ b := by unfold sameT; simp

theorem ty_ext {a b : Ty} (h1 : a.kind = b.kind) (h2 : a.name = b.name) (h3 : a.of.length = b.of.length) (h4 : ∀ i, i < a.of.length → a.of.getD i default = b.of.getD i default) : a = b := by
  obtain ⟨k1, n1, o1⟩ := a
  obtain ⟨k2, n2, o2⟩ := b
  simp only [] at h1 h2 h3 h4
  subst h1 h2
  congr 1
  apply List.ext_getElem h3
  intro i hi1 hi2
  have := h4 i hi1
  rwa [getD_at hi1, getD_at hi2] at this

theorem SameT_c : ∀ (n : Nat) (a b : Ty), SizeOf.sizeOf a ≤ n → FewT a → FnP Try.prog 33 [.agg (Ty.c a), .agg (Ty.c b)] (· = B (sameT a b))
  | 0, a, b, h, _ => by cases a; simp at h
  | n + 1, a, b, hn, ⟨hlen, hsub⟩ => by
    refine FnP.intro Try.tabOK Try.wide_ Try.func33 rfl (by decide) rfl (fun X => ?_)
    have hrec : ∀ i, i < a.of.length → FnP Try.prog 33 [.agg (Ty.c (a.of.getD i default)), .agg (Ty.c (b.of.getD i default))] (· = B (sameT (a.of.getD i default) (b.of.getD i default))) := fun i hi => SameT_c n _ _ (by have := of_lt hi; omega) (hsub i hi)
    repeat (first | refine sc rfl ?_ | refine so rfl ?_ | refine sb rfl ?_)
    refine O_case 11 rfl (fun c1 => ?_) (fun c1 => ?_) <;> simp only [decide_eq_true_eq, decide_eq_false_iff_not, Bool.not_eq_true', Bool.not_eq_false', beq_iff_eq, beq_eq_false_iff_ne, bne_iff_ne, ne_eq, bne_eq_false_iff_eq, Decidable.not_not] at c1
    · repeat (first | refine sc rfl ?_ | refine so rfl ?_ | refine sb rfl ?_)
      refine C_true rfl rfl ?_
      repeat (first | refine sc rfl ?_ | refine so rfl ?_ | refine sb rfl ?_)
      exact ⟨_, rfl, rfl, by rw [sameT_false.2 (fun h => c1 (by rw [h]))]⟩
    repeat (first | refine sc rfl ?_ | refine so rfl ?_ | refine sb rfl ?_)
    refine O_case 18 rfl (fun c2 => ?_) (fun c2 => ?_) <;> simp only [decide_eq_true_eq, decide_eq_false_iff_not, Bool.not_eq_true', Bool.not_eq_false', beq_iff_eq, beq_eq_false_iff_ne, bne_iff_ne, ne_eq, bne_eq_false_iff_eq, Decidable.not_not] at c2
    · repeat (first | refine sc rfl ?_ | refine so rfl ?_ | refine sb rfl ?_)
      refine C_true rfl rfl ?_
      repeat (first | refine sc rfl ?_ | refine so rfl ?_ | refine sb rfl ?_)
      exact ⟨_, rfl, rfl, by rw [sameT_false.2 (fun h => c2 (by rw [h]))]⟩
    repeat (first | refine sc rfl ?_ | refine so rfl ?_ | refine sb rfl ?_)
    refine C_if rfl (fun c3 => ?_) (fun c3 => ?_) <;> simp only [decide_eq_true_eq, decide_eq_false_iff_not, Bool.not_eq_true', Bool.not_eq_false', beq_iff_eq, beq_eq_false_iff_ne, bne_iff_ne, ne_eq, bne_eq_false_iff_eq, Decidable.not_not] at c3
    · repeat (first | refine sc rfl ?_ | refine so rfl ?_ | refine sb rfl ?_)
      exact ⟨_, rfl, rfl, by rw [sameT_false.2 (fun h => c3 (by rw [h]))]⟩
    have hl : a.of.length = b.of.length := by omega
    repeat (first | refine sc rfl ?_ | refine so rfl ?_ | refine sb rfl ?_)
    refine C_loop (fun i : Nat => ⟨[(2, .bp 2 0), (3, .bp 3 0), (5, I64 (i : Nat))], [.box 2 71 (Ty.c a), .box 3 71 (Ty.c b)]⟩) (fun i => i ≤ a.of.length ∧ ∀ j, j < i → a.of.getD j default = b.of.getD j default) (fun i => a.of.length - i) 0 ⟨Nat.zero_le _, fun j hj => absurd hj (Nat.not_lt_zero _)⟩ (Le.sub [2, 3] ⟨rfl, rfl, rfl, trivial⟩ rfl) ?_
    rintro i ⟨hi, hall⟩
    repeat (first | refine sc rfl ?_ | refine so rfl ?_ | refine sb rfl ?_)
    refine C_if rfl (fun m1 => ?_) (fun m1 => ?_) <;> simp only [decide_eq_true_eq, decide_eq_false_iff_not, Bool.not_eq_true', Bool.not_eq_false', beq_iff_eq, beq_eq_false_iff_ne, bne_iff_ne, ne_eq, bne_eq_false_iff_eq, Decidable.not_not] at m1
    · have hil : i < a.of.length := by omega
      repeat (first | refine sc rfl ?_ | refine so rfl ?_ | refine sb rfl ?_)
      refine C_drawD rfl (by kernel_rfl) ?_
      refine sd rfl ?_
      refine sdw (SL 3 Ty.c a.of) rfl rfl rfl (.row (Ty.rows_eq _)) ?_
      refine sd rfl ?_
      refine sd rfl ⟨by omega, ?_⟩
      rw [Int.toNat_natCast]
      refine sd rfl ?_
      refine sd rfl ?_
      refine sdw (SL 3 Ty.c b.of) rfl rfl rfl (.row (Ty.rows_eq _)) ?_
      refine sd rfl ?_
      refine sd rfl ⟨by omega, ?_⟩
      rw [Int.toNat_natCast]
      refine sd rfl ?_
      refine D_call (hrec i hil) rfl rfl rfl rfl ?_
      repeat (first | refine sd rfl ?_ | refine sdb rfl ?_ | refine sds rfl ?_)
      repeat (first | refine sc rfl ?_ | refine so rfl ?_ | refine sb rfl ?_)
      cases hs : sameT (a.of.getD i default) (b.of.getD i default) with
      | true =>
        refine C_false rfl rfl ?_
        repeat (first | refine sc rfl ?_ | refine so rfl ?_ | refine sb rfl ?_)
        rw [w64 (x := (i : Int) + 1) (by omega) (by omega)]
        refine ⟨i + 1, ⟨hil, fun j hj => ?_⟩, by omega, Le.sub [2, 3] ⟨rfl, rfl, rfl, trivial⟩ rfl⟩
        by_cases hji : j < i
        · exact hall j hji
        · obtain rfl : j = i := by omega
          exact sameT_true.1 hs
      | false =>
        refine C_true rfl rfl ?_
        repeat (first | refine sc rfl ?_ | refine so rfl ?_ | refine sb rfl ?_)
        exact ⟨_, rfl, rfl, by rw [sameT_false.2 (fun h => (sameT_false.1 hs) (by rw [h]))]⟩
    · obtain rfl : i = a.of.length := by omega
      repeat (first | refine sc rfl ?_ | refine so rfl ?_ | refine sb rfl ?_)
      exact ⟨_, rfl, rfl, by rw [sameT_true.2 (ty_ext c1 c2 hl hall)]⟩
end Go.Proofs

/- The law's comparison of lists of types. -/
set_option linter.unusedSimpArgs false
set_option linter.unusedVariables false
set_option maxRecDepth 100000
namespace Go.Proofs
open Go.Sy Go.Lib

theorem sameTys_c (A : List Ty) (hA : A.length ≤ 1000) (hf : ∀ i, i < A.length → FewT (A.getD i default)) : FnP Try.prog 17 [SL 3 Ty.c A, SL 3 Ty.c A] (· = B true) := by
  refine FnP.intro Try.tabOK Try.wide_ Try.func17 rfl (by decide) rfl (fun X => ?_)
  repeat (first | refine sc rfl ?_ | refine so rfl ?_ | refine sb rfl ?_)
  refine C_false rfl (by simp) ?_
  repeat (first | refine sc rfl ?_ | refine so rfl ?_ | refine sb rfl ?_)
  refine C_loop (fun i : Nat => ⟨[(0, SL 3 Ty.c A), (1, SL 3 Ty.c A), (5, I64 (i : Nat))], []⟩) (fun i => i ≤ A.length) (fun i => A.length - i) 0 (Nat.zero_le _) (Le.sub [] ⟨rfl, rfl, rfl, trivial⟩ rfl) ?_
  intro i hi
  repeat (first | refine sc rfl ?_ | refine so rfl ?_ | refine sb rfl ?_)
  refine C_if rfl (fun m1 => ?_) (fun m1 => ?_) <;> simp only [decide_eq_true_eq, decide_eq_false_iff_not, Bool.not_eq_true', Bool.not_eq_false', beq_iff_eq, beq_eq_false_iff_ne, bne_iff_ne, ne_eq, bne_eq_false_iff_eq, Decidable.not_not] at m1
  · have hil : i < A.length := by omega
    repeat (first | refine sc rfl ?_ | refine so rfl ?_ | refine sb rfl ?_)
    refine C_drawD rfl (by kernel_rfl) ?_
    refine sd rfl ?_
    refine sd rfl ?_
    refine sd rfl ⟨by omega, ?_⟩
    rw [Int.toNat_natCast]
    refine sd rfl ?_
    refine sd rfl ?_
    refine sd rfl ?_
    refine sd rfl ⟨by omega, ?_⟩
    rw [Int.toNat_natCast]
    refine sd rfl ?_
    refine D_call (SameT_c _ (A.getD i default) (A.getD i default) (Nat.le_refl _) (hf i hil)) rfl rfl rfl rfl ?_
    rw [sameT_true.2 rfl]
    repeat (first | refine sd rfl ?_ | refine sdb rfl ?_ | refine sds rfl ?_)
    repeat (first | refine sc rfl ?_ | refine so rfl ?_ | refine sb rfl ?_)
    refine C_false rfl rfl ?_
    repeat (first | refine sc rfl ?_ | refine so rfl ?_ | refine sb rfl ?_)
    rw [w64 (x := (i : Int) + 1) (by omega) (by omega)]
    exact ⟨i + 1, hil, by omega, Le.sub [] ⟨rfl, rfl, rfl, trivial⟩ rfl⟩
  · repeat (first | refine sc rfl ?_ | refine so rfl ?_ | refine sb rfl ?_)
    exact ⟨_, rfl, rfl, rfl⟩

theorem letterT_few (c : UInt8) : FewT (letterT c) := by
  unfold letterT Letter_F
  cases hb : ((c.toNat : Int) == 116) <;> cases hb2 : ((c.toNat : Int) == 105) <;> cases hb3 : ((c.toNat : Int) == 117) <;> cases hb4 : ((c.toNat : Int) == 98) <;>
    first
      | exact .mk (by decide) (fun i hi => absurd hi (Nat.not_lt_zero _))
      | exact .mk (by decide) (fun i hi => by
          have h0 : i = 0 := by have : i < 1 := hi; omega
          subst h0
          exact .mk (by decide) (fun j hj => absurd hj (Nat.not_lt_zero _)))
theorem letters_few (s : List UInt8) : ∀ i, i < (s.map letterT).length → FewT ((s.map letterT).getD i default) := fun i hi => by
  rw [getD_at hi, List.getElem_map]; exact letterT_few _
end Go.Proofs

/- The document's side: the rows of a name, in order; plain laws of iterations. -/
set_option linter.unusedSimpArgs false
set_option linter.unusedVariables false
set_option maxRecDepth 100000
namespace Go.Proofs
open Go.Sy Go.Lib

theorem Iter_rule {S R : Type} {body : S → Option (S ⊕ R)} (I : S → Prop) (m : S → Nat) (Q : R → Prop)
    (h : ∀ s, I s → (∃ s', body s = some (.inl s') ∧ I s' ∧ m s' < m s) ∨ ∃ r, body s = some (.inr r) ∧ Q r) (s : S) (hs : I s) : ∃ r, Iter body s = some r ∧ Q r := by
  suffices H : ∀ n s, m s < n → I s → ∃ r, Iter body s = some r ∧ Q r from H (m s + 1) s (Nat.lt_succ_self _) hs
  intro n
  induction n with
  | zero => intro s h0; omega
  | succ n ih =>
    intro s hn hs
    rcases h s hs with ⟨s', h1, h2, h3⟩ | ⟨r, h1, h2⟩
    · obtain ⟨r, h4, h5⟩ := ih s' (by omega) h2
      exact ⟨r, by rw [Iter_next h1]; exact h4, h5⟩
    · exact ⟨r, Iter_end h1, h2⟩

theorem cDT {α : Type} {p : Prop} [Decidable p] {x y : α} (h : p) : cond (decide p) x y = x := by rw [decide_eq_true h]; rfl
theorem cDF {α : Type} {p : Prop} [Decidable p] {x y : α} (h : ¬ p) : cond (decide p) x y = y := by rw [decide_eq_false h]; rfl

theorem Find_tot (l : List Dcl) (hl : l.length ≤ 1000) (nm : List UInt8) : Find_F l nm = some (fndZ nm l) := by
  unfold Find_F
  obtain ⟨r, h1, h2⟩ := Iter_rule (body := Find_L1 l nm) (fun s => 0 ≤ s ∧ s ≤ l.length ∧ ∀ j : Nat, (j : Int) < s → (l.getD j default).name ≠ nm) (fun s => l.length - s.toNat)
    (fun r => (∃ i : Nat, r = .inl (i : Int) ∧ fndL nm l = some i) ∨ (r = .inr () ∧ fndL nm l = none))
    (fun s hs => by
      obtain ⟨g1, g2, g3⟩ := hs
      unfold Find_L1
      by_cases c1 : s < (l.length : Int)
      · rw [cDT c1, chk_pos ⟨g1, c1⟩]
        by_cases c2 : (l.getD (Int.toNat s) default).name = nm
        · refine .inr ⟨.inl s, by rw [show ((l.getD (Int.toNat s) default).name == nm) = true from beq_iff_eq.2 c2]; rfl, .inl ⟨s.toNat, by congr 1; omega, fndL_first (by omega) (fun j hj => g3 j (by omega)) c2⟩⟩
        · refine .inl ⟨IntKind.i64.wrap (s + 1), by rw [show ((l.getD (Int.toNat s) default).name == nm) = false from beq_eq_false_iff_ne.2 c2]; rfl, ?_, ?_⟩
          · rw [w64 (by omega) (by omega)]
            refine ⟨by omega, by omega, fun j hj => ?_⟩
            by_cases hjs : (j : Int) < s
            · exact g3 j hjs
            · have : j = s.toNat := by omega
              subst this; exact c2
          · rw [w64 (by omega) (by omega)]; omega
      · rw [cDF c1]
        exact .inr ⟨.inr (), rfl, .inr ⟨rfl, fndL_none (fun j hj => g3 j (by omega))⟩⟩)
    0 ⟨by omega, by omega, fun j hj => by omega⟩
  rw [h1]
  rcases h2 with ⟨i, rfl, h3⟩ | ⟨rfl, h3⟩
  · simp [fndZ, h3]
  · simp [fndZ, h3]

/-- What the document's rows of fields are. -/
structure RowsZ (F R : List Fld) : Prop where
  sub : ∀ x ∈ R, x ∈ F
  srt : R.Pairwise (fun a b => a.tag < b.tag)
  all : ∀ x ∈ F, 0 ≤ x.tag → ∃ y ∈ R, y.tag = x.tag

theorem pigeon : ∀ {A B : List Int}, A.Nodup → (∀ x ∈ A, x ∈ B) → A.length = B.length → ∀ x ∈ B, x ∈ A
  | [], B, _, _, h, x, hx => by
    have : B = [] := List.length_eq_zero_iff.1 (by simpa using h.symm)
    subst this; cases hx
  | a :: A, B, hn, hs, h, x, hx => by
    obtain ⟨hn1, hn2⟩ := List.nodup_cons.1 hn
    have ha : a ∈ B := hs a (by simp)
    have hle : (B.erase a).length = B.length - 1 := List.length_erase_of_mem ha
    have hpos : 0 < B.length := List.length_pos_of_mem ha
    have hl2 : A.length = (B.erase a).length := by simp only [List.length_cons] at h; omega
    by_cases hxa : x = a
    · subst hxa; simp
    · have := pigeon hn2 (B := B.erase a) (fun y hy => (List.mem_erase_of_ne (fun e : y = a => hn1 (e ▸ hy))).2 (hs y (by simp [hy]))) hl2 x ((List.mem_erase_of_ne hxa).2 hx)
      simp [this]

theorem nodup_len : ∀ {A B : List Int}, A.Nodup → (∀ x ∈ A, x ∈ B) → A.length ≤ B.length
  | [], B, _, _ => Nat.zero_le _
  | a :: A, B, hn, hs => by
    obtain ⟨hn1, hn2⟩ := List.nodup_cons.1 hn
    have ha : a ∈ B := hs a (by simp)
    have hle : (B.erase a).length = B.length - 1 := List.length_erase_of_mem ha
    have hpos : 0 < B.length := List.length_pos_of_mem ha
    have := nodup_len hn2 (B := B.erase a) (fun y hy => (List.mem_erase_of_ne (fun e : y = a => hn1 (e ▸ hy))).2 (hs y (by simp [hy])))
    simp only [List.length_cons]; omega

theorem pw_nodup {R : List Fld} (h : R.Pairwise (fun a b => a.tag < b.tag)) : (R.map (·.tag)).Nodup := by
  rw [List.Nodup, List.pairwise_map]
  exact h.imp (fun hab e => by omega)

theorem rows_done {F R : List Fld} (h1 : ∀ x ∈ R, x ∈ F) (h2 : R.Pairwise (fun a b => a.tag < b.tag)) (h3 : R.length = F.length) : RowsZ F R :=
  ⟨h1, h2, fun x hx _ => by
    have := pigeon (pw_nodup h2) (B := F.map (·.tag)) (fun t ht => by
      obtain ⟨y, hy, rfl⟩ := List.mem_map.1 ht
      exact List.mem_map.2 ⟨y, h1 y hy, rfl⟩) (by rw [List.length_map, List.length_map, h3]) x.tag (List.mem_map.2 ⟨x, hx, rfl⟩)
    obtain ⟨y, hy, e⟩ := List.mem_map.1 this
    exact ⟨y, hy, e⟩⟩

theorem mem_getD {α : Type} [Inhabited α] {l : List α} {i : Nat} (h : i < l.length) : l.getD i default ∈ l := by
  rw [getD_at h]; exact List.getElem_mem h
theorem getD_mem {α : Type} [Inhabited α] {l : List α} {x : α} (h : x ∈ l) : ∃ i, i < l.length ∧ l.getD i default = x := by
  obtain ⟨i, hi, rfl⟩ := List.mem_iff_getElem.1 h
  exact ⟨i, hi, getD_at hi⟩

theorem Fld.eta (f : Fld) : (⟨f.tag, f.name, f.ty⟩ : Fld) = f := rfl

section
variable {l : List Dcl} {nm : List UInt8} {j : Nat} {F : List Fld}

theorem rows_L13 (hj : j < l.length) (hF : (l.getD j default).fields = F) (hFl : F.length ≤ 1000) (last : Int) (R : List Fld) :
    ∃ r, Iter (RowsR_L13 l nm (j : Nat) (last, R)) (-1, 0) = some r ∧ ((r = -1 ∧ ∀ i, i < F.length → (F.getD i default).tag ≤ last) ∨
      (∃ k : Nat, r = (k : Int) ∧ k < F.length ∧ last < (F.getD k default).tag ∧ ∀ i, i < F.length → last < (F.getD i default).tag → (F.getD k default).tag ≤ (F.getD i default).tag)) := by
  have hj2 : (0 : Int) ≤ (j : Int) ∧ (j : Int) < (l.length : Int) := ⟨by omega, by omega⟩
  refine Iter_rule (body := RowsR_L13 l nm (j : Nat) (last, R)) (fun s => 0 ≤ s.2 ∧ s.2 ≤ F.length ∧ ((s.1 = -1 ∧ ∀ i : Nat, (i : Int) < s.2 → (F.getD i default).tag ≤ last) ∨
      (∃ k : Nat, s.1 = (k : Int) ∧ (k : Int) < s.2 ∧ last < (F.getD k default).tag ∧ ∀ i : Nat, (i : Int) < s.2 → last < (F.getD i default).tag → (F.getD k default).tag ≤ (F.getD i default).tag))) (fun s => F.length - s.2.toNat) _ ?_ (-1, 0) ⟨by simp, by simp, .inl ⟨rfl, fun i hi => by simp only [] at hi; omega⟩⟩
  rintro ⟨nx, q⟩ ⟨g1, g2, g3⟩
  simp only [] at g1 g2 g3
  unfold RowsR_L13
  simp only [Int.toNat_natCast, hF]
  rw [chk_pos hj2]
  by_cases c1 : q < (F.length : Int)
  · rw [cDT c1, chk_pos hj2, chk_pos ⟨g1, c1⟩]
    obtain ⟨i, rfl⟩ : ∃ i : Nat, q = (i : Int) := ⟨q.toNat, by omega⟩
    simp only [Int.toNat_natCast]
    rw [w64 (x := (i : Int) + 1) (by omega) (by omega)]
    have step : ∀ P : Nat → Prop, (∀ i' : Nat, (i' : Int) < (i : Int) → P i') → P i → ∀ i' : Nat, (i' : Int) < (i : Int) + 1 → P i' := fun P h1 h2 i' hi' => by
      by_cases e : i' = i
      · subst e; exact h2
      · exact h1 i' (by omega)
    by_cases c2 : last < (F.getD i default).tag
    · rw [cDT c2]
      rcases g3 with ⟨rfl, g4⟩ | ⟨k, rfl, g4, g5, g6⟩
      · rw [cDT (by omega)]
        refine .inl ⟨_, rfl, ⟨by simp only []; omega, by simp only []; omega, .inr ⟨i, rfl, by simp only []; omega, c2, ?_⟩⟩, by simp only []; omega⟩
        exact step (fun i' => last < (F.getD i' default).tag → (F.getD i default).tag ≤ (F.getD i' default).tag) (fun i' hi' h => by have := g4 i' hi'; omega) (fun _ => Int.le_refl _)
      · rw [cDF (by omega), chk_pos hj2, chk_pos ⟨by omega, by omega⟩]
        simp only [Int.toNat_natCast]
        by_cases c3 : (F.getD i default).tag < (F.getD k default).tag
        · rw [cDT c3]
          refine .inl ⟨_, rfl, ⟨by simp only []; omega, by simp only []; omega, .inr ⟨i, rfl, by simp only []; omega, c2, ?_⟩⟩, by simp only []; omega⟩
          exact step (fun i' => last < (F.getD i' default).tag → (F.getD i default).tag ≤ (F.getD i' default).tag) (fun i' hi' h => by have := g6 i' hi' h; omega) (fun _ => Int.le_refl _)
        · rw [cDF c3]
          refine .inl ⟨_, rfl, ⟨by simp only []; omega, by simp only []; omega, .inr ⟨k, rfl, by simp only []; omega, g5, ?_⟩⟩, by simp only []; omega⟩
          exact step (fun i' => last < (F.getD i' default).tag → (F.getD k default).tag ≤ (F.getD i' default).tag) g6 (fun _ => by omega)
    · rw [cDF c2]
      refine .inl ⟨_, rfl, ⟨by simp only []; omega, by simp only []; omega, ?_⟩, by simp only []; omega⟩
      rcases g3 with ⟨rfl, g4⟩ | ⟨k, rfl, g4, g5, g6⟩
      · exact .inl ⟨rfl, step (fun i' => (F.getD i' default).tag ≤ last) g4 (by omega)⟩
      · exact .inr ⟨k, rfl, by simp only []; omega, g5, step (fun i' => last < (F.getD i' default).tag → (F.getD k default).tag ≤ (F.getD i' default).tag) g6 (fun h => absurd h c2)⟩
  · rw [cDF c1]
    refine .inr ⟨_, rfl, ?_⟩
    have : q = F.length := by omega
    subst this
    rcases g3 with ⟨rfl, g4⟩ | ⟨k, rfl, g4, g5, g6⟩
    · exact .inl ⟨rfl, fun i hi => g4 i (by omega)⟩
    · exact .inr ⟨k, rfl, by omega, g5, fun i hi => g6 i (by omega)⟩

theorem rows_L5 (hj : j < l.length) (hF : (l.getD j default).fields = F) (hFl : F.length ≤ 1000) :
    ∃ r, Iter (RowsR_L5 l nm (j : Nat)) (-1, []) = some r ∧ ∃ R, (r = .inl R ∨ r = .inr R) ∧ RowsZ F R := by
  have hj2 : (0 : Int) ≤ (j : Int) ∧ (j : Int) < (l.length : Int) := ⟨by omega, by omega⟩
  refine Iter_rule (body := RowsR_L5 l nm (j : Nat)) (fun s => (∀ x ∈ s.2, x ∈ F) ∧ (∀ x ∈ s.2, x.tag ≤ s.1) ∧ s.2.Pairwise (fun a b => a.tag < b.tag) ∧ (∀ x ∈ F, 0 ≤ x.tag → x.tag ≤ s.1 → ∃ y ∈ s.2, y.tag = x.tag) ∧ s.2.length ≤ F.length) (fun s => F.length - s.2.length) _ ?_ (-1, [])
    ⟨fun x hx => absurd hx (by simp), fun x hx => absurd hx (by simp), .nil, fun x _ h1 h2 => by simp only [] at h2; omega, Nat.zero_le _⟩
  rintro ⟨last, R⟩ ⟨g1, g2, g3, g4, g5⟩
  simp only [] at g1 g2 g3 g4 g5
  unfold RowsR_L5
  simp only [Int.toNat_natCast, hF]
  rw [chk_pos hj2]
  by_cases c1 : (R.length : Int) < (F.length : Int)
  · rw [cDT c1]
    obtain ⟨r, h1, h2⟩ := rows_L13 (nm := nm) hj hF hFl last R
    rw [h1, Option.bind_some]
    rcases h2 with ⟨rfl, h3⟩ | ⟨k, rfl, h3, h4, h5⟩
    · rw [cDT (by omega)]
      exact .inr ⟨_, rfl, R, .inl rfl, g1, g3, fun x hx h0 => by
        obtain ⟨i, hi, rfl⟩ := getD_mem hx
        exact g4 _ hx h0 (h3 i hi)⟩
    · rw [cDF (by omega), chk_pos hj2, chk_pos ⟨by omega, by omega⟩, chk_pos (by omega), chk_pos hj2, chk_pos ⟨by omega, by omega⟩]
      simp only [Int.toNat_natCast]
      rw [Fld.eta]
      refine .inl ⟨_, rfl, ⟨fun x hx => ?_, fun x hx => ?_, ?_, fun x hx h6 h7 => ?_, ?_⟩, ?_⟩
      · rcases List.mem_append.1 hx with hx | hx
        · exact g1 x hx
        · simp only [List.mem_singleton] at hx; subst hx; exact mem_getD h3
      · simp only []
        rcases List.mem_append.1 hx with hx | hx
        · have := g2 x hx; omega
        · simp only [List.mem_singleton] at hx; subst hx; exact Int.le_refl _
      · simp only []
        refine List.pairwise_append.2 ⟨g3, by simp, fun a ha b hb => ?_⟩
        simp only [List.mem_singleton] at hb; subst hb
        have := g2 a ha; omega
      · simp only [] at h7 ⊢
        by_cases c : x.tag ≤ last
        · obtain ⟨y, hy, e⟩ := g4 x hx h6 c
          exact ⟨y, by simp [hy], e⟩
        · obtain ⟨i, hi, rfl⟩ := getD_mem hx
          have := h5 i hi (by omega)
          exact ⟨F.getD k default, List.mem_append.2 (.inr (List.mem_singleton.2 rfl)), by omega⟩
      · simp only [List.length_append, List.length_singleton]; omega
      · simp only [List.length_append, List.length_singleton]; omega
  · rw [cDF c1]
    exact .inr ⟨_, rfl, R, .inr rfl, rows_done g1 g3 (by omega)⟩
end

theorem RowsR_tot (l : List Dcl) (hl : FewL l) (nm : List UInt8) : ∃ R, RowsZ (fldsL l nm) R ∧ RowsR_F l nm = some R := by
  unfold RowsR_F
  rw [Find_tot l hl.1 nm, Option.bind_some]
  cases hf : fndL nm l with
  | none =>
    rw [cDT (by simp [fndZ, hf])]
    refine ⟨[], ?_, rfl⟩
    rw [show fldsL l nm = [] by simp [fldsL, hf]]
    exact ⟨fun _ h => h, .nil, fun x hx => absurd hx (by simp)⟩
  | some j =>
    have hz : fndZ nm l = (j : Nat) := by simp [fndZ, hf]
    have hfl : fldsL l nm = (l.getD j default).fields := by simp [fldsL, hf]
    rw [hz, cDF (by omega), hfl]
    obtain ⟨r, h1, R, h2, h3⟩ := rows_L5 (nm := nm) (fndL_lt hf) rfl (hl.2 j (fndL_lt hf)).f.1
    rw [h1]
    rcases h2 with rfl | rfl
    · exact ⟨R, h3, rfl⟩
    · exact ⟨R, h3, rfl⟩
end Go.Proofs

/- The document's side: begins, Fits. -/
set_option linter.unusedSimpArgs false
set_option linter.unusedVariables false
set_option maxRecDepth 100000
namespace Go.Proofs
open Go.Sy Go.Lib

noncomputable def rowsZ (l : List Dcl) (nm : List UInt8) : List Fld := (RowsR_F l nm).getD []
theorem RowsZ_c (l : List Dcl) (hl : FewL l) (nm : List UInt8) : RowsZ (fldsL l nm) (rowsZ l nm) ∧ FnP Try.prog 51 [SL 5 Dcl.c l, .s nm] (· = SL 5 Fld.c (rowsZ l nm)) := by
  obtain ⟨R, h1, h2⟩ := RowsR_tot l hl nm
  rw [rowsZ, h2]
  exact ⟨h1, RowsR_w l nm _ h2⟩

theorem fldsL_few {l : List Dcl} (hl : FewL l) (nm : List UInt8) : (fldsL l nm).length ≤ 1000 ∧ ∀ x ∈ fldsL l nm, FewT x.ty := by
  unfold fldsL
  cases hf : fndL nm l with
  | none => exact ⟨Nat.zero_le _, fun x hx => absurd hx (by simp)⟩
  | some j =>
    have h := (hl.2 j (fndL_lt hf)).f
    exact ⟨h.1, fun x hx => by obtain ⟨i, hi, rfl⟩ := getD_mem hx; exact h.2 i hi⟩
theorem rowsZ_len {l : List Dcl} (hl : FewL l) (nm : List UInt8) : (rowsZ l nm).length ≤ 1000 := by
  have h := (RowsZ_c l hl nm).1
  have := fldsL_few hl nm
  have h2 := nodup_len (pw_nodup h.srt) (B := (fldsL l nm).map (·.tag)) (fun t ht => by
      obtain ⟨y, hy, rfl⟩ := List.mem_map.1 ht
      exact List.mem_map.2 ⟨y, h.sub y hy, rfl⟩)
  rw [List.length_map, List.length_map] at h2
  omega
theorem rowZ_mem {l : List Dcl} {nm : List UInt8} {t : Int} {f : Fld} (h : rowZ l nm t = some f) : f ∈ fldsL l nm := by
  obtain ⟨j, h1, rfl⟩ := Option.map_eq_some_iff.1 h
  exact mem_getD (tagZ_lt h1)

/-- The document's: a name's fields begin with types, all else may be missing. -/
def BegZ (l : List Dcl) (nm : List UInt8) (T : List Ty) : Prop := (∀ i, i < T.length → ∃ f, rowZ l nm ((i : Int) + 1) = some f ∧ f.ty = T.getD i default) ∧ ∀ x ∈ rowsZ l nm, (T.length : Int) < x.tag → x.ty.kind = 9

theorem beginsZ_c (l : List Dcl) (hl : FewL l) (nm : List UInt8) (L : List Int) (T : List Ty) (hL : L.length = T.length) (hT : ∀ i, i < L.length → TypeR_F (L.getD i default) = some (T.getD i default)) (h10 : T.length ≤ 10) :
    FnP Try.prog 38 [SL 5 Dcl.c l, .s nm, SL 1 INTc L] (fun r => ∃ v, r = B v ∧ (v = true ↔ BegZ l nm T)) := by
  refine FnP.intro Try.tabOK Try.wide_ Try.func38 rfl (by decide) rfl (fun X => ?_)
  repeat (first | refine sc rfl ?_ | refine so rfl ?_ | refine sb rfl ?_)
  refine C_loop (fun i : Nat => ⟨[(0, SL 5 Dcl.c l), (1, .s nm), (2, SL 1 INTc L), (7, I64 (i : Nat))], []⟩) (fun i => i ≤ L.length ∧ ∀ j, j < i → ∃ f, rowZ l nm ((j : Int) + 1) = some f ∧ f.ty = T.getD j default) (fun i => L.length - i) 0 ⟨Nat.zero_le _, fun j hj => absurd hj (Nat.not_lt_zero _)⟩ (Le.sub [] ⟨rfl, rfl, rfl, rfl, trivial⟩ rfl) ?_
  rintro i ⟨hi, hall⟩
  repeat (first | refine sc rfl ?_ | refine so rfl ?_ | refine sb rfl ?_)
  refine C_if rfl (fun m1 => ?_) (fun m1 => ?_) <;> simp only [decide_eq_true_eq, decide_eq_false_iff_not, Bool.not_eq_true', Bool.not_eq_false', beq_iff_eq, beq_eq_false_iff_ne, bne_iff_ne, ne_eq, bne_eq_false_iff_eq, Decidable.not_not] at m1
  · have hil : i < L.length := by omega
    repeat (first | refine sc rfl ?_ | refine so rfl ?_ | refine sb rfl ?_)
    refine O_call (RowR_c l hl nm _) (by rfl) (by rfl) (by rfl) (by rfl) (fun r hr => ?_)
    rw [w64 (x := (i : Int) + 1) (by omega) (by omega)] at hr
    rcases hr with ⟨hn, rfl⟩ | ⟨f, hs, rfl⟩
    · repeat (first | refine sc rfl ?_ | refine so rfl ?_ | refine sb rfl ?_)
      refine C_drawD rfl (by kernel_rfl) ?_
      repeat (first | refine sd rfl ?_ | refine sdb rfl ?_ | refine sds rfl ?_)
      repeat (first | refine sc rfl ?_ | refine so rfl ?_ | refine sb rfl ?_)
      refine C_true rfl rfl ?_
      repeat (first | refine sc rfl ?_ | refine so rfl ?_ | refine sb rfl ?_)
      refine ⟨_, rfl, rfl, false, rfl, fun h => (by cases h), fun h => ?_⟩
      obtain ⟨f, hf, _⟩ := h.1 i (by omega)
      rw [hn] at hf; cases hf
    · repeat (first | refine sc rfl ?_ | refine so rfl ?_ | refine sb rfl ?_)
      refine C_drawD rfl (by kernel_rfl) ?_
      repeat (first | refine sd rfl ?_ | refine sdb rfl ?_ | refine sds rfl ?_)
      refine ⟨by omega, ?_⟩
      rw [Int.toNat_natCast]
      repeat (first | refine sd rfl ?_ | refine sdb rfl ?_ | refine sds rfl ?_)
      refine D_call (TypeR_w _ _ (hT i hil)) rfl rfl rfl rfl ?_
      refine D_call (SameT_c _ f.ty (T.getD i default) (Nat.le_refl _) ((fldsL_few hl nm).2 f (rowZ_mem hs))) rfl rfl rfl rfl ?_
      repeat (first | refine sd rfl ?_ | refine sdb rfl ?_ | refine sds rfl ?_)
      repeat (first | refine sc rfl ?_ | refine so rfl ?_ | refine sb rfl ?_)
      cases hb : sameT f.ty (T.getD i default) with
      | true =>
        refine C_false rfl rfl ?_
        repeat (first | refine sc rfl ?_ | refine so rfl ?_ | refine sb rfl ?_)
        rw [w64 (x := (i : Int) + 1) (by omega) (by omega)]
        refine ⟨i + 1, ⟨hil, fun j hj => ?_⟩, by omega, Le.sub [] ⟨rfl, rfl, rfl, rfl, trivial⟩ rfl⟩
        by_cases hji : j < i
        · exact hall j hji
        · obtain rfl : j = i := by omega
          exact ⟨f, hs, sameT_true.1 hb⟩
      | false =>
        refine C_true rfl rfl ?_
        repeat (first | refine sc rfl ?_ | refine so rfl ?_ | refine sb rfl ?_)
        refine ⟨_, rfl, rfl, false, rfl, fun h => (by cases h), fun h => ?_⟩
        obtain ⟨g, hg, hg2⟩ := h.1 i (by omega)
        rw [hs] at hg; cases hg
        exact absurd hg2 (sameT_false.1 hb)
  · obtain rfl : i = L.length := by omega
    repeat (first | refine sc rfl ?_ | refine so rfl ?_ | refine sb rfl ?_)
    refine O_call (RowsZ_c l hl nm).2 (by rfl) (by rfl) (by rfl) (by rfl) (fun r hr => ?_)
    subst hr
    repeat (first | refine sc rfl ?_ | refine so rfl ?_ | refine sb rfl ?_)
    have hRl := rowsZ_len hl nm
    generalize hRd : rowsZ l nm = R at *
    refine C_loop (fun k : Nat => ⟨[(2, SL 1 INTc L), (10, SL 5 Fld.c R), (11, I64 (k : Nat))], []⟩) (fun k => k ≤ R.length ∧ ∀ j, j < k → (T.length : Int) < (R.getD j default).tag → (R.getD j default).ty.kind = 9) (fun k => R.length - k) 0 ⟨Nat.zero_le _, fun j hj => absurd hj (Nat.not_lt_zero _)⟩ (Le.sub [] ⟨rfl, rfl, rfl, trivial⟩ rfl) ?_
    rintro k ⟨hk, hopt⟩
    repeat (first | refine sc rfl ?_ | refine so rfl ?_ | refine sb rfl ?_)
    refine C_if rfl (fun m2 => ?_) (fun m2 => ?_) <;> simp only [decide_eq_true_eq, decide_eq_false_iff_not, Bool.not_eq_true', Bool.not_eq_false', beq_iff_eq, beq_eq_false_iff_ne, bne_iff_ne, ne_eq, bne_eq_false_iff_eq, Decidable.not_not] at m2
    · have hkl : k < R.length := by omega
      repeat (first | refine sc rfl ?_ | refine so rfl ?_ | refine sb rfl ?_)
      refine ⟨by omega, ?_⟩
      rw [Int.toNat_natCast]
      repeat (first | refine sc rfl ?_ | refine so rfl ?_ | refine sb rfl ?_)
      refine O_case 56 rfl (fun c1 => ?_) (fun c1 => ?_) <;> simp only [decide_eq_true_eq, decide_eq_false_iff_not, Bool.not_eq_true', Bool.not_eq_false', beq_iff_eq, beq_eq_false_iff_ne, bne_iff_ne, ne_eq, bne_eq_false_iff_eq, Decidable.not_not] at c1
      · repeat (first | refine sc rfl ?_ | refine so rfl ?_ | refine sb rfl ?_)
        refine ⟨by omega, ?_⟩
        rw [Int.toNat_natCast]
        repeat (first | refine sc rfl ?_ | refine so rfl ?_ | refine sb rfl ?_)
        refine C_if rfl (fun c2 => ?_) (fun c2 => ?_) <;> simp only [decide_eq_true_eq, decide_eq_false_iff_not, Bool.not_eq_true', Bool.not_eq_false', beq_iff_eq, beq_eq_false_iff_ne, bne_iff_ne, ne_eq, bne_eq_false_iff_eq, Decidable.not_not] at c2
        · repeat (first | refine sc rfl ?_ | refine so rfl ?_ | refine sb rfl ?_)
          refine ⟨_, rfl, rfl, false, rfl, fun h => (by cases h), fun h => ?_⟩
          have := h.2 (R.getD k default) (by rw [hRd]; exact mem_getD hkl) (by omega)
          exact absurd this c2
        · repeat (first | refine sc rfl ?_ | refine so rfl ?_ | refine sb rfl ?_)
          rw [w64 (x := (k : Int) + 1) (by omega) (by omega)]
          refine ⟨k + 1, ⟨hkl, fun j hj _ => ?_⟩, by omega, Le.sub [] ⟨rfl, rfl, rfl, trivial⟩ rfl⟩
          by_cases hjk : j < k
          · exact hopt j hjk (by assumption)
          · obtain rfl : j = k := by omega
            exact c2
      · repeat (first | refine sc rfl ?_ | refine so rfl ?_ | refine sb rfl ?_)
        refine C_false rfl rfl ?_
        repeat (first | refine sc rfl ?_ | refine so rfl ?_ | refine sb rfl ?_)
        rw [w64 (x := (k : Int) + 1) (by omega) (by omega)]
        refine ⟨k + 1, ⟨hkl, fun j hj h9 => ?_⟩, by omega, Le.sub [] ⟨rfl, rfl, rfl, trivial⟩ rfl⟩
        by_cases hjk : j < k
        · exact hopt j hjk h9
        · obtain rfl : j = k := by omega
          omega
    · repeat (first | refine sc rfl ?_ | refine so rfl ?_ | refine sb rfl ?_)
      refine ⟨_, rfl, rfl, true, rfl, fun _ => ⟨fun i hi => hall i (by omega), fun x hx hlt => ?_⟩, fun _ => rfl⟩
      rw [hRd] at hx
      obtain ⟨q, hq, rfl⟩ := getD_mem hx
      exact hopt q (by omega) hlt

noncomputable def begB (l : List Dcl) (nm : List UInt8) (T : List Ty) : Bool := @decide (BegZ l nm T) (Classical.propDecidable _)
theorem begB_iff {l : List Dcl} {nm : List UInt8} {T : List Ty} : begB l nm T = true ↔ BegZ l nm T := by unfold begB; simp
theorem beginsB_c (l : List Dcl) (hl : FewL l) (nm : List UInt8) (L : List Int) (T : List Ty) (hL : L.length = T.length) (hT : ∀ i, i < L.length → TypeR_F (L.getD i default) = some (T.getD i default)) (h10 : T.length ≤ 10) :
    FnP Try.prog 38 [SL 5 Dcl.c l, .s nm, SL 1 INTc L] (· = B (begB l nm T)) :=
  (beginsZ_c l hl nm L T hL hT h10).mono (fun r h => by
    obtain ⟨v, rfl, hv⟩ := h
    have : v = begB l nm T := by rw [Bool.eq_iff_iff, hv, begB_iff]
    rw [this])

open Classical in
/-- The document's answer for an operation. -/
noncomputable def fitZ (l : List Dcl) (m : Mth) (op : Int) : Int :=
  if op < 1 ∨ 8 < op then 4 else if kindL l m.fin ≠ 1 ∨ kindL l m.fout ≠ 1 then 6 else if BegZ l m.fin (inT op) ∧ BegZ l m.fout (outT op) then 0 else 8

theorem tyI (op : Int) : ∃ L, InR_F op = some L ∧ TypesR_F L = some (inT op) ∧ L.length = (inT op).length ∧ ∀ i, i < L.length → TypeR_F (L.getD i default) = some ((inT op).getD i default) := by
  unfold inT rowO Row_F InR_F
  cases hb : (op == 1) <;> cases hb6 : (op == 6) <;> cases hb2 : (op == 2) <;> cases hb5 : (op == 5) <;> cases hb3 : (op == 3) <;> cases hb4 : (op == 4) <;> cases hb7 : (op == 7) <;> cases hb8 : (op == 8) <;>
    first
      | exact ⟨_, rfl, tys0, rfl, fun i hi => absurd hi (Nat.not_lt_zero _)⟩
      | exact ⟨_, rfl, tys1, rfl, fun i hi => by match i, hi with | 0, _ => rfl⟩
      | exact ⟨_, rfl, tys11, rfl, fun i hi => by match i, hi with | 0, _ => rfl | 1, _ => rfl⟩
      | exact ⟨_, rfl, tys12, rfl, fun i hi => by match i, hi with | 0, _ => rfl | 1, _ => rfl⟩
      | exact ⟨_, rfl, tys113, rfl, fun i hi => by match i, hi with | 0, _ => rfl | 1, _ => rfl | 2, _ => rfl⟩
      | (exfalso; simp only [beq_iff_eq, beq_eq_false_iff_ne] at *; omega)
theorem tyO (op : Int) : ∃ L, OutR_F op = some L ∧ TypesR_F L = some (outT op) ∧ L.length = (outT op).length ∧ ∀ i, i < L.length → TypeR_F (L.getD i default) = some ((outT op).getD i default) := by
  unfold outT rowO Row_F OutR_F
  cases hb : (op == 1) <;> cases hb6 : (op == 6) <;> cases hb2 : (op == 2) <;> cases hb5 : (op == 5) <;> cases hb3 : (op == 3) <;> cases hb4 : (op == 4) <;> cases hb7 : (op == 7) <;> cases hb8 : (op == 8) <;>
    first
      | exact ⟨_, rfl, tys0, rfl, fun i hi => absurd hi (Nat.not_lt_zero _)⟩
      | exact ⟨_, rfl, tys5, rfl, fun i hi => by match i, hi with | 0, _ => rfl⟩
      | exact ⟨_, rfl, tys4, rfl, fun i hi => by match i, hi with | 0, _ => rfl⟩
      | exact ⟨_, rfl, tys2, rfl, fun i hi => by match i, hi with | 0, _ => rfl⟩
      | (exfalso; simp only [beq_iff_eq, beq_eq_false_iff_ne] at *; omega)

theorem FitsZ_c (l : List Dcl) (hl : FewL l) (m : Mth) (op : Int) : FnP Try.prog 22 [SL 5 Dcl.c l, .agg (Mth.c m), I64 op] (fun r => r = I64 (fitZ l m op)) := by
  refine FnP.intro Try.tabOK Try.wide_ Try.func22 rfl (by decide) rfl (fun X => ?_)
  obtain ⟨L1, i1, _, i3, i4⟩ := tyI op
  obtain ⟨L2, o1, _, o3, o4⟩ := tyO op
  have hB1 := beginsB_c l hl m.fin L1 (inT op) i3 i4 (inT_len op).1
  have hB2 := beginsB_c l hl m.fout L2 (outT op) o3 o4 (inT_len op).2
  repeat (first | refine sc rfl ?_ | refine so rfl ?_ | refine sb rfl ?_)
  refine O_case 9 rfl (fun c1 => ?_) (fun c1 => ?_) <;> simp only [decide_eq_true_eq, decide_eq_false_iff_not, Bool.not_eq_true', Bool.not_eq_false', beq_iff_eq, beq_eq_false_iff_ne, bne_iff_ne, ne_eq, bne_eq_false_iff_eq, Decidable.not_not] at c1
  · repeat (first | refine sc rfl ?_ | refine so rfl ?_ | refine sb rfl ?_)
    refine C_true rfl rfl ?_
    repeat (first | refine sc rfl ?_ | refine so rfl ?_ | refine sb rfl ?_)
    exact ⟨_, rfl, rfl, by rw [fitZ, if_pos (.inl c1)]⟩
  repeat (first | refine sc rfl ?_ | refine so rfl ?_ | refine sb rfl ?_)
  refine C_if rfl (fun c2 => ?_) (fun c2 => ?_) <;> simp only [decide_eq_true_eq, decide_eq_false_iff_not, Bool.not_eq_true', Bool.not_eq_false', beq_iff_eq, beq_eq_false_iff_ne, bne_iff_ne, ne_eq, bne_eq_false_iff_eq, Decidable.not_not] at c2
  · repeat (first | refine sc rfl ?_ | refine so rfl ?_ | refine sb rfl ?_)
    exact ⟨_, rfl, rfl, by rw [fitZ, if_pos (.inr c2)]⟩
  have hop : ¬(op < 1 ∨ 8 < op) := by omega
  repeat (first | refine sc rfl ?_ | refine so rfl ?_ | refine sb rfl ?_)
  refine O_call (KindR_c l hl.1 m.fin) (by rfl) (by rfl) (by rfl) (by rfl) (fun r hr => ?_)
  subst hr
  repeat (first | refine sc rfl ?_ | refine so rfl ?_ | refine sb rfl ?_)
  refine O_case 18 rfl (fun c3 => ?_) (fun c3 => ?_) <;> simp only [decide_eq_true_eq, decide_eq_false_iff_not, Bool.not_eq_true', Bool.not_eq_false', beq_iff_eq, beq_eq_false_iff_ne, bne_iff_ne, ne_eq, bne_eq_false_iff_eq, Decidable.not_not] at c3
  · repeat (first | refine sc rfl ?_ | refine so rfl ?_ | refine sb rfl ?_)
    refine C_true rfl rfl ?_
    repeat (first | refine sc rfl ?_ | refine so rfl ?_ | refine sb rfl ?_)
    exact ⟨_, rfl, rfl, by rw [fitZ, if_neg hop, if_pos (.inl c3)]⟩
  repeat (first | refine sc rfl ?_ | refine so rfl ?_ | refine sb rfl ?_)
  refine O_call (KindR_c l hl.1 m.fout) (by rfl) (by rfl) (by rfl) (by rfl) (fun r hr => ?_)
  subst hr
  repeat (first | refine sc rfl ?_ | refine so rfl ?_ | refine sb rfl ?_)
  refine C_if rfl (fun c4 => ?_) (fun c4 => ?_) <;> simp only [decide_eq_true_eq, decide_eq_false_iff_not, Bool.not_eq_true', Bool.not_eq_false', beq_iff_eq, beq_eq_false_iff_ne, bne_iff_ne, ne_eq, bne_eq_false_iff_eq, Decidable.not_not] at c4
  · repeat (first | refine sc rfl ?_ | refine so rfl ?_ | refine sb rfl ?_)
    exact ⟨_, rfl, rfl, by rw [fitZ, if_neg hop, if_pos (.inr c4)]⟩
  have hk : ¬(kindL l m.fin ≠ 1 ∨ kindL l m.fout ≠ 1) := by omega
  repeat (first | refine sc rfl ?_ | refine so rfl ?_ | refine sb rfl ?_)
  refine C_drawD rfl (by kernel_rfl) ?_
  repeat (first | refine sd rfl ?_ | refine sdb rfl ?_ | refine sds rfl ?_)
  refine D_call (InR_w _ _ i1) rfl rfl rfl rfl ?_
  refine D_call hB1 rfl rfl rfl rfl ?_
  repeat (first | refine sd rfl ?_ | refine sdb rfl ?_ | refine sds rfl ?_)
  refine D_case 7 rfl (fun c5 => ?_) (fun c5 => ?_) <;> simp only [decide_eq_true_eq, decide_eq_false_iff_not, Bool.not_eq_true', Bool.not_eq_false', beq_iff_eq, beq_eq_false_iff_ne, bne_iff_ne, ne_eq, bne_eq_false_iff_eq, Decidable.not_not] at c5
  · repeat (first | refine sd rfl ?_ | refine sdb rfl ?_ | refine sds rfl ?_)
    repeat (first | refine sc rfl ?_ | refine so rfl ?_ | refine sb rfl ?_)
    refine C_true rfl rfl ?_
    repeat (first | refine sc rfl ?_ | refine so rfl ?_ | refine sb rfl ?_)
    exact ⟨_, rfl, rfl, by rw [fitZ, if_neg hop, if_neg hk, if_neg (fun h => by rw [begB_iff.2 h.1] at c5; cases c5)]⟩
  repeat (first | refine sd rfl ?_ | refine sdb rfl ?_ | refine sds rfl ?_)
  refine D_call (OutR_w _ _ o1) rfl rfl rfl rfl ?_
  refine D_call hB2 rfl rfl rfl rfl ?_
  repeat (first | refine sd rfl ?_ | refine sdb rfl ?_ | refine sds rfl ?_)
  repeat (first | refine sc rfl ?_ | refine so rfl ?_ | refine sb rfl ?_)
  cases hv2 : begB l m.fout (outT op) with
  | true =>
    refine C_false rfl rfl ?_
    repeat (first | refine sc rfl ?_ | refine so rfl ?_ | refine sb rfl ?_)
    exact ⟨_, rfl, rfl, by rw [fitZ, if_neg hop, if_neg hk, if_pos ⟨begB_iff.1 c5, begB_iff.1 hv2⟩]⟩
  | false =>
    refine C_true rfl rfl ?_
    repeat (first | refine sc rfl ?_ | refine so rfl ?_ | refine sb rfl ?_)
    exact ⟨_, rfl, rfl, by rw [fitZ, if_neg hop, if_neg hk, if_neg (fun h => by rw [begB_iff.2 h.2] at hv2; cases hv2)]⟩
end Go.Proofs

/- Plain law: both sides of Fits say the same. -/
set_option linter.unusedSimpArgs false
set_option linter.unusedVariables false
set_option maxRecDepth 100000
namespace Go.Proofs
open Go.Sy Go.Lib

def LetT (t : Ty) : Prop := t = ⟨4, [], []⟩ ∨ t = ⟨2, [], []⟩ ∨ t = ⟨3, [], []⟩ ∨ t = ⟨1, [], []⟩ ∨ t = ⟨9, [], [⟨4, [], []⟩]⟩
theorem letterT_let (c : UInt8) : LetT (letterT c) := by
  unfold letterT Letter_F LetT
  cases hb : ((c.toNat : Int) == 116) <;> cases hb2 : ((c.toNat : Int) == 105) <;> cases hb3 : ((c.toNat : Int) == 117) <;> cases hb4 : ((c.toNat : Int) == 98) <;> simp
theorem inT_let (op : Int) : ∀ i, i < (inT op).length → LetT ((inT op).getD i default) := fun i hi => by
  unfold inT at hi ⊢
  rw [getD_at hi, List.getElem_map]; exact letterT_let _
theorem outT_let (op : Int) : ∀ i, i < (outT op).length → LetT ((outT op).getD i default) := fun i hi => by
  unfold outT at hi ⊢
  rw [getD_at hi, List.getElem_map]; exact letterT_let _

theorem ar (k : Int) : arityL 1 = 0 ∧ arityL 2 = 0 ∧ arityL 3 = 0 ∧ arityL 4 = 0 ∧ arityL 9 = 1 := ⟨rfl, rfl, rfl, rfl, rfl⟩
theorem flat {l : List Dcl} {b : Bool} {t : Ty} (h : TyOK l b t) (h6 : t.kind ≠ 6) (h0 : arityL t.kind = 0) : t = ⟨t.kind, [], []⟩ := by
  obtain ⟨h1, h2, _⟩ := h
  obtain ⟨k, n, o⟩ := t
  simp only [] at *
  rw [h0] at h1
  have : o = [] := List.length_eq_zero_iff.1 (by omega)
  rw [h2 h6, this]

theorem SameL_iff {l : List Dcl} {b : Bool} {a t : Ty} (ha : TyOK l b a) (ht : LetT t) : SameL_F a t = some true ↔ a = t := by
  have ha' := ha
  obtain ⟨h1, h2, _, _, _, h5⟩ := ha'
  constructor
  · intro h
    unfold SameL_F at h
    obtain ⟨m1, hm1, h⟩ := bT h
    cases m1 with
    | true => cases h
    | false =>
      cases hk : a.kind != t.kind with
      | true => rw [hk] at hm1; cases hm1
      | false =>
        rw [hk] at hm1
        have ek : a.kind = t.kind := by simpa using hk
        have el : (a.of.length : Int) = t.of.length := by
          have := Option.some.inj hm1
          simpa using this
        obtain ⟨m4, hm4, h⟩ := bT h
        have := Option.some.inj h
        subst this
        rcases ht with rfl | rfl | rfl | rfl | rfl
        · rw [flat ha (by rw [ek]; decide) (by rw [ek]; rfl), ek]
        · rw [flat ha (by rw [ek]; decide) (by rw [ek]; rfl), ek]
        · rw [flat ha (by rw [ek]; decide) (by rw [ek]; rfl), ek]
        · rw [flat ha (by rw [ek]; decide) (by rw [ek]; rfl), ek]
        · simp only [] at ek el
          have e9 : (a.kind != 9) = false := by rw [ek]; rfl
          have el1 : a.of.length = 1 := by simp only [List.length_cons, List.length_nil] at el; omega
          rw [e9, cond_false, chk_pos ⟨by omega, by omega⟩, chk_pos (by decide)] at hm4
          have e4 := Option.some.inj hm4
          have e4' : (a.of.getD 0 default).kind = 4 := by simpa using e4
          have hin := h5 0 (by omega)
          have hf := flat hin (by rw [e4']; decide) (by rw [e4']; rfl)
          rw [e4'] at hf
          have hn := h2 (by rw [ek]; decide)
          obtain ⟨k, n, o⟩ := a
          simp only [] at *
          subst ek hn
          match o, el1, hf with
          | [x], _, hf => simp only [List.getD_cons_zero] at hf; rw [hf]
  · rintro rfl
    rcases ht with rfl | rfl | rfl | rfl | rfl <;> rfl

theorem nodup_tag {F : List Fld} (h : (F.map (·.tag)).Nodup) {i j : Nat} (hi : i < F.length) (hj : j < F.length) (e : (F.getD i default).tag = (F.getD j default).tag) : i = j := by
  rw [getD_at hi, getD_at hj] at e
  have := (List.getElem_inj (xs := F.map (·.tag)) (i := i) (j := j) (h₀ := by simpa using hi) (h₁ := by simpa using hj) h).1 (by simpa using e)
  exact this

theorem tagZ_iff {F : List Fld} (h : (F.map (·.tag)).Nodup) {t : Int} {i : Nat} : tagZ t F = some i ↔ i < F.length ∧ (F.getD i default).tag = t := by
  constructor
  · intro h0
    refine ⟨tagZ_lt h0, ?_⟩
    have key : ∀ {F : List Fld} {j : Nat}, tagZ t F = some j → (F.getD j default).tag = t := by
      intro F
      induction F with
      | nil => intro j h; simp [tagZ] at h
      | cons d l ih =>
        intro j h
        simp only [tagZ] at h
        split at h
        · cases h; simpa
        · obtain ⟨k, hk, rfl⟩ := Option.map_eq_some_iff.1 h
          simpa using ih hk
    exact key h0
  · rintro ⟨h1, h2⟩
    exact tagZ_first h1 (fun j hj e => by
      have := nodup_tag h (i := j) (j := i) (by omega) h1 (by rw [e, h2])
      omega) h2

theorem rowZ_iff {l : List Dcl} {nm : List UInt8} {F : List Fld} (hF : fldsL l nm = F) (h : (F.map (·.tag)).Nodup) {t : Int} {f : Fld} : rowZ l nm t = some f ↔ f ∈ F ∧ f.tag = t := by
  unfold rowZ
  rw [hF, Option.map_eq_some_iff]
  constructor
  · rintro ⟨j, h1, rfl⟩
    obtain ⟨h2, h3⟩ := (tagZ_iff h).1 h1
    exact ⟨mem_getD h2, h3⟩
  · rintro ⟨h1, h2⟩
    obtain ⟨i, hi, rfl⟩ := getD_mem h1
    exact ⟨i, (tagZ_iff h).2 ⟨hi, h2⟩, rfl⟩

theorem one_tag {F : List Fld} (h : (F.map (·.tag)).Nodup) {x y : Fld} (hx : x ∈ F) (hy : y ∈ F) (e : x.tag = y.tag) : x = y := by
  obtain ⟨i, hi, rfl⟩ := getD_mem hx
  obtain ⟨j, hj, rfl⟩ := getD_mem hy
  rw [nodup_tag h hi hj e]

/-- Sorted rows: members, and the order is strict. -/
theorem SrtOf.facts {F R : List Fld} (h : SrtOf F R) (hn : (F.map (·.tag)).Nodup) : (∀ x, x ∈ R ↔ x ∈ F) ∧ ∀ i j, i < j → j < R.length → (R.getD i default).tag < (R.getD j default).tag := by
  obtain ⟨h1, ⟨p, r, h2, _⟩, h3⟩ := h
  refine ⟨fun x => ⟨fun hx => ?_, fun hx => ?_⟩, fun i j hij hj => ?_⟩
  · obtain ⟨i, hi, rfl⟩ := getD_mem hx
    obtain ⟨q1, _, _, _, q5⟩ := h2 i (Nat.zero_le _) (by omega)
    simp only [] at q5
    rw [q5]; exact mem_getD q1.2
  · obtain ⟨i, hi, rfl⟩ := getD_mem hx
    obtain ⟨_, q2, q3, _, _⟩ := h2 i (Nat.zero_le _) hi
    obtain ⟨_, _, _, _, s5⟩ := h2 (r i) (Nat.zero_le _) q2.2
    simp only [] at s5
    rw [q3] at s5
    rw [← s5]; exact mem_getD (by omega)
  · have hle := h3 i j (Nat.zero_le _) (by omega) (by omega)
    simp only [] at hle
    obtain ⟨a1, _, _, a4, a5⟩ := h2 i (Nat.zero_le _) (by omega)
    obtain ⟨b1, _, _, b4, b5⟩ := h2 j (Nat.zero_le _) (by omega)
    simp only [] at a5 b5
    rcases Int.lt_or_eq_of_le hle with hlt | he
    · exact hlt
    · rw [a5, b5] at he
      have := nodup_tag hn a1.2 b1.2 he
      have : i = j := by rw [← a4, ← b4, this]
      omega

theorem beg_iff {l : List Dcl} (hl : FewL l) (hW : WellL l) {Rs : List (List Fld)} (hR : RowsOK l Rs) {nm : List UInt8} (hk : kindL l nm = 1) {T : List Ty} (hT : ∀ i, i < T.length → LetT (T.getD i default)) : BegOK (rowsL l Rs nm) T ↔ BegZ l nm T := by
  unfold kindL at hk
  cases hf : fndL nm l with
  | none => rw [hf] at hk; cases hk
  | some j =>
    rw [hf] at hk
    simp only [] at hk
    have hj := fndL_lt hf
    have hFd : fldsL l nm = (l.getD j default).fields := by simp [fldsL, hf]
    have hRd : rowsL l Rs nm = Rs.getD j default := by simp [rowsL, hf]
    have hD := hW j hj
    have hS := hR.2 j hj
    have hn : ((l.getD j default).fields.map (·.tag)).Nodup := (List.nodup_append.1 hD.tags).1
    have hrng : ∀ x ∈ (l.getD j default).fields, 1 ≤ x.tag := fun x hx => by
      have := (hD.fs.rng x hx).1
      unfold leastD at this
      rw [if_neg (by omega)] at this
      exact this
    have hty : ∀ x ∈ (l.getD j default).fields, TyOK l false x.ty := fun x hx => (hD.fs.ty x hx (by omega)).1
    have hZ := (RowsZ_c l hl nm).1
    rw [hFd] at hZ
    rw [hRd]
    generalize (l.getD j default).fields = F at *
    generalize Rs.getD j default = R at *
    obtain ⟨hmem, hst⟩ := hS.facts hn
    have hge : ∀ i, i < R.length → (i : Int) + 1 ≤ (R.getD i default).tag := by
      intro i
      induction i with
      | zero => intro hi; have := hrng _ ((hmem _).1 (mem_getD hi)); simpa using this
      | succ i ih => intro hi; have h1 := ih (by omega); have h2 := hst i (i + 1) (by omega) hi; omega
    constructor
    · rintro ⟨h1, h2⟩
      refine ⟨fun i hi => ?_, fun x hx hlt => ?_⟩
      · obtain ⟨g1, g2, g3⟩ := h1 i hi
        have hm := (hmem _).1 (mem_getD g1)
        exact ⟨_, (rowZ_iff hFd hn).2 ⟨hm, g2⟩, (SameL_iff (hty _ hm) (hT i hi)).1 g3⟩
      · obtain ⟨k, hk, rfl⟩ := getD_mem ((hmem _).2 (hZ.sub x hx))
        by_cases hkT : k < T.length
        · have := (h1 k hkT).2.1
          omega
        · exact h2 k (by omega) hk
    · rintro ⟨h1, h2⟩
      have key : ∀ n i, i ≤ n → i < T.length → i < R.length ∧ (R.getD i default).tag = (i : Int) + 1 := by
        intro n
        induction n with
        | zero =>
          intro i h0 hi
          obtain rfl : i = 0 := by omega
          obtain ⟨f, hf1, hf2⟩ := h1 0 hi
          obtain ⟨g1, g2⟩ := (rowZ_iff hFd hn).1 hf1
          obtain ⟨k, hk, rfl⟩ := getD_mem ((hmem _).2 g1)
          have := hge k hk
          obtain rfl : k = 0 := by omega
          exact ⟨hk, g2⟩
        | succ n ih =>
          intro i h0 hi
          obtain ⟨f, hf1, hf2⟩ := h1 i hi
          obtain ⟨g1, g2⟩ := (rowZ_iff hFd hn).1 hf1
          obtain ⟨k, hk, rfl⟩ := getD_mem ((hmem _).2 g1)
          have := hge k hk
          by_cases hki : k < i
          · have := (ih k (by omega) (by omega)).2
            omega
          · obtain rfl : k = i := by omega
            exact ⟨hk, g2⟩
      refine ⟨fun i hi => ?_, fun i hi hiR => ?_⟩
      · obtain ⟨g1, g2⟩ := key i i (Nat.le_refl _) hi
        obtain ⟨f, hf1, hf2⟩ := h1 i hi
        obtain ⟨g3, g4⟩ := (rowZ_iff hFd hn).1 hf1
        have hm := (hmem _).1 (mem_getD g1)
        have e : R.getD i default = f := one_tag hn hm g3 (by rw [g2, g4])
        exact ⟨g1, g2, (SameL_iff (hty _ hm) (hT i hi)).2 (by rw [e, hf2])⟩
      · have hm := (hmem _).1 (mem_getD hiR)
        have hg := hge i hiR
        obtain ⟨y, hy, e⟩ := hZ.all _ hm (by omega)
        have := one_tag hn (hZ.sub y hy) hm e
        rw [← this]
        exact h2 y hy (by omega)

theorem isO_iff (op : Int) : isO op = true ↔ 1 ≤ op ∧ op ≤ 8 := by
  unfold isO rowO Row_F
  cases hb : (op == 1) <;> cases hb6 : (op == 6) <;> cases hb2 : (op == 2) <;> cases hb5 : (op == 5) <;> cases hb3 : (op == 3) <;> cases hb4 : (op == 4) <;> cases hb7 : (op == 7) <;> cases hb8 : (op == 8) <;>
    (simp only [beq_iff_eq, beq_eq_false_iff_ne] at *; simp; omega)

theorem Fits_fit {l : List Dcl} (hl : FewL l) (hW : WellL l) {m : Mth} {op e : Int} (h : FitsP l m op e) : e = fitZ l m op := by
  unfold fitZ
  rcases h with ⟨h1, rfl⟩ | ⟨h1, h2, rfl⟩ | ⟨h1, h2, h3, R1, R2, h4, h5, h6⟩
  · rw [if_pos (by have := isO_iff op; rw [h1] at this; simp at this; omega)]
  · rw [if_neg (by have := (isO_iff op).1 h1; omega), if_pos h2]
  · rw [if_neg (by have := (isO_iff op).1 h1; omega), if_neg (by omega)]
    rw [beg_iff hl hW h4 h2 (inT_let op), beg_iff hl hW h5 h3 (outT_let op)] at h6
    rcases h6 with ⟨a, b, rfl⟩ | ⟨a, rfl⟩
    · rw [if_pos ⟨a, b⟩]
    · rw [if_neg (fun hh => by rcases a with a | a; exact a hh.1; exact a hh.2)]

theorem tot_of {l : List Dcl} (hl : FewL l) (hW : WellL l) (op : Int) : ∀ nm, kindL l nm = 1 → ∀ T : List Ty, (T = inT op ∨ T = outT op) → ∀ Rs, RowsOK l Rs → (rowsL l Rs nm).length ≤ 1000 ∧ ∀ i j, i < (rowsL l Rs nm).length → j < T.length → ∃ v, SameL_F ((rowsL l Rs nm).getD i default).ty (T.getD j default) = some v := by
  intro nm hk T hT Rs hR
  unfold kindL at hk
  cases hf : fndL nm l with
  | none => rw [hf] at hk; cases hk
  | some q =>
    rw [hf] at hk
    simp only [] at hk
    have hj := fndL_lt hf
    have hRd : rowsL l Rs nm = Rs.getD q default := by simp [rowsL, hf]
    have hS := hR.2 q hj
    have hD := hW q hj
    rw [hRd]
    refine ⟨by rw [hS.1]; exact (hl.2 q hj).f.1, fun i j hi hj2 => ?_⟩
    obtain ⟨k, hk1, hk2⟩ := PermOn.mem hS i hi
    rw [hk2]
    obtain ⟨h1, _⟩ := (hD.fs.ty _ (mem_getD hk1) (by omega)).1
    have hlt : LetT (T.getD j default) := by
      rcases hT with rfl | rfl
      · exact inT_let op j hj2
      · exact outT_let op j hj2
    refine SameL_tot (fun h9 => by rw [h9] at h1; have : arityL 9 = 1 := rfl; omega) (fun h9 => ?_)
    rcases hlt with h | h | h | h | h <;> rw [h] at h9 ⊢ <;> first | rfl | (simp at h9)
end Go.Proofs

/- The symbolic walk, part 51: pure calls in drawn regions of effects. -/
set_option linter.unusedSimpArgs false
set_option linter.unusedVariables false
namespace Go.Sy
open Go.RowKit

section
variable {P : Program} {T : Tab} {X : Ctx P T} {n : Nat} {e : Env} {st : St} {a : Act} {w : World} {ops : Array Oper} {K : St → Prop}

/-- A call that leaves memory alone, in a drawn region of effects. -/
theorem SXp {p : Pl} {base : List (Nat × AV)} {C : Nat → List Ch} {rest : List Oper} {done : Done} {f : FuncId} {dst : Nat} {args : Array Operand} {tys : Array TypeId} {ty : TypeId} {pos : String} {aft : Array Edge} {gd : Option (Nat × Bool)} {avs : List AV} {x : AV}
    (hf : FnP P f avs (· = x)) (hg : guardA ops ⟨availX p done.length done aft.toList base, []⟩ ⟨some dst, .call ⟨.value (.func f), args, tys⟩, ty, pos, aft, gd⟩ = some true) (ha : opds (availX p done.length done aft.toList base) args.toList = some avs) (himm : AV.imm.immL avs = true) (hd : Nat.blt dst n = true)
    (hc : p.creB done.length x = true) (hE : (!(p.E.contains done.length)) = true) (k : normG (done ++ [(some dst, x)]) fun done => SymX X n ops p base C K rest done) :
    SymX X n ops p base C K (⟨some dst, .call ⟨.value (.func f), args, tys⟩, ty, pos, aft, gd⟩ :: rest) done :=
  SX x hc (fun ph _ _ => by
    rw [if_neg (not_mem_of_contains hE)]
    exact X_callA [] (FnP.toA hf []) (by rw [guardA_any (c' := [])]; exact hg) ha himm rfl hd) k
end
end Go.Sy

/- The law OpsFits, walked. -/
set_option linter.unusedSimpArgs false
set_option linter.unusedVariables false
set_option maxRecDepth 100000
namespace Go.Proofs
open Go.Sy Go.Lib

def PF : Pl := ⟨[], [16], [], []⟩

theorem nil_fit (m : Mth) (op : Int) : (if isO op then (6 : Int) else 4) = fitZ [] m op := by
  have hk : kindL [] m.fin ≠ 1 ∨ kindL [] m.fout ≠ 1 := .inl (fun h => by have : (0 : Int) = 1 := h; omega)
  unfold fitZ
  have h := isO_iff op
  cases ho : isO op with
  | true =>
    have h1 := h.1 ho
    show (6 : Int) = _
    rw [if_neg (by omega), if_pos hk]
  | false =>
    rw [ho] at h
    have h1 : ¬(1 ≤ op ∧ op ≤ 8) := fun h2 => by have := h.2 h2; cases this
    show (4 : Int) = _
    rw [if_pos (by omega)]

theorem opsFits_c (l : List Dcl) (m : Mth) (op : Int) : FnP Try.prog 4 [SL 5 Dcl.c l, .agg (Mth.c m), I64 op] (· = B true) := by
  refine FnP.intro Try.tabOK Try.wide_ Try.func4 rfl (by decide) rfl (fun X => ?_)
  obtain ⟨L1, i1, i2, i3, i4⟩ := tyI op
  obtain ⟨L2, o1, o2, o3, o4⟩ := tyO op
  have hA := sameTys_c (inT op) (by have := (inT_len op).1; omega) (letters_few _)
  have hB := sameTys_c (outT op) (by have := (inT_len op).2; omega) (letters_few _)
  repeat (first | refine sc rfl ?_ | refine so rfl ?_ | refine sb rfl ?_)
  refine O_call (Great_c l) (by rfl) (by rfl) (by rfl) (by rfl) (fun r hr => ?_)
  obtain ⟨g, rfl, hg⟩ := hr
  repeat (first | refine sc rfl ?_ | refine so rfl ?_ | refine sb rfl ?_)
  cases g with
  | true =>
    refine C_true rfl rfl ?_
    repeat (first | refine sc rfl ?_ | refine so rfl ?_ | refine sb rfl ?_)
    refine O_call awake_c (by rfl) (by rfl) (by rfl) (by rfl) (fun r hr => ?_)
    subst hr
    repeat (first | refine sc rfl ?_ | refine so rfl ?_ | refine sb rfl ?_)
    exact ⟨_, rfl, rfl, rfl⟩
  | false =>
    have hL := hg rfl
    refine C_false rfl rfl ?_
    repeat (first | refine sc rfl ?_ | refine so rfl ?_ | refine sb rfl ?_)
    refine O_callA [] (Made_A l hL.1) (by rfl) (by rfl) (by rfl) (by rfl) (by rfl) ?_
    rintro r cs' (⟨rfl, rfl⟩ | ⟨b, rfl, hW, rfl⟩)
    · repeat (first | refine sc rfl ?_ | refine so rfl ?_ | refine sb rfl ?_)
      refine O_call (Types_c op) (by rfl) (by rfl) (by rfl) (by rfl) (fun r hr => ?_)
      subst hr
      repeat (first | refine sc rfl ?_ | refine so rfl ?_ | refine sb rfl ?_)
      refine C_le _ (Le.freezebox 4 rfl rfl rfl) ?_
      refine C_le _ (Le.conv 8 (y := SL 5 Dcl.c []) rfl (fun e v h => by simp only [Rep] at h ⊢; exact repI_nil (by simpa only [RepI] using h))) ?_
      refine C_drawD rfl (by kernel_rfl) ?_
      repeat (first | refine sd rfl ?_ | refine sdb rfl ?_ | refine sds rfl ?_)
      refine D_call (InR_w _ _ i1) rfl rfl rfl rfl ?_
      refine D_call (TypesR_w _ _ i2) rfl rfl rfl rfl ?_
      refine D_call hA rfl rfl rfl rfl ?_
      repeat (first | refine sd rfl ?_ | refine sdb rfl ?_ | refine sds rfl ?_)
      refine D_call (OutR_w _ _ o1) rfl rfl rfl rfl ?_
      refine D_call (TypesR_w _ _ o2) rfl rfl rfl rfl ?_
      refine D_call hB rfl rfl rfl rfl ?_
      repeat (first | refine sd rfl ?_ | refine sdb rfl ?_ | refine sds rfl ?_)
      refine D_call (Fits_nil m op) rfl rfl rfl rfl ?_
      repeat (first | refine sd rfl ?_ | refine sdb rfl ?_ | refine sds rfl ?_)
      refine D_call (FitsZ_c [] ⟨Nat.zero_le _, fun i hi => absurd hi (Nat.not_lt_zero _)⟩ m op) rfl rfl rfl rfl ?_
      have e0 := nil_fit m op
      rw [e0]
      repeat (first | refine sd rfl ?_ | refine sdb rfl ?_ | refine sds rfl ?_)
      rw [show (fitZ [] m op == fitZ [] m op) = true from beq_self_eq_true _]
      repeat (first | refine sd rfl ?_ | refine sdb rfl ?_ | refine sds rfl ?_)
      refine D_call awake_c rfl rfl rfl rfl ?_
      repeat (first | refine sd rfl ?_ | refine sdb rfl ?_ | refine sds rfl ?_)
      repeat (first | refine sc rfl ?_ | refine so rfl ?_ | refine sb rfl ?_)
      exact ⟨_, rfl, rfl, rfl⟩
    · repeat (first | refine sc rfl ?_ | refine so rfl ?_ | refine sb rfl ?_)
      refine O_call (Types_c op) (by rfl) (by rfl) (by rfl) (by rfl) (fun r hr => ?_)
      subst hr
      repeat (first | refine sc rfl ?_ | refine so rfl ?_ | refine sb rfl ?_)
      refine C_le _ (Le.freezebox 4 rfl rfl rfl) ?_
      have hP : Prep l := ⟨hL.1, fun i hi => by have := hL.2 i hi; omega, fun i hi => (hW i hi).at_⟩
      have hF : FnA Try.prog 21 [PT b 0, .agg (Mth.c m), I64 op] [dsc b l none] (fun r cs' => r = I64 (fitZ l m op) ∧ cs' = []) :=
        (Fits_A b l hP m op (tot_of hL.1 hW op)).mono (fun r cs' ⟨e, h1, h2, h3⟩ => ⟨by rw [h1, Fits_fit hL.1 hW h2], h3⟩)
      refine C_drawX PF (fun ph => match ph with
        | 0 => [.abs (dsc b l none)]
        | _ => []) rfl rfl (by decide) rfl ?_
      repeat (refine sx rfl ⟨trivial, ?_⟩)
      refine SXp (InR_w _ _ i1) rfl rfl rfl rfl rfl rfl ?_
      refine SXp (TypesR_w _ _ i2) rfl rfl rfl rfl rfl rfl ?_
      refine SXp hA rfl rfl rfl rfl rfl rfl ?_
      repeat (refine sx rfl ⟨trivial, ?_⟩)
      refine SXp (OutR_w _ _ o1) rfl rfl rfl rfl rfl rfl ?_
      refine SXp (TypesR_w _ _ o2) rfl rfl rfl rfl rfl rfl ?_
      refine SXp hB rfl rfl rfl rfl rfl rfl ?_
      repeat (refine sx rfl ⟨trivial, ?_⟩)
      refine SXw (I64 (fitZ l m op)) 0 rfl rfl rfl rfl (X_callA [0] hF rfl rfl rfl rfl rfl) ?_
      repeat (refine sx rfl ⟨trivial, ?_⟩)
      refine SXp (FitsZ_c l hL.1 m op) rfl rfl rfl rfl rfl rfl ?_
      repeat (refine sx rfl ⟨trivial, ?_⟩)
      rw [show (fitZ l m op == fitZ l m op) = true from beq_self_eq_true _]
      repeat (refine sx rfl ⟨trivial, ?_⟩)
      refine SXp awake_c rfl rfl rfl rfl rfl rfl ?_
      repeat (refine sx rfl ⟨trivial, ?_⟩)
      refine sx rfl ?_
      repeat (first | refine sc rfl ?_ | refine so rfl ?_ | refine sb rfl ?_)
      exact ⟨_, rfl, rfl, rfl⟩
end Go.Proofs
