/- What a tally's text is. -/
import Derived.Test.YtloefdcbeakibaaGreatDoorC7
import Derived.Test.YtloefdcbeakibaaGreatDoorC6
import Derived.Test.YtloefdcbeakibaaGreatDoorC5
set_option linter.unusedSimpArgs false
set_option linter.unusedVariables false
set_option maxRecDepth 100000
namespace Go.Proofs
open Go.Sy Go.Lib

def moreL (k : Int) : List UInt8 :=
  if k = 11 then [116, 101, 120, 116] else if k = 12 then [110, 111, 110, 101] else if k = 13 then [102, 117, 108, 108] else if k = 14 then [113, 117, 111, 116, 97] else if k = 15 then [98, 117, 115, 121] else if k = 16 then [97, 117, 116, 104] else if k = 17 then [115, 116, 97, 116, 101] else if k = 18 then [108, 97, 116, 101] else if k = 19 then [103, 111, 110, 101] else if k = 20 then [114, 101, 115, 116] else [111, 116, 104, 101, 114]
def errL (k : Int) : List UInt8 :=
  if k = 0 then [111, 107] else if k = 1 then [102, 111, 114, 109] else if k = 2 then [115, 104, 111, 114, 116] else if k = 3 then [108, 111, 110, 103] else if k = 4 then [107, 105, 110, 100] else if k = 5 then [116, 111, 107, 101, 110] else if k = 6 then [110, 97, 109, 101] else if k = 7 then [116, 119, 105, 99, 101] else if k = 8 then [116, 121, 112, 101] else if k = 9 then [116, 97, 103] else if k = 10 then [100, 101, 101, 112] else moreL k
theorem more_c (k : Int) : FnP Tryz.prog 50 [I64 k] (· = .s (moreL k)) := by
  refine FnP.intro Tryz.tabOK Tryz.wide_ Tryz.func50 rfl (by decide) rfl (fun X => ?_)
  unfold moreL
  iterate 10
    repeat (first | refine sc rfl ?_ | refine so rfl ?_ | refine sb rfl ?_)
    refine C_if rfl (fun h => ?_) (fun h => ?_) <;> simp only [decide_eq_true_eq, decide_eq_false_iff_not, Bool.not_eq_true', Bool.not_eq_false', beq_iff_eq, beq_eq_false_iff_ne, bne_iff_ne, ne_eq, bne_eq_false_iff_eq, Decidable.not_not] at h
    · rw [if_pos h]
      repeat (first | refine sc rfl ?_ | refine so rfl ?_ | refine sb rfl ?_)
      exact ⟨_, rfl, rfl, rfl⟩
    rw [if_neg h]
  repeat (first | refine sc rfl ?_ | refine so rfl ?_ | refine sb rfl ?_)
  exact ⟨_, rfl, rfl, rfl⟩
theorem error_c (k : Int) : FnP Tryz.prog 36 [I64 k] (· = .s (errL k)) := by
  refine FnP.intro Tryz.tabOK Tryz.wide_ Tryz.func36 rfl (by decide) rfl (fun X => ?_)
  unfold errL
  iterate 11
    repeat (first | refine sc rfl ?_ | refine so rfl ?_ | refine sb rfl ?_)
    refine C_if rfl (fun h => ?_) (fun h => ?_) <;> simp only [decide_eq_true_eq, decide_eq_false_iff_not, Bool.not_eq_true', Bool.not_eq_false', beq_iff_eq, beq_eq_false_iff_ne, bne_iff_ne, ne_eq, bne_eq_false_iff_eq, Decidable.not_not] at h
    · rw [if_pos h]
      repeat (first | refine sc rfl ?_ | refine so rfl ?_ | refine sb rfl ?_)
      exact ⟨_, rfl, rfl, rfl⟩
    rw [if_neg h]
  repeat (first | refine sc rfl ?_ | refine so rfl ?_ | refine sb rfl ?_)
  refine O_call (more_c k) (by rfl) (by rfl) (by rfl) (by rfl) (fun r hr => ?_)
  subst hr
  repeat (first | refine sc rfl ?_ | refine so rfl ?_ | refine sb rfl ?_)
  exact ⟨_, rfl, rfl, rfl⟩
theorem ite_len {c : Prop} [Decidable c] {a b : List UInt8} {n : Nat} (ha : a.length ≤ n) (hb : b.length ≤ n) : (if c then a else b).length ≤ n := by
  split
  · exact ha
  · exact hb
theorem wordL_len (k : Int) : (wordL k).length ≤ 6 := by
  unfold wordL
  repeat (refine ite_len (by decide) ?_)
  decide
theorem errL_len (k : Int) : (errL k).length ≤ 5 := by
  unfold errL moreL
  repeat (refine ite_len (by decide) ?_)
  decide
def catL (F : Nat → List UInt8) : Nat → List UInt8
  | 0 => []
  | n + 1 => catL F n ++ F n
theorem catL_len {F : Nat → List UInt8} {m : Nat} : ∀ n, (∀ i, i < n → (F i).length ≤ m) → (catL F n).length ≤ n * m
  | 0, _ => by simp [catL]
  | n + 1, h => by
    have := catL_len n (fun i hi => h i (by omega))
    have := h n (by omega)
    rw [catL, List.length_append, Nat.succ_mul]; omega
abbrev wCame : List UInt8 := [99, 97, 109, 101]
abbrev wRef : List UInt8 := [114, 101, 102, 117, 115, 101, 100]
abbrev wSer : List UInt8 := [115, 101, 114, 118, 101, 100]
def FC (f : Nat → Int) (i : Nat) : List UInt8 := lineF (f (i + 1)) (Lib.join [wCame, wordL ((i + 1 : Nat) : Int)] [32])
def FR (f : Nat → Int) (i : Nat) : List UInt8 := lineF (f (10 + (i + 1))) (Lib.join [wRef, errL ((i + 1 : Nat) : Int)] [32])
def FS (f : Nat → Int) (i : Nat) : List UInt8 := lineF (f (31 + i)) (Lib.join [wSer, Lib.itoa ((i : Nat) : Int)] [32])
def FT (f : Nat → Int) : List UInt8 := lineF (f 40) (Lib.join [[105, 100, 108, 101]] [32]) ++ lineF (f 41) (Lib.join [[116, 105, 99, 107, 115]] [32]) ++ lineF (f 42) (Lib.join [[98, 121, 116, 101, 115]] [32]) ++ lineF (f 43) (Lib.join [[115, 104, 117, 116]] [32])
def TX (f : Nat → Int) : List UInt8 := catL (FC f) 9 ++ catL (FR f) 20 ++ catL (FS f) 9 ++ FT f
abbrev ok8 (x : Int) : Prop := -9223372036854775808 ≤ x ∧ x ≤ 9223372036854775807
theorem join2_len (a b : List UInt8) : (Lib.join [a, b] [32]).length = a.length + b.length + 1 := by
  simp [Lib.join]; omega
/-- The text, by what the counters' readers answer. -/
theorem text_G (pv : Value) (A : Abs) (f : Nat → Int) (hf : ∀ i, ok8 (f i))
    (hC : ∀ k, FnA Tryz.prog 12 [.v pv, I64 k] [A] (fun r cs' => r = I64 (if 1 ≤ k ∧ k ≤ 9 then f (0 + k.toNat) else 0) ∧ cs' = [A]))
    (hR : ∀ k, FnA Tryz.prog 14 [.v pv, I64 k] [A] (fun r cs' => r = I64 (if 1 ≤ k ∧ k ≤ 20 then f (10 + k.toNat) else 0) ∧ cs' = [A]))
    (hS : ∀ k, FnA Tryz.prog 16 [.v pv, I64 k] [A] (fun r cs' => r = I64 (if 0 ≤ k ∧ k ≤ 8 then f (31 + k.toNat) else 0) ∧ cs' = [A]))
    (hT : FnA Tryz.prog 20 [.v pv] [A] (fun r cs' => r = .tup [I64 (f 40), I64 (f 41), I64 (f 42), I64 (f 43)] ∧ cs' = [A])) :
    FnK 19 [.v pv] [A] (fun r cs' => r = .s (TX f) ∧ cs' = [A]) := by
  refine FnW.intro Tryz.tabOK Tryz.wide_ Tryz.func19 rfl (by decide) rfl (fun X hK => ?_)
  have lFC : ∀ i, (FC f i).length ≤ 64 := fun i => by
    have h1 := lineF_len (w := Lib.join [wCame, wordL ((i + 1 : Nat) : Int)] [32]) (hf (i + 1)).1 (hf (i + 1)).2
    have h2 := wordL_len ((i + 1 : Nat) : Int)
    rw [join2_len] at h1
    have : wCame.length = 4 := rfl
    unfold FC; omega
  have lFR : ∀ i, (FR f i).length ≤ 64 := fun i => by
    have h1 := lineF_len (w := Lib.join [wRef, errL ((i + 1 : Nat) : Int)] [32]) (hf (10 + (i + 1))).1 (hf (10 + (i + 1))).2
    have h2 := errL_len ((i + 1 : Nat) : Int)
    rw [join2_len] at h1
    have : wRef.length = 7 := rfl
    unfold FR; omega
  have lFS : ∀ i, i < 9 → (FS f i).length ≤ 64 := fun i hi => by
    have h1 := lineF_len (w := Lib.join [wSer, Lib.itoa ((i : Nat) : Int)] [32]) (hf (31 + i)).1 (hf (31 + i)).2
    have h2 := Lib.itoa_length_le ((i : Nat) : Int) (by omega) (by omega)
    rw [join2_len] at h1
    have : wSer.length = 6 := rfl
    unfold FS; omega
  repeat (first | refine sc rfl ?_ | refine so rfl ?_ | refine sb rfl ?_)
  refine C_absb 3 rfl rfl rfl (fun b => ?_)
  refine C_le _ (Le.addAbs (bufA (.slice none 0 0) 5 []) rfl (fun _ _ => ⟨rfl, .inl ⟨rfl, rfl⟩⟩)) ?_
  refine C_loop (fun q : Nat × Bool × Value => ⟨[(0, .v pv), (3, PT b 0), (4, I64 ((q.1 + 1 : Nat) : Int))], [.abs (bldC b q.2.1 q.2.2), .abs (bufA q.2.2 5 (catL (FC f) q.1)), .abs A]⟩) (fun q => q.1 ≤ 9 ∧ HdB q.2.2 (catL (FC f) q.1)) (fun q => 9 - q.1) (0, false, .slice none 0 0) ⟨Nat.zero_le _, .inl ⟨rfl, rfl⟩⟩ (Le.pick [1, 0, 0] ⟨rfl, rfl, rfl, trivial⟩ rfl) ?_
  rintro ⟨i, u, h⟩ ⟨hi, hH⟩
  simp only [] at hi hH ⊢
  have l1 := catL_len i (fun j _ => lFC j)
  repeat (first | refine sc rfl ?_ | refine so rfl ?_ | refine sb rfl ?_)
  refine C_if rfl (fun k1 => ?_) (fun k1 => ?_) <;> simp only [decide_eq_true_eq, decide_eq_false_iff_not, Bool.not_eq_true', Bool.not_eq_false', beq_iff_eq, beq_eq_false_iff_ne, bne_iff_ne, ne_eq, bne_eq_false_iff_eq, Decidable.not_not] at k1
  · repeat (first | refine sc rfl ?_ | refine so rfl ?_ | refine sb rfl ?_)
    first
      | refine O_callA [0] (hC ((i + 1 : Nat) : Int)) (by rfl) (by rfl) (by rfl) (by rfl) (by rfl) ?_
      | refine O_callA [1] (hC ((i + 1 : Nat) : Int)) (by rfl) (by rfl) (by rfl) (by rfl) (by rfl) ?_
      | refine O_callA [2] (hC ((i + 1 : Nat) : Int)) (by rfl) (by rfl) (by rfl) (by rfl) (by rfl) ?_
      | refine O_callA [3] (hC ((i + 1 : Nat) : Int)) (by rfl) (by rfl) (by rfl) (by rfl) (by rfl) ?_
      | refine O_callA [4] (hC ((i + 1 : Nat) : Int)) (by rfl) (by rfl) (by rfl) (by rfl) (by rfl) ?_
    rintro r' cs' ⟨rfl, rfl⟩
    rw [if_pos ⟨by omega, by omega⟩, show 0 + ((i + 1 : Nat) : Int).toNat = i + 1 by omega]
    repeat (first | refine sc rfl ?_ | refine so rfl ?_ | refine sb rfl ?_)
    refine O_call (word_c ((i + 1 : Nat) : Int)) (by rfl) (by rfl) (by rfl) (by rfl) (fun r hr => ?_)
    subst hr
    repeat (first | refine sc rfl ?_ | refine so rfl ?_ | refine sb rfl ?_)
    refine O_le _ (Le.vecrow (k := 20) 2 (fun j => WDc ([wCame, wordL ((i + 1 : Nat) : Int)].getD j default)) rfl rfl (fun j hj => ?_)) ?_
    · have hj' : j < 2 := hj
      have : j = 0 ∨ j = 1 := by omega
      rcases this with rfl | rfl <;> rfl
    refine O_le _ (Le.freezeL (l := [wCame, wordL ((i + 1 : Nat) : Int)]) (cells := WDc) 20 rfl rfl) ?_
    refine O_callW hK [] (line_W (f (i + 1)) (hf _).1 (hf _).2 [wCame, wordL ((i + 1 : Nat) : Int)] (by simp) (by simp) (by rw [join2_len]; have := wordL_len ((i + 1 : Nat) : Int); have : wCame.length = 4 := rfl; omega)) (by rfl) (by rfl) (by rfl) (by rfl) (by rfl) ?_
    rintro r' cs' ⟨rfl, rfl⟩
    repeat (first | refine sc rfl ?_ | refine so rfl ?_ | refine sb rfl ?_)
    first
      | refine O_callA [0, 0] (WriteString_A b u h (catL (FC f) i) (FC f i) hH (by have := lFC i; omega)) (by rfl) (by rfl) (by rfl) (by rfl) (by rfl) ?_
      | refine O_callA [0, 1] (WriteString_A b u h (catL (FC f) i) (FC f i) hH (by have := lFC i; omega)) (by rfl) (by rfl) (by rfl) (by rfl) (by rfl) ?_
      | refine O_callA [0, 2] (WriteString_A b u h (catL (FC f) i) (FC f i) hH (by have := lFC i; omega)) (by rfl) (by rfl) (by rfl) (by rfl) (by rfl) ?_
      | refine O_callA [0, 3] (WriteString_A b u h (catL (FC f) i) (FC f i) hH (by have := lFC i; omega)) (by rfl) (by rfl) (by rfl) (by rfl) (by rfl) ?_
      | refine O_callA [0, 4] (WriteString_A b u h (catL (FC f) i) (FC f i) hH (by have := lFC i; omega)) (by rfl) (by rfl) (by rfl) (by rfl) (by rfl) ?_
      | refine O_callA [0, 5] (WriteString_A b u h (catL (FC f) i) (FC f i) hH (by have := lFC i; omega)) (by rfl) (by rfl) (by rfl) (by rfl) (by rfl) ?_
      | refine O_callA [1, 0] (WriteString_A b u h (catL (FC f) i) (FC f i) hH (by have := lFC i; omega)) (by rfl) (by rfl) (by rfl) (by rfl) (by rfl) ?_
      | refine O_callA [1, 1] (WriteString_A b u h (catL (FC f) i) (FC f i) hH (by have := lFC i; omega)) (by rfl) (by rfl) (by rfl) (by rfl) (by rfl) ?_
      | refine O_callA [1, 2] (WriteString_A b u h (catL (FC f) i) (FC f i) hH (by have := lFC i; omega)) (by rfl) (by rfl) (by rfl) (by rfl) (by rfl) ?_
      | refine O_callA [1, 3] (WriteString_A b u h (catL (FC f) i) (FC f i) hH (by have := lFC i; omega)) (by rfl) (by rfl) (by rfl) (by rfl) (by rfl) ?_
      | refine O_callA [1, 4] (WriteString_A b u h (catL (FC f) i) (FC f i) hH (by have := lFC i; omega)) (by rfl) (by rfl) (by rfl) (by rfl) (by rfl) ?_
      | refine O_callA [1, 5] (WriteString_A b u h (catL (FC f) i) (FC f i) hH (by have := lFC i; omega)) (by rfl) (by rfl) (by rfl) (by rfl) (by rfl) ?_
      | refine O_callA [2, 0] (WriteString_A b u h (catL (FC f) i) (FC f i) hH (by have := lFC i; omega)) (by rfl) (by rfl) (by rfl) (by rfl) (by rfl) ?_
      | refine O_callA [2, 1] (WriteString_A b u h (catL (FC f) i) (FC f i) hH (by have := lFC i; omega)) (by rfl) (by rfl) (by rfl) (by rfl) (by rfl) ?_
      | refine O_callA [2, 2] (WriteString_A b u h (catL (FC f) i) (FC f i) hH (by have := lFC i; omega)) (by rfl) (by rfl) (by rfl) (by rfl) (by rfl) ?_
      | refine O_callA [2, 3] (WriteString_A b u h (catL (FC f) i) (FC f i) hH (by have := lFC i; omega)) (by rfl) (by rfl) (by rfl) (by rfl) (by rfl) ?_
      | refine O_callA [2, 4] (WriteString_A b u h (catL (FC f) i) (FC f i) hH (by have := lFC i; omega)) (by rfl) (by rfl) (by rfl) (by rfl) (by rfl) ?_
      | refine O_callA [2, 5] (WriteString_A b u h (catL (FC f) i) (FC f i) hH (by have := lFC i; omega)) (by rfl) (by rfl) (by rfl) (by rfl) (by rfl) ?_
      | refine O_callA [3, 0] (WriteString_A b u h (catL (FC f) i) (FC f i) hH (by have := lFC i; omega)) (by rfl) (by rfl) (by rfl) (by rfl) (by rfl) ?_
      | refine O_callA [3, 1] (WriteString_A b u h (catL (FC f) i) (FC f i) hH (by have := lFC i; omega)) (by rfl) (by rfl) (by rfl) (by rfl) (by rfl) ?_
      | refine O_callA [3, 2] (WriteString_A b u h (catL (FC f) i) (FC f i) hH (by have := lFC i; omega)) (by rfl) (by rfl) (by rfl) (by rfl) (by rfl) ?_
      | refine O_callA [3, 3] (WriteString_A b u h (catL (FC f) i) (FC f i) hH (by have := lFC i; omega)) (by rfl) (by rfl) (by rfl) (by rfl) (by rfl) ?_
      | refine O_callA [3, 4] (WriteString_A b u h (catL (FC f) i) (FC f i) hH (by have := lFC i; omega)) (by rfl) (by rfl) (by rfl) (by rfl) (by rfl) ?_
      | refine O_callA [3, 5] (WriteString_A b u h (catL (FC f) i) (FC f i) hH (by have := lFC i; omega)) (by rfl) (by rfl) (by rfl) (by rfl) (by rfl) ?_
      | refine O_callA [4, 0] (WriteString_A b u h (catL (FC f) i) (FC f i) hH (by have := lFC i; omega)) (by rfl) (by rfl) (by rfl) (by rfl) (by rfl) ?_
      | refine O_callA [4, 1] (WriteString_A b u h (catL (FC f) i) (FC f i) hH (by have := lFC i; omega)) (by rfl) (by rfl) (by rfl) (by rfl) (by rfl) ?_
      | refine O_callA [4, 2] (WriteString_A b u h (catL (FC f) i) (FC f i) hH (by have := lFC i; omega)) (by rfl) (by rfl) (by rfl) (by rfl) (by rfl) ?_
      | refine O_callA [4, 3] (WriteString_A b u h (catL (FC f) i) (FC f i) hH (by have := lFC i; omega)) (by rfl) (by rfl) (by rfl) (by rfl) (by rfl) ?_
      | refine O_callA [4, 4] (WriteString_A b u h (catL (FC f) i) (FC f i) hH (by have := lFC i; omega)) (by rfl) (by rfl) (by rfl) (by rfl) (by rfl) ?_
      | refine O_callA [4, 5] (WriteString_A b u h (catL (FC f) i) (FC f i) hH (by have := lFC i; omega)) (by rfl) (by rfl) (by rfl) (by rfl) (by rfl) ?_
      | refine O_callA [5, 0] (WriteString_A b u h (catL (FC f) i) (FC f i) hH (by have := lFC i; omega)) (by rfl) (by rfl) (by rfl) (by rfl) (by rfl) ?_
      | refine O_callA [5, 1] (WriteString_A b u h (catL (FC f) i) (FC f i) hH (by have := lFC i; omega)) (by rfl) (by rfl) (by rfl) (by rfl) (by rfl) ?_
      | refine O_callA [5, 2] (WriteString_A b u h (catL (FC f) i) (FC f i) hH (by have := lFC i; omega)) (by rfl) (by rfl) (by rfl) (by rfl) (by rfl) ?_
      | refine O_callA [5, 3] (WriteString_A b u h (catL (FC f) i) (FC f i) hH (by have := lFC i; omega)) (by rfl) (by rfl) (by rfl) (by rfl) (by rfl) ?_
      | refine O_callA [5, 4] (WriteString_A b u h (catL (FC f) i) (FC f i) hH (by have := lFC i; omega)) (by rfl) (by rfl) (by rfl) (by rfl) (by rfl) ?_
      | refine O_callA [5, 5] (WriteString_A b u h (catL (FC f) i) (FC f i) hH (by have := lFC i; omega)) (by rfl) (by rfl) (by rfl) (by rfl) (by rfl) ?_
      | refine O_callA [6, 0] (WriteString_A b u h (catL (FC f) i) (FC f i) hH (by have := lFC i; omega)) (by rfl) (by rfl) (by rfl) (by rfl) (by rfl) ?_
      | refine O_callA [6, 1] (WriteString_A b u h (catL (FC f) i) (FC f i) hH (by have := lFC i; omega)) (by rfl) (by rfl) (by rfl) (by rfl) (by rfl) ?_
      | refine O_callA [6, 2] (WriteString_A b u h (catL (FC f) i) (FC f i) hH (by have := lFC i; omega)) (by rfl) (by rfl) (by rfl) (by rfl) (by rfl) ?_
      | refine O_callA [6, 3] (WriteString_A b u h (catL (FC f) i) (FC f i) hH (by have := lFC i; omega)) (by rfl) (by rfl) (by rfl) (by rfl) (by rfl) ?_
      | refine O_callA [6, 4] (WriteString_A b u h (catL (FC f) i) (FC f i) hH (by have := lFC i; omega)) (by rfl) (by rfl) (by rfl) (by rfl) (by rfl) ?_
      | refine O_callA [6, 5] (WriteString_A b u h (catL (FC f) i) (FC f i) hH (by have := lFC i; omega)) (by rfl) (by rfl) (by rfl) (by rfl) (by rfl) ?_
    rintro r' cs' ⟨rfl, h', hH', rfl⟩
    repeat (first | refine sc rfl ?_ | refine so rfl ?_ | refine sb rfl ?_)
    rw [w64 (x := ((i + 1 : Nat) : Int) + 1) (by omega) (by omega)]
    refine ⟨(i + 1, true, h'), ⟨by simp only []; omega, hH'⟩, by simp only []; omega, ?_⟩
    first
      | exact Le.pick [0, 0, 0] ⟨rfl, rfl, rfl, trivial⟩ rfl
      | exact Le.pick [1, 1, 0] ⟨rfl, rfl, rfl, trivial⟩ rfl
  · obtain rfl : i = 9 := by omega
    repeat (first | refine sc rfl ?_ | refine so rfl ?_ | refine sb rfl ?_)
    refine C_loop (fun q : Nat × Bool × Value => ⟨[(0, .v pv), (3, PT b 0), (5, I64 ((q.1 + 1 : Nat) : Int))], [.abs (bldC b q.2.1 q.2.2), .abs (bufA q.2.2 5 (catL (FC f) 9 ++ catL (FR f) q.1)), .abs A]⟩) (fun q => q.1 ≤ 20 ∧ HdB q.2.2 (catL (FC f) 9 ++ catL (FR f) q.1)) (fun q => 20 - q.1) (0, u, h) ⟨Nat.zero_le _, by rw [catL, List.append_nil]; exact hH⟩ ?_ ?_
    · show Le _ _ _ ⟨_, [.abs (bldC b u h), .abs (bufA h 5 (catL (FC f) 9 ++ catL (FR f) 0)), .abs A]⟩
      rw [show catL (FR f) 0 = [] from rfl, List.append_nil]
      first
        | exact Le.pick [0, 0, 0] ⟨rfl, rfl, rfl, trivial⟩ rfl
        | exact Le.pick [1, 1, 0] ⟨rfl, rfl, rfl, trivial⟩ rfl
    rintro ⟨i, u, h⟩ ⟨hi, hH⟩
    simp only [] at hi hH ⊢
    have l2 := catL_len i (fun j _ => lFR j)
    repeat (first | refine sc rfl ?_ | refine so rfl ?_ | refine sb rfl ?_)
    refine C_if rfl (fun k1 => ?_) (fun k1 => ?_) <;> simp only [decide_eq_true_eq, decide_eq_false_iff_not, Bool.not_eq_true', Bool.not_eq_false', beq_iff_eq, beq_eq_false_iff_ne, bne_iff_ne, ne_eq, bne_eq_false_iff_eq, Decidable.not_not] at k1
    · repeat (first | refine sc rfl ?_ | refine so rfl ?_ | refine sb rfl ?_)
      first
        | refine O_callA [0] (hR ((i + 1 : Nat) : Int)) (by rfl) (by rfl) (by rfl) (by rfl) (by rfl) ?_
        | refine O_callA [1] (hR ((i + 1 : Nat) : Int)) (by rfl) (by rfl) (by rfl) (by rfl) (by rfl) ?_
        | refine O_callA [2] (hR ((i + 1 : Nat) : Int)) (by rfl) (by rfl) (by rfl) (by rfl) (by rfl) ?_
        | refine O_callA [3] (hR ((i + 1 : Nat) : Int)) (by rfl) (by rfl) (by rfl) (by rfl) (by rfl) ?_
        | refine O_callA [4] (hR ((i + 1 : Nat) : Int)) (by rfl) (by rfl) (by rfl) (by rfl) (by rfl) ?_
      rintro r' cs' ⟨rfl, rfl⟩
      rw [if_pos ⟨by omega, by omega⟩, show 10 + ((i + 1 : Nat) : Int).toNat = 10 + (i + 1) by omega]
      repeat (first | refine sc rfl ?_ | refine so rfl ?_ | refine sb rfl ?_)
      refine O_call (error_c ((i + 1 : Nat) : Int)) (by rfl) (by rfl) (by rfl) (by rfl) (fun r hr => ?_)
      subst hr
      repeat (first | refine sc rfl ?_ | refine so rfl ?_ | refine sb rfl ?_)
      refine O_le _ (Le.vecrow (k := 32) 2 (fun j => WDc ([wRef, errL ((i + 1 : Nat) : Int)].getD j default)) rfl rfl (fun j hj => ?_)) ?_
      · have hj' : j < 2 := hj
        have : j = 0 ∨ j = 1 := by omega
        rcases this with rfl | rfl <;> rfl
      refine O_le _ (Le.freezeL (l := [wRef, errL ((i + 1 : Nat) : Int)]) (cells := WDc) 32 rfl rfl) ?_
      refine O_callW hK [] (line_W (f (10 + (i + 1))) (hf _).1 (hf _).2 [wRef, errL ((i + 1 : Nat) : Int)] (by simp) (by simp) (by rw [join2_len]; have := errL_len ((i + 1 : Nat) : Int); have : wRef.length = 7 := rfl; omega)) (by rfl) (by rfl) (by rfl) (by rfl) (by rfl) ?_
      rintro r' cs' ⟨rfl, rfl⟩
      repeat (first | refine sc rfl ?_ | refine so rfl ?_ | refine sb rfl ?_)
      first
        | refine O_callA [0, 0] (WriteString_A b u h (catL (FC f) 9 ++ catL (FR f) i) (FR f i) hH (by have := lFR i; rw [List.length_append]; omega)) (by rfl) (by rfl) (by rfl) (by rfl) (by rfl) ?_
        | refine O_callA [0, 1] (WriteString_A b u h (catL (FC f) 9 ++ catL (FR f) i) (FR f i) hH (by have := lFR i; rw [List.length_append]; omega)) (by rfl) (by rfl) (by rfl) (by rfl) (by rfl) ?_
        | refine O_callA [0, 2] (WriteString_A b u h (catL (FC f) 9 ++ catL (FR f) i) (FR f i) hH (by have := lFR i; rw [List.length_append]; omega)) (by rfl) (by rfl) (by rfl) (by rfl) (by rfl) ?_
        | refine O_callA [0, 3] (WriteString_A b u h (catL (FC f) 9 ++ catL (FR f) i) (FR f i) hH (by have := lFR i; rw [List.length_append]; omega)) (by rfl) (by rfl) (by rfl) (by rfl) (by rfl) ?_
        | refine O_callA [0, 4] (WriteString_A b u h (catL (FC f) 9 ++ catL (FR f) i) (FR f i) hH (by have := lFR i; rw [List.length_append]; omega)) (by rfl) (by rfl) (by rfl) (by rfl) (by rfl) ?_
        | refine O_callA [0, 5] (WriteString_A b u h (catL (FC f) 9 ++ catL (FR f) i) (FR f i) hH (by have := lFR i; rw [List.length_append]; omega)) (by rfl) (by rfl) (by rfl) (by rfl) (by rfl) ?_
        | refine O_callA [1, 0] (WriteString_A b u h (catL (FC f) 9 ++ catL (FR f) i) (FR f i) hH (by have := lFR i; rw [List.length_append]; omega)) (by rfl) (by rfl) (by rfl) (by rfl) (by rfl) ?_
        | refine O_callA [1, 1] (WriteString_A b u h (catL (FC f) 9 ++ catL (FR f) i) (FR f i) hH (by have := lFR i; rw [List.length_append]; omega)) (by rfl) (by rfl) (by rfl) (by rfl) (by rfl) ?_
        | refine O_callA [1, 2] (WriteString_A b u h (catL (FC f) 9 ++ catL (FR f) i) (FR f i) hH (by have := lFR i; rw [List.length_append]; omega)) (by rfl) (by rfl) (by rfl) (by rfl) (by rfl) ?_
        | refine O_callA [1, 3] (WriteString_A b u h (catL (FC f) 9 ++ catL (FR f) i) (FR f i) hH (by have := lFR i; rw [List.length_append]; omega)) (by rfl) (by rfl) (by rfl) (by rfl) (by rfl) ?_
        | refine O_callA [1, 4] (WriteString_A b u h (catL (FC f) 9 ++ catL (FR f) i) (FR f i) hH (by have := lFR i; rw [List.length_append]; omega)) (by rfl) (by rfl) (by rfl) (by rfl) (by rfl) ?_
        | refine O_callA [1, 5] (WriteString_A b u h (catL (FC f) 9 ++ catL (FR f) i) (FR f i) hH (by have := lFR i; rw [List.length_append]; omega)) (by rfl) (by rfl) (by rfl) (by rfl) (by rfl) ?_
        | refine O_callA [2, 0] (WriteString_A b u h (catL (FC f) 9 ++ catL (FR f) i) (FR f i) hH (by have := lFR i; rw [List.length_append]; omega)) (by rfl) (by rfl) (by rfl) (by rfl) (by rfl) ?_
        | refine O_callA [2, 1] (WriteString_A b u h (catL (FC f) 9 ++ catL (FR f) i) (FR f i) hH (by have := lFR i; rw [List.length_append]; omega)) (by rfl) (by rfl) (by rfl) (by rfl) (by rfl) ?_
        | refine O_callA [2, 2] (WriteString_A b u h (catL (FC f) 9 ++ catL (FR f) i) (FR f i) hH (by have := lFR i; rw [List.length_append]; omega)) (by rfl) (by rfl) (by rfl) (by rfl) (by rfl) ?_
        | refine O_callA [2, 3] (WriteString_A b u h (catL (FC f) 9 ++ catL (FR f) i) (FR f i) hH (by have := lFR i; rw [List.length_append]; omega)) (by rfl) (by rfl) (by rfl) (by rfl) (by rfl) ?_
        | refine O_callA [2, 4] (WriteString_A b u h (catL (FC f) 9 ++ catL (FR f) i) (FR f i) hH (by have := lFR i; rw [List.length_append]; omega)) (by rfl) (by rfl) (by rfl) (by rfl) (by rfl) ?_
        | refine O_callA [2, 5] (WriteString_A b u h (catL (FC f) 9 ++ catL (FR f) i) (FR f i) hH (by have := lFR i; rw [List.length_append]; omega)) (by rfl) (by rfl) (by rfl) (by rfl) (by rfl) ?_
        | refine O_callA [3, 0] (WriteString_A b u h (catL (FC f) 9 ++ catL (FR f) i) (FR f i) hH (by have := lFR i; rw [List.length_append]; omega)) (by rfl) (by rfl) (by rfl) (by rfl) (by rfl) ?_
        | refine O_callA [3, 1] (WriteString_A b u h (catL (FC f) 9 ++ catL (FR f) i) (FR f i) hH (by have := lFR i; rw [List.length_append]; omega)) (by rfl) (by rfl) (by rfl) (by rfl) (by rfl) ?_
        | refine O_callA [3, 2] (WriteString_A b u h (catL (FC f) 9 ++ catL (FR f) i) (FR f i) hH (by have := lFR i; rw [List.length_append]; omega)) (by rfl) (by rfl) (by rfl) (by rfl) (by rfl) ?_
        | refine O_callA [3, 3] (WriteString_A b u h (catL (FC f) 9 ++ catL (FR f) i) (FR f i) hH (by have := lFR i; rw [List.length_append]; omega)) (by rfl) (by rfl) (by rfl) (by rfl) (by rfl) ?_
        | refine O_callA [3, 4] (WriteString_A b u h (catL (FC f) 9 ++ catL (FR f) i) (FR f i) hH (by have := lFR i; rw [List.length_append]; omega)) (by rfl) (by rfl) (by rfl) (by rfl) (by rfl) ?_
        | refine O_callA [3, 5] (WriteString_A b u h (catL (FC f) 9 ++ catL (FR f) i) (FR f i) hH (by have := lFR i; rw [List.length_append]; omega)) (by rfl) (by rfl) (by rfl) (by rfl) (by rfl) ?_
        | refine O_callA [4, 0] (WriteString_A b u h (catL (FC f) 9 ++ catL (FR f) i) (FR f i) hH (by have := lFR i; rw [List.length_append]; omega)) (by rfl) (by rfl) (by rfl) (by rfl) (by rfl) ?_
        | refine O_callA [4, 1] (WriteString_A b u h (catL (FC f) 9 ++ catL (FR f) i) (FR f i) hH (by have := lFR i; rw [List.length_append]; omega)) (by rfl) (by rfl) (by rfl) (by rfl) (by rfl) ?_
        | refine O_callA [4, 2] (WriteString_A b u h (catL (FC f) 9 ++ catL (FR f) i) (FR f i) hH (by have := lFR i; rw [List.length_append]; omega)) (by rfl) (by rfl) (by rfl) (by rfl) (by rfl) ?_
        | refine O_callA [4, 3] (WriteString_A b u h (catL (FC f) 9 ++ catL (FR f) i) (FR f i) hH (by have := lFR i; rw [List.length_append]; omega)) (by rfl) (by rfl) (by rfl) (by rfl) (by rfl) ?_
        | refine O_callA [4, 4] (WriteString_A b u h (catL (FC f) 9 ++ catL (FR f) i) (FR f i) hH (by have := lFR i; rw [List.length_append]; omega)) (by rfl) (by rfl) (by rfl) (by rfl) (by rfl) ?_
        | refine O_callA [4, 5] (WriteString_A b u h (catL (FC f) 9 ++ catL (FR f) i) (FR f i) hH (by have := lFR i; rw [List.length_append]; omega)) (by rfl) (by rfl) (by rfl) (by rfl) (by rfl) ?_
        | refine O_callA [5, 0] (WriteString_A b u h (catL (FC f) 9 ++ catL (FR f) i) (FR f i) hH (by have := lFR i; rw [List.length_append]; omega)) (by rfl) (by rfl) (by rfl) (by rfl) (by rfl) ?_
        | refine O_callA [5, 1] (WriteString_A b u h (catL (FC f) 9 ++ catL (FR f) i) (FR f i) hH (by have := lFR i; rw [List.length_append]; omega)) (by rfl) (by rfl) (by rfl) (by rfl) (by rfl) ?_
        | refine O_callA [5, 2] (WriteString_A b u h (catL (FC f) 9 ++ catL (FR f) i) (FR f i) hH (by have := lFR i; rw [List.length_append]; omega)) (by rfl) (by rfl) (by rfl) (by rfl) (by rfl) ?_
        | refine O_callA [5, 3] (WriteString_A b u h (catL (FC f) 9 ++ catL (FR f) i) (FR f i) hH (by have := lFR i; rw [List.length_append]; omega)) (by rfl) (by rfl) (by rfl) (by rfl) (by rfl) ?_
        | refine O_callA [5, 4] (WriteString_A b u h (catL (FC f) 9 ++ catL (FR f) i) (FR f i) hH (by have := lFR i; rw [List.length_append]; omega)) (by rfl) (by rfl) (by rfl) (by rfl) (by rfl) ?_
        | refine O_callA [5, 5] (WriteString_A b u h (catL (FC f) 9 ++ catL (FR f) i) (FR f i) hH (by have := lFR i; rw [List.length_append]; omega)) (by rfl) (by rfl) (by rfl) (by rfl) (by rfl) ?_
        | refine O_callA [6, 0] (WriteString_A b u h (catL (FC f) 9 ++ catL (FR f) i) (FR f i) hH (by have := lFR i; rw [List.length_append]; omega)) (by rfl) (by rfl) (by rfl) (by rfl) (by rfl) ?_
        | refine O_callA [6, 1] (WriteString_A b u h (catL (FC f) 9 ++ catL (FR f) i) (FR f i) hH (by have := lFR i; rw [List.length_append]; omega)) (by rfl) (by rfl) (by rfl) (by rfl) (by rfl) ?_
        | refine O_callA [6, 2] (WriteString_A b u h (catL (FC f) 9 ++ catL (FR f) i) (FR f i) hH (by have := lFR i; rw [List.length_append]; omega)) (by rfl) (by rfl) (by rfl) (by rfl) (by rfl) ?_
        | refine O_callA [6, 3] (WriteString_A b u h (catL (FC f) 9 ++ catL (FR f) i) (FR f i) hH (by have := lFR i; rw [List.length_append]; omega)) (by rfl) (by rfl) (by rfl) (by rfl) (by rfl) ?_
        | refine O_callA [6, 4] (WriteString_A b u h (catL (FC f) 9 ++ catL (FR f) i) (FR f i) hH (by have := lFR i; rw [List.length_append]; omega)) (by rfl) (by rfl) (by rfl) (by rfl) (by rfl) ?_
        | refine O_callA [6, 5] (WriteString_A b u h (catL (FC f) 9 ++ catL (FR f) i) (FR f i) hH (by have := lFR i; rw [List.length_append]; omega)) (by rfl) (by rfl) (by rfl) (by rfl) (by rfl) ?_
      rintro r' cs' ⟨rfl, h', hH', rfl⟩
      rw [List.append_assoc] at hH' ⊢
      repeat (first | refine sc rfl ?_ | refine so rfl ?_ | refine sb rfl ?_)
      rw [w64 (x := ((i + 1 : Nat) : Int) + 1) (by omega) (by omega)]
      refine ⟨(i + 1, true, h'), ⟨by simp only []; omega, hH'⟩, by simp only []; omega, ?_⟩
      first
        | exact Le.pick [0, 0, 0] ⟨rfl, rfl, rfl, trivial⟩ rfl
        | exact Le.pick [1, 1, 0] ⟨rfl, rfl, rfl, trivial⟩ rfl
    · obtain rfl : i = 20 := by omega
      repeat (first | refine sc rfl ?_ | refine so rfl ?_ | refine sb rfl ?_)
      refine C_loop (fun q : Nat × Bool × Value => ⟨[(0, .v pv), (3, PT b 0), (35, I64 (q.1 : Nat))], [.abs (bldC b q.2.1 q.2.2), .abs (bufA q.2.2 5 (catL (FC f) 9 ++ catL (FR f) 20 ++ catL (FS f) q.1)), .abs A]⟩) (fun q => q.1 ≤ 9 ∧ HdB q.2.2 (catL (FC f) 9 ++ catL (FR f) 20 ++ catL (FS f) q.1)) (fun q => 9 - q.1) (0, u, h) ⟨Nat.zero_le _, by rw [show catL (FS f) 0 = [] from rfl, List.append_nil]; exact hH⟩ ?_ ?_
      · show Le _ _ _ ⟨_, [.abs (bldC b u h), .abs (bufA h 5 (catL (FC f) 9 ++ catL (FR f) 20 ++ catL (FS f) 0)), .abs A]⟩
        rw [show catL (FS f) 0 = [] from rfl, List.append_nil]
        first
          | exact Le.pick [0, 0, 0] ⟨rfl, rfl, rfl, trivial⟩ rfl
          | exact Le.pick [1, 1, 0] ⟨rfl, rfl, rfl, trivial⟩ rfl
      rintro ⟨i, u, h⟩ ⟨hi, hH⟩
      simp only [] at hi hH ⊢
      have l3 := catL_len i (fun j hj => lFS j (by omega))
      repeat (first | refine sc rfl ?_ | refine so rfl ?_ | refine sb rfl ?_)
      refine C_if rfl (fun k1 => ?_) (fun k1 => ?_) <;> simp only [decide_eq_true_eq, decide_eq_false_iff_not, Bool.not_eq_true', Bool.not_eq_false', beq_iff_eq, beq_eq_false_iff_ne, bne_iff_ne, ne_eq, bne_eq_false_iff_eq, Decidable.not_not] at k1
      · repeat (first | refine sc rfl ?_ | refine so rfl ?_ | refine sb rfl ?_)
        first
          | refine O_callA [0] (hS ((i : Nat) : Int)) (by rfl) (by rfl) (by rfl) (by rfl) (by rfl) ?_
          | refine O_callA [1] (hS ((i : Nat) : Int)) (by rfl) (by rfl) (by rfl) (by rfl) (by rfl) ?_
          | refine O_callA [2] (hS ((i : Nat) : Int)) (by rfl) (by rfl) (by rfl) (by rfl) (by rfl) ?_
          | refine O_callA [3] (hS ((i : Nat) : Int)) (by rfl) (by rfl) (by rfl) (by rfl) (by rfl) ?_
          | refine O_callA [4] (hS ((i : Nat) : Int)) (by rfl) (by rfl) (by rfl) (by rfl) (by rfl) ?_
        rintro r' cs' ⟨rfl, rfl⟩
        rw [if_pos ⟨by omega, by omega⟩, show 31 + ((i : Nat) : Int).toNat = 31 + i by omega]
        repeat (first | refine sc rfl ?_ | refine so rfl ?_ | refine sb rfl ?_)
        refine O_callW hK [] (itoa_W ((i : Nat) : Int) (by omega) (by omega)) (by rfl) (by rfl) (by rfl) (by rfl) (by rfl) ?_
        rintro r' cs' ⟨rfl, rfl⟩
        repeat (first | refine sc rfl ?_ | refine so rfl ?_ | refine sb rfl ?_)
        refine O_le _ (Le.vecrow (k := 43) 2 (fun j => WDc ([wSer, Lib.itoa ((i : Nat) : Int)].getD j default)) rfl rfl (fun j hj => ?_)) ?_
        · have hj' : j < 2 := hj
          have : j = 0 ∨ j = 1 := by omega
          rcases this with rfl | rfl <;> rfl
        refine O_le _ (Le.freezeL (l := [wSer, Lib.itoa ((i : Nat) : Int)]) (cells := WDc) 43 rfl rfl) ?_
        refine O_callW hK [] (line_W (f (31 + i)) (hf _).1 (hf _).2 [wSer, Lib.itoa ((i : Nat) : Int)] (by simp) (by simp) (by rw [join2_len]; have := Lib.itoa_length_le ((i : Nat) : Int) (by omega) (by omega); have : wSer.length = 6 := rfl; omega)) (by rfl) (by rfl) (by rfl) (by rfl) (by rfl) ?_
        rintro r' cs' ⟨rfl, rfl⟩
        repeat (first | refine sc rfl ?_ | refine so rfl ?_ | refine sb rfl ?_)
        first
          | refine O_callA [0, 0] (WriteString_A b u h (catL (FC f) 9 ++ catL (FR f) 20 ++ catL (FS f) i) (FS f i) hH (by have := lFS i (by omega); rw [List.length_append, List.length_append]; omega)) (by rfl) (by rfl) (by rfl) (by rfl) (by rfl) ?_
          | refine O_callA [0, 1] (WriteString_A b u h (catL (FC f) 9 ++ catL (FR f) 20 ++ catL (FS f) i) (FS f i) hH (by have := lFS i (by omega); rw [List.length_append, List.length_append]; omega)) (by rfl) (by rfl) (by rfl) (by rfl) (by rfl) ?_
          | refine O_callA [0, 2] (WriteString_A b u h (catL (FC f) 9 ++ catL (FR f) 20 ++ catL (FS f) i) (FS f i) hH (by have := lFS i (by omega); rw [List.length_append, List.length_append]; omega)) (by rfl) (by rfl) (by rfl) (by rfl) (by rfl) ?_
          | refine O_callA [0, 3] (WriteString_A b u h (catL (FC f) 9 ++ catL (FR f) 20 ++ catL (FS f) i) (FS f i) hH (by have := lFS i (by omega); rw [List.length_append, List.length_append]; omega)) (by rfl) (by rfl) (by rfl) (by rfl) (by rfl) ?_
          | refine O_callA [0, 4] (WriteString_A b u h (catL (FC f) 9 ++ catL (FR f) 20 ++ catL (FS f) i) (FS f i) hH (by have := lFS i (by omega); rw [List.length_append, List.length_append]; omega)) (by rfl) (by rfl) (by rfl) (by rfl) (by rfl) ?_
          | refine O_callA [0, 5] (WriteString_A b u h (catL (FC f) 9 ++ catL (FR f) 20 ++ catL (FS f) i) (FS f i) hH (by have := lFS i (by omega); rw [List.length_append, List.length_append]; omega)) (by rfl) (by rfl) (by rfl) (by rfl) (by rfl) ?_
          | refine O_callA [1, 0] (WriteString_A b u h (catL (FC f) 9 ++ catL (FR f) 20 ++ catL (FS f) i) (FS f i) hH (by have := lFS i (by omega); rw [List.length_append, List.length_append]; omega)) (by rfl) (by rfl) (by rfl) (by rfl) (by rfl) ?_
          | refine O_callA [1, 1] (WriteString_A b u h (catL (FC f) 9 ++ catL (FR f) 20 ++ catL (FS f) i) (FS f i) hH (by have := lFS i (by omega); rw [List.length_append, List.length_append]; omega)) (by rfl) (by rfl) (by rfl) (by rfl) (by rfl) ?_
          | refine O_callA [1, 2] (WriteString_A b u h (catL (FC f) 9 ++ catL (FR f) 20 ++ catL (FS f) i) (FS f i) hH (by have := lFS i (by omega); rw [List.length_append, List.length_append]; omega)) (by rfl) (by rfl) (by rfl) (by rfl) (by rfl) ?_
          | refine O_callA [1, 3] (WriteString_A b u h (catL (FC f) 9 ++ catL (FR f) 20 ++ catL (FS f) i) (FS f i) hH (by have := lFS i (by omega); rw [List.length_append, List.length_append]; omega)) (by rfl) (by rfl) (by rfl) (by rfl) (by rfl) ?_
          | refine O_callA [1, 4] (WriteString_A b u h (catL (FC f) 9 ++ catL (FR f) 20 ++ catL (FS f) i) (FS f i) hH (by have := lFS i (by omega); rw [List.length_append, List.length_append]; omega)) (by rfl) (by rfl) (by rfl) (by rfl) (by rfl) ?_
          | refine O_callA [1, 5] (WriteString_A b u h (catL (FC f) 9 ++ catL (FR f) 20 ++ catL (FS f) i) (FS f i) hH (by have := lFS i (by omega); rw [List.length_append, List.length_append]; omega)) (by rfl) (by rfl) (by rfl) (by rfl) (by rfl) ?_
          | refine O_callA [2, 0] (WriteString_A b u h (catL (FC f) 9 ++ catL (FR f) 20 ++ catL (FS f) i) (FS f i) hH (by have := lFS i (by omega); rw [List.length_append, List.length_append]; omega)) (by rfl) (by rfl) (by rfl) (by rfl) (by rfl) ?_
          | refine O_callA [2, 1] (WriteString_A b u h (catL (FC f) 9 ++ catL (FR f) 20 ++ catL (FS f) i) (FS f i) hH (by have := lFS i (by omega); rw [List.length_append, List.length_append]; omega)) (by rfl) (by rfl) (by rfl) (by rfl) (by rfl) ?_
          | refine O_callA [2, 2] (WriteString_A b u h (catL (FC f) 9 ++ catL (FR f) 20 ++ catL (FS f) i) (FS f i) hH (by have := lFS i (by omega); rw [List.length_append, List.length_append]; omega)) (by rfl) (by rfl) (by rfl) (by rfl) (by rfl) ?_
          | refine O_callA [2, 3] (WriteString_A b u h (catL (FC f) 9 ++ catL (FR f) 20 ++ catL (FS f) i) (FS f i) hH (by have := lFS i (by omega); rw [List.length_append, List.length_append]; omega)) (by rfl) (by rfl) (by rfl) (by rfl) (by rfl) ?_
          | refine O_callA [2, 4] (WriteString_A b u h (catL (FC f) 9 ++ catL (FR f) 20 ++ catL (FS f) i) (FS f i) hH (by have := lFS i (by omega); rw [List.length_append, List.length_append]; omega)) (by rfl) (by rfl) (by rfl) (by rfl) (by rfl) ?_
          | refine O_callA [2, 5] (WriteString_A b u h (catL (FC f) 9 ++ catL (FR f) 20 ++ catL (FS f) i) (FS f i) hH (by have := lFS i (by omega); rw [List.length_append, List.length_append]; omega)) (by rfl) (by rfl) (by rfl) (by rfl) (by rfl) ?_
          | refine O_callA [3, 0] (WriteString_A b u h (catL (FC f) 9 ++ catL (FR f) 20 ++ catL (FS f) i) (FS f i) hH (by have := lFS i (by omega); rw [List.length_append, List.length_append]; omega)) (by rfl) (by rfl) (by rfl) (by rfl) (by rfl) ?_
          | refine O_callA [3, 1] (WriteString_A b u h (catL (FC f) 9 ++ catL (FR f) 20 ++ catL (FS f) i) (FS f i) hH (by have := lFS i (by omega); rw [List.length_append, List.length_append]; omega)) (by rfl) (by rfl) (by rfl) (by rfl) (by rfl) ?_
          | refine O_callA [3, 2] (WriteString_A b u h (catL (FC f) 9 ++ catL (FR f) 20 ++ catL (FS f) i) (FS f i) hH (by have := lFS i (by omega); rw [List.length_append, List.length_append]; omega)) (by rfl) (by rfl) (by rfl) (by rfl) (by rfl) ?_
          | refine O_callA [3, 3] (WriteString_A b u h (catL (FC f) 9 ++ catL (FR f) 20 ++ catL (FS f) i) (FS f i) hH (by have := lFS i (by omega); rw [List.length_append, List.length_append]; omega)) (by rfl) (by rfl) (by rfl) (by rfl) (by rfl) ?_
          | refine O_callA [3, 4] (WriteString_A b u h (catL (FC f) 9 ++ catL (FR f) 20 ++ catL (FS f) i) (FS f i) hH (by have := lFS i (by omega); rw [List.length_append, List.length_append]; omega)) (by rfl) (by rfl) (by rfl) (by rfl) (by rfl) ?_
          | refine O_callA [3, 5] (WriteString_A b u h (catL (FC f) 9 ++ catL (FR f) 20 ++ catL (FS f) i) (FS f i) hH (by have := lFS i (by omega); rw [List.length_append, List.length_append]; omega)) (by rfl) (by rfl) (by rfl) (by rfl) (by rfl) ?_
          | refine O_callA [4, 0] (WriteString_A b u h (catL (FC f) 9 ++ catL (FR f) 20 ++ catL (FS f) i) (FS f i) hH (by have := lFS i (by omega); rw [List.length_append, List.length_append]; omega)) (by rfl) (by rfl) (by rfl) (by rfl) (by rfl) ?_
          | refine O_callA [4, 1] (WriteString_A b u h (catL (FC f) 9 ++ catL (FR f) 20 ++ catL (FS f) i) (FS f i) hH (by have := lFS i (by omega); rw [List.length_append, List.length_append]; omega)) (by rfl) (by rfl) (by rfl) (by rfl) (by rfl) ?_
          | refine O_callA [4, 2] (WriteString_A b u h (catL (FC f) 9 ++ catL (FR f) 20 ++ catL (FS f) i) (FS f i) hH (by have := lFS i (by omega); rw [List.length_append, List.length_append]; omega)) (by rfl) (by rfl) (by rfl) (by rfl) (by rfl) ?_
          | refine O_callA [4, 3] (WriteString_A b u h (catL (FC f) 9 ++ catL (FR f) 20 ++ catL (FS f) i) (FS f i) hH (by have := lFS i (by omega); rw [List.length_append, List.length_append]; omega)) (by rfl) (by rfl) (by rfl) (by rfl) (by rfl) ?_
          | refine O_callA [4, 4] (WriteString_A b u h (catL (FC f) 9 ++ catL (FR f) 20 ++ catL (FS f) i) (FS f i) hH (by have := lFS i (by omega); rw [List.length_append, List.length_append]; omega)) (by rfl) (by rfl) (by rfl) (by rfl) (by rfl) ?_
          | refine O_callA [4, 5] (WriteString_A b u h (catL (FC f) 9 ++ catL (FR f) 20 ++ catL (FS f) i) (FS f i) hH (by have := lFS i (by omega); rw [List.length_append, List.length_append]; omega)) (by rfl) (by rfl) (by rfl) (by rfl) (by rfl) ?_
          | refine O_callA [5, 0] (WriteString_A b u h (catL (FC f) 9 ++ catL (FR f) 20 ++ catL (FS f) i) (FS f i) hH (by have := lFS i (by omega); rw [List.length_append, List.length_append]; omega)) (by rfl) (by rfl) (by rfl) (by rfl) (by rfl) ?_
          | refine O_callA [5, 1] (WriteString_A b u h (catL (FC f) 9 ++ catL (FR f) 20 ++ catL (FS f) i) (FS f i) hH (by have := lFS i (by omega); rw [List.length_append, List.length_append]; omega)) (by rfl) (by rfl) (by rfl) (by rfl) (by rfl) ?_
          | refine O_callA [5, 2] (WriteString_A b u h (catL (FC f) 9 ++ catL (FR f) 20 ++ catL (FS f) i) (FS f i) hH (by have := lFS i (by omega); rw [List.length_append, List.length_append]; omega)) (by rfl) (by rfl) (by rfl) (by rfl) (by rfl) ?_
          | refine O_callA [5, 3] (WriteString_A b u h (catL (FC f) 9 ++ catL (FR f) 20 ++ catL (FS f) i) (FS f i) hH (by have := lFS i (by omega); rw [List.length_append, List.length_append]; omega)) (by rfl) (by rfl) (by rfl) (by rfl) (by rfl) ?_
          | refine O_callA [5, 4] (WriteString_A b u h (catL (FC f) 9 ++ catL (FR f) 20 ++ catL (FS f) i) (FS f i) hH (by have := lFS i (by omega); rw [List.length_append, List.length_append]; omega)) (by rfl) (by rfl) (by rfl) (by rfl) (by rfl) ?_
          | refine O_callA [5, 5] (WriteString_A b u h (catL (FC f) 9 ++ catL (FR f) 20 ++ catL (FS f) i) (FS f i) hH (by have := lFS i (by omega); rw [List.length_append, List.length_append]; omega)) (by rfl) (by rfl) (by rfl) (by rfl) (by rfl) ?_
          | refine O_callA [6, 0] (WriteString_A b u h (catL (FC f) 9 ++ catL (FR f) 20 ++ catL (FS f) i) (FS f i) hH (by have := lFS i (by omega); rw [List.length_append, List.length_append]; omega)) (by rfl) (by rfl) (by rfl) (by rfl) (by rfl) ?_
          | refine O_callA [6, 1] (WriteString_A b u h (catL (FC f) 9 ++ catL (FR f) 20 ++ catL (FS f) i) (FS f i) hH (by have := lFS i (by omega); rw [List.length_append, List.length_append]; omega)) (by rfl) (by rfl) (by rfl) (by rfl) (by rfl) ?_
          | refine O_callA [6, 2] (WriteString_A b u h (catL (FC f) 9 ++ catL (FR f) 20 ++ catL (FS f) i) (FS f i) hH (by have := lFS i (by omega); rw [List.length_append, List.length_append]; omega)) (by rfl) (by rfl) (by rfl) (by rfl) (by rfl) ?_
          | refine O_callA [6, 3] (WriteString_A b u h (catL (FC f) 9 ++ catL (FR f) 20 ++ catL (FS f) i) (FS f i) hH (by have := lFS i (by omega); rw [List.length_append, List.length_append]; omega)) (by rfl) (by rfl) (by rfl) (by rfl) (by rfl) ?_
          | refine O_callA [6, 4] (WriteString_A b u h (catL (FC f) 9 ++ catL (FR f) 20 ++ catL (FS f) i) (FS f i) hH (by have := lFS i (by omega); rw [List.length_append, List.length_append]; omega)) (by rfl) (by rfl) (by rfl) (by rfl) (by rfl) ?_
          | refine O_callA [6, 5] (WriteString_A b u h (catL (FC f) 9 ++ catL (FR f) 20 ++ catL (FS f) i) (FS f i) hH (by have := lFS i (by omega); rw [List.length_append, List.length_append]; omega)) (by rfl) (by rfl) (by rfl) (by rfl) (by rfl) ?_
        rintro r' cs' ⟨rfl, h', hH', rfl⟩
        rw [List.append_assoc] at hH' ⊢
        repeat (first | refine sc rfl ?_ | refine so rfl ?_ | refine sb rfl ?_)
        rw [w64 (x := ((i : Nat) : Int) + 1) (by omega) (by omega)]
        refine ⟨(i + 1, true, h'), ⟨by simp only []; omega, hH'⟩, by simp only []; omega, ?_⟩
        first
          | exact Le.pick [0, 0, 0] ⟨rfl, rfl, rfl, trivial⟩ rfl
          | exact Le.pick [1, 1, 0] ⟨rfl, rfl, rfl, trivial⟩ rfl
      obtain rfl : i = 9 := by omega
      repeat (first | refine sc rfl ?_ | refine so rfl ?_ | refine sb rfl ?_)
      first
        | refine O_callA [0] (hT) (by rfl) (by rfl) (by rfl) (by rfl) (by rfl) ?_
        | refine O_callA [1] (hT) (by rfl) (by rfl) (by rfl) (by rfl) (by rfl) ?_
        | refine O_callA [2] (hT) (by rfl) (by rfl) (by rfl) (by rfl) (by rfl) ?_
        | refine O_callA [3] (hT) (by rfl) (by rfl) (by rfl) (by rfl) (by rfl) ?_
        | refine O_callA [4] (hT) (by rfl) (by rfl) (by rfl) (by rfl) (by rfl) ?_
      rintro r' cs' ⟨rfl, rfl⟩
      repeat (first | refine sc rfl ?_ | refine so rfl ?_ | refine sb rfl ?_)
      have q0 := lineF_len (w := Lib.join [[105, 100, 108, 101]] [32]) (hf 40).1 (hf 40).2
      have q1 := lineF_len (w := Lib.join [[116, 105, 99, 107, 115]] [32]) (hf 41).1 (hf 41).2
      have q2 := lineF_len (w := Lib.join [[98, 121, 116, 101, 115]] [32]) (hf 42).1 (hf 42).2
      have q3 := lineF_len (w := Lib.join [[115, 104, 117, 116]] [32]) (hf 43).1 (hf 43).2
      rw [show (Lib.join [[105, 100, 108, 101]] [32]).length = 4 from rfl] at q0
      rw [show (Lib.join [[116, 105, 99, 107, 115]] [32]).length = 5 from rfl] at q1
      rw [show (Lib.join [[98, 121, 116, 101, 115]] [32]).length = 5 from rfl] at q2
      rw [show (Lib.join [[115, 104, 117, 116]] [32]).length = 4 from rfl] at q3
      refine O_le _ (Le.vecrow (k := 55) 1 (fun j => WDc ([([105, 100, 108, 101] : List UInt8)].getD j default)) rfl rfl (fun j hj => ?_)) ?_
      · have hj' : j < 1 := hj
        obtain rfl : j = 0 := by omega
        rfl
      refine O_le _ (Le.freezeL (l := [([105, 100, 108, 101] : List UInt8)]) (cells := WDc) 55 rfl rfl) ?_
      refine O_callW hK [] (line_W (f 40) (hf _).1 (hf _).2 [[105, 100, 108, 101]] (by simp) (by simp) (by decide)) (by rfl) (by rfl) (by rfl) (by rfl) (by rfl) ?_
      rintro r' cs' ⟨rfl, rfl⟩
      repeat (first | refine sc rfl ?_ | refine so rfl ?_ | refine sb rfl ?_)
      refine O_le _ (Le.vecrow (k := 58) 1 (fun j => WDc ([([116, 105, 99, 107, 115] : List UInt8)].getD j default)) rfl rfl (fun j hj => ?_)) ?_
      · have hj' : j < 1 := hj
        obtain rfl : j = 0 := by omega
        rfl
      refine O_le _ (Le.freezeL (l := [([116, 105, 99, 107, 115] : List UInt8)]) (cells := WDc) 58 rfl rfl) ?_
      refine O_callW hK [] (line_W (f 41) (hf _).1 (hf _).2 [[116, 105, 99, 107, 115]] (by simp) (by simp) (by decide)) (by rfl) (by rfl) (by rfl) (by rfl) (by rfl) ?_
      rintro r' cs' ⟨rfl, rfl⟩
      repeat (first | refine sc rfl ?_ | refine so rfl ?_ | refine sb rfl ?_)
      refine ⟨by (try simp only [List.length_append]); omega, ?_⟩
      repeat (first | refine sc rfl ?_ | refine so rfl ?_ | refine sb rfl ?_)
      refine O_le _ (Le.vecrow (k := 62) 1 (fun j => WDc ([([98, 121, 116, 101, 115] : List UInt8)].getD j default)) rfl rfl (fun j hj => ?_)) ?_
      · have hj' : j < 1 := hj
        obtain rfl : j = 0 := by omega
        rfl
      refine O_le _ (Le.freezeL (l := [([98, 121, 116, 101, 115] : List UInt8)]) (cells := WDc) 62 rfl rfl) ?_
      refine O_callW hK [] (line_W (f 42) (hf _).1 (hf _).2 [[98, 121, 116, 101, 115]] (by simp) (by simp) (by decide)) (by rfl) (by rfl) (by rfl) (by rfl) (by rfl) ?_
      rintro r' cs' ⟨rfl, rfl⟩
      repeat (first | refine sc rfl ?_ | refine so rfl ?_ | refine sb rfl ?_)
      refine ⟨by (try simp only [List.length_append]); omega, ?_⟩
      repeat (first | refine sc rfl ?_ | refine so rfl ?_ | refine sb rfl ?_)
      refine O_le _ (Le.vecrow (k := 66) 1 (fun j => WDc ([([115, 104, 117, 116] : List UInt8)].getD j default)) rfl rfl (fun j hj => ?_)) ?_
      · have hj' : j < 1 := hj
        obtain rfl : j = 0 := by omega
        rfl
      refine O_le _ (Le.freezeL (l := [([115, 104, 117, 116] : List UInt8)]) (cells := WDc) 66 rfl rfl) ?_
      refine O_callW hK [] (line_W (f 43) (hf _).1 (hf _).2 [[115, 104, 117, 116]] (by simp) (by simp) (by decide)) (by rfl) (by rfl) (by rfl) (by rfl) (by rfl) ?_
      rintro r' cs' ⟨rfl, rfl⟩
      repeat (first | refine sc rfl ?_ | refine so rfl ?_ | refine sb rfl ?_)
      refine ⟨by (try simp only [List.length_append]); omega, ?_⟩
      repeat (first | refine sc rfl ?_ | refine so rfl ?_ | refine sb rfl ?_)
      first
        | refine O_callA [0, 0] (WriteString_A b u h (catL (FC f) 9 ++ catL (FR f) 20 ++ catL (FS f) 9) (FT f) hH (by unfold FT; simp only [List.length_append]; omega)) (by rfl) (by rfl) (by rfl) (by rfl) (by rfl) ?_
        | refine O_callA [0, 1] (WriteString_A b u h (catL (FC f) 9 ++ catL (FR f) 20 ++ catL (FS f) 9) (FT f) hH (by unfold FT; simp only [List.length_append]; omega)) (by rfl) (by rfl) (by rfl) (by rfl) (by rfl) ?_
        | refine O_callA [0, 2] (WriteString_A b u h (catL (FC f) 9 ++ catL (FR f) 20 ++ catL (FS f) 9) (FT f) hH (by unfold FT; simp only [List.length_append]; omega)) (by rfl) (by rfl) (by rfl) (by rfl) (by rfl) ?_
        | refine O_callA [0, 3] (WriteString_A b u h (catL (FC f) 9 ++ catL (FR f) 20 ++ catL (FS f) 9) (FT f) hH (by unfold FT; simp only [List.length_append]; omega)) (by rfl) (by rfl) (by rfl) (by rfl) (by rfl) ?_
        | refine O_callA [0, 4] (WriteString_A b u h (catL (FC f) 9 ++ catL (FR f) 20 ++ catL (FS f) 9) (FT f) hH (by unfold FT; simp only [List.length_append]; omega)) (by rfl) (by rfl) (by rfl) (by rfl) (by rfl) ?_
        | refine O_callA [0, 5] (WriteString_A b u h (catL (FC f) 9 ++ catL (FR f) 20 ++ catL (FS f) 9) (FT f) hH (by unfold FT; simp only [List.length_append]; omega)) (by rfl) (by rfl) (by rfl) (by rfl) (by rfl) ?_
        | refine O_callA [1, 0] (WriteString_A b u h (catL (FC f) 9 ++ catL (FR f) 20 ++ catL (FS f) 9) (FT f) hH (by unfold FT; simp only [List.length_append]; omega)) (by rfl) (by rfl) (by rfl) (by rfl) (by rfl) ?_
        | refine O_callA [1, 1] (WriteString_A b u h (catL (FC f) 9 ++ catL (FR f) 20 ++ catL (FS f) 9) (FT f) hH (by unfold FT; simp only [List.length_append]; omega)) (by rfl) (by rfl) (by rfl) (by rfl) (by rfl) ?_
        | refine O_callA [1, 2] (WriteString_A b u h (catL (FC f) 9 ++ catL (FR f) 20 ++ catL (FS f) 9) (FT f) hH (by unfold FT; simp only [List.length_append]; omega)) (by rfl) (by rfl) (by rfl) (by rfl) (by rfl) ?_
        | refine O_callA [1, 3] (WriteString_A b u h (catL (FC f) 9 ++ catL (FR f) 20 ++ catL (FS f) 9) (FT f) hH (by unfold FT; simp only [List.length_append]; omega)) (by rfl) (by rfl) (by rfl) (by rfl) (by rfl) ?_
        | refine O_callA [1, 4] (WriteString_A b u h (catL (FC f) 9 ++ catL (FR f) 20 ++ catL (FS f) 9) (FT f) hH (by unfold FT; simp only [List.length_append]; omega)) (by rfl) (by rfl) (by rfl) (by rfl) (by rfl) ?_
        | refine O_callA [1, 5] (WriteString_A b u h (catL (FC f) 9 ++ catL (FR f) 20 ++ catL (FS f) 9) (FT f) hH (by unfold FT; simp only [List.length_append]; omega)) (by rfl) (by rfl) (by rfl) (by rfl) (by rfl) ?_
        | refine O_callA [2, 0] (WriteString_A b u h (catL (FC f) 9 ++ catL (FR f) 20 ++ catL (FS f) 9) (FT f) hH (by unfold FT; simp only [List.length_append]; omega)) (by rfl) (by rfl) (by rfl) (by rfl) (by rfl) ?_
        | refine O_callA [2, 1] (WriteString_A b u h (catL (FC f) 9 ++ catL (FR f) 20 ++ catL (FS f) 9) (FT f) hH (by unfold FT; simp only [List.length_append]; omega)) (by rfl) (by rfl) (by rfl) (by rfl) (by rfl) ?_
        | refine O_callA [2, 2] (WriteString_A b u h (catL (FC f) 9 ++ catL (FR f) 20 ++ catL (FS f) 9) (FT f) hH (by unfold FT; simp only [List.length_append]; omega)) (by rfl) (by rfl) (by rfl) (by rfl) (by rfl) ?_
        | refine O_callA [2, 3] (WriteString_A b u h (catL (FC f) 9 ++ catL (FR f) 20 ++ catL (FS f) 9) (FT f) hH (by unfold FT; simp only [List.length_append]; omega)) (by rfl) (by rfl) (by rfl) (by rfl) (by rfl) ?_
        | refine O_callA [2, 4] (WriteString_A b u h (catL (FC f) 9 ++ catL (FR f) 20 ++ catL (FS f) 9) (FT f) hH (by unfold FT; simp only [List.length_append]; omega)) (by rfl) (by rfl) (by rfl) (by rfl) (by rfl) ?_
        | refine O_callA [2, 5] (WriteString_A b u h (catL (FC f) 9 ++ catL (FR f) 20 ++ catL (FS f) 9) (FT f) hH (by unfold FT; simp only [List.length_append]; omega)) (by rfl) (by rfl) (by rfl) (by rfl) (by rfl) ?_
        | refine O_callA [3, 0] (WriteString_A b u h (catL (FC f) 9 ++ catL (FR f) 20 ++ catL (FS f) 9) (FT f) hH (by unfold FT; simp only [List.length_append]; omega)) (by rfl) (by rfl) (by rfl) (by rfl) (by rfl) ?_
        | refine O_callA [3, 1] (WriteString_A b u h (catL (FC f) 9 ++ catL (FR f) 20 ++ catL (FS f) 9) (FT f) hH (by unfold FT; simp only [List.length_append]; omega)) (by rfl) (by rfl) (by rfl) (by rfl) (by rfl) ?_
        | refine O_callA [3, 2] (WriteString_A b u h (catL (FC f) 9 ++ catL (FR f) 20 ++ catL (FS f) 9) (FT f) hH (by unfold FT; simp only [List.length_append]; omega)) (by rfl) (by rfl) (by rfl) (by rfl) (by rfl) ?_
        | refine O_callA [3, 3] (WriteString_A b u h (catL (FC f) 9 ++ catL (FR f) 20 ++ catL (FS f) 9) (FT f) hH (by unfold FT; simp only [List.length_append]; omega)) (by rfl) (by rfl) (by rfl) (by rfl) (by rfl) ?_
        | refine O_callA [3, 4] (WriteString_A b u h (catL (FC f) 9 ++ catL (FR f) 20 ++ catL (FS f) 9) (FT f) hH (by unfold FT; simp only [List.length_append]; omega)) (by rfl) (by rfl) (by rfl) (by rfl) (by rfl) ?_
        | refine O_callA [3, 5] (WriteString_A b u h (catL (FC f) 9 ++ catL (FR f) 20 ++ catL (FS f) 9) (FT f) hH (by unfold FT; simp only [List.length_append]; omega)) (by rfl) (by rfl) (by rfl) (by rfl) (by rfl) ?_
        | refine O_callA [4, 0] (WriteString_A b u h (catL (FC f) 9 ++ catL (FR f) 20 ++ catL (FS f) 9) (FT f) hH (by unfold FT; simp only [List.length_append]; omega)) (by rfl) (by rfl) (by rfl) (by rfl) (by rfl) ?_
        | refine O_callA [4, 1] (WriteString_A b u h (catL (FC f) 9 ++ catL (FR f) 20 ++ catL (FS f) 9) (FT f) hH (by unfold FT; simp only [List.length_append]; omega)) (by rfl) (by rfl) (by rfl) (by rfl) (by rfl) ?_
        | refine O_callA [4, 2] (WriteString_A b u h (catL (FC f) 9 ++ catL (FR f) 20 ++ catL (FS f) 9) (FT f) hH (by unfold FT; simp only [List.length_append]; omega)) (by rfl) (by rfl) (by rfl) (by rfl) (by rfl) ?_
        | refine O_callA [4, 3] (WriteString_A b u h (catL (FC f) 9 ++ catL (FR f) 20 ++ catL (FS f) 9) (FT f) hH (by unfold FT; simp only [List.length_append]; omega)) (by rfl) (by rfl) (by rfl) (by rfl) (by rfl) ?_
        | refine O_callA [4, 4] (WriteString_A b u h (catL (FC f) 9 ++ catL (FR f) 20 ++ catL (FS f) 9) (FT f) hH (by unfold FT; simp only [List.length_append]; omega)) (by rfl) (by rfl) (by rfl) (by rfl) (by rfl) ?_
        | refine O_callA [4, 5] (WriteString_A b u h (catL (FC f) 9 ++ catL (FR f) 20 ++ catL (FS f) 9) (FT f) hH (by unfold FT; simp only [List.length_append]; omega)) (by rfl) (by rfl) (by rfl) (by rfl) (by rfl) ?_
        | refine O_callA [5, 0] (WriteString_A b u h (catL (FC f) 9 ++ catL (FR f) 20 ++ catL (FS f) 9) (FT f) hH (by unfold FT; simp only [List.length_append]; omega)) (by rfl) (by rfl) (by rfl) (by rfl) (by rfl) ?_
        | refine O_callA [5, 1] (WriteString_A b u h (catL (FC f) 9 ++ catL (FR f) 20 ++ catL (FS f) 9) (FT f) hH (by unfold FT; simp only [List.length_append]; omega)) (by rfl) (by rfl) (by rfl) (by rfl) (by rfl) ?_
        | refine O_callA [5, 2] (WriteString_A b u h (catL (FC f) 9 ++ catL (FR f) 20 ++ catL (FS f) 9) (FT f) hH (by unfold FT; simp only [List.length_append]; omega)) (by rfl) (by rfl) (by rfl) (by rfl) (by rfl) ?_
        | refine O_callA [5, 3] (WriteString_A b u h (catL (FC f) 9 ++ catL (FR f) 20 ++ catL (FS f) 9) (FT f) hH (by unfold FT; simp only [List.length_append]; omega)) (by rfl) (by rfl) (by rfl) (by rfl) (by rfl) ?_
        | refine O_callA [5, 4] (WriteString_A b u h (catL (FC f) 9 ++ catL (FR f) 20 ++ catL (FS f) 9) (FT f) hH (by unfold FT; simp only [List.length_append]; omega)) (by rfl) (by rfl) (by rfl) (by rfl) (by rfl) ?_
        | refine O_callA [5, 5] (WriteString_A b u h (catL (FC f) 9 ++ catL (FR f) 20 ++ catL (FS f) 9) (FT f) hH (by unfold FT; simp only [List.length_append]; omega)) (by rfl) (by rfl) (by rfl) (by rfl) (by rfl) ?_
        | refine O_callA [6, 0] (WriteString_A b u h (catL (FC f) 9 ++ catL (FR f) 20 ++ catL (FS f) 9) (FT f) hH (by unfold FT; simp only [List.length_append]; omega)) (by rfl) (by rfl) (by rfl) (by rfl) (by rfl) ?_
        | refine O_callA [6, 1] (WriteString_A b u h (catL (FC f) 9 ++ catL (FR f) 20 ++ catL (FS f) 9) (FT f) hH (by unfold FT; simp only [List.length_append]; omega)) (by rfl) (by rfl) (by rfl) (by rfl) (by rfl) ?_
        | refine O_callA [6, 2] (WriteString_A b u h (catL (FC f) 9 ++ catL (FR f) 20 ++ catL (FS f) 9) (FT f) hH (by unfold FT; simp only [List.length_append]; omega)) (by rfl) (by rfl) (by rfl) (by rfl) (by rfl) ?_
        | refine O_callA [6, 3] (WriteString_A b u h (catL (FC f) 9 ++ catL (FR f) 20 ++ catL (FS f) 9) (FT f) hH (by unfold FT; simp only [List.length_append]; omega)) (by rfl) (by rfl) (by rfl) (by rfl) (by rfl) ?_
        | refine O_callA [6, 4] (WriteString_A b u h (catL (FC f) 9 ++ catL (FR f) 20 ++ catL (FS f) 9) (FT f) hH (by unfold FT; simp only [List.length_append]; omega)) (by rfl) (by rfl) (by rfl) (by rfl) (by rfl) ?_
        | refine O_callA [6, 5] (WriteString_A b u h (catL (FC f) 9 ++ catL (FR f) 20 ++ catL (FS f) 9) (FT f) hH (by unfold FT; simp only [List.length_append]; omega)) (by rfl) (by rfl) (by rfl) (by rfl) (by rfl) ?_
      rintro r' cs' ⟨rfl, h', hH', rfl⟩
      repeat (first | refine sc rfl ?_ | refine so rfl ?_ | refine sb rfl ?_)
      first
        | refine O_callA [0, 0] (String_A b true h' (catL (FC f) 9 ++ catL (FR f) 20 ++ catL (FS f) 9 ++ FT f) hH') (by rfl) (by rfl) (by rfl) (by rfl) (by rfl) ?_
        | refine O_callA [0, 1] (String_A b true h' (catL (FC f) 9 ++ catL (FR f) 20 ++ catL (FS f) 9 ++ FT f) hH') (by rfl) (by rfl) (by rfl) (by rfl) (by rfl) ?_
        | refine O_callA [0, 2] (String_A b true h' (catL (FC f) 9 ++ catL (FR f) 20 ++ catL (FS f) 9 ++ FT f) hH') (by rfl) (by rfl) (by rfl) (by rfl) (by rfl) ?_
        | refine O_callA [0, 3] (String_A b true h' (catL (FC f) 9 ++ catL (FR f) 20 ++ catL (FS f) 9 ++ FT f) hH') (by rfl) (by rfl) (by rfl) (by rfl) (by rfl) ?_
        | refine O_callA [0, 4] (String_A b true h' (catL (FC f) 9 ++ catL (FR f) 20 ++ catL (FS f) 9 ++ FT f) hH') (by rfl) (by rfl) (by rfl) (by rfl) (by rfl) ?_
        | refine O_callA [0, 5] (String_A b true h' (catL (FC f) 9 ++ catL (FR f) 20 ++ catL (FS f) 9 ++ FT f) hH') (by rfl) (by rfl) (by rfl) (by rfl) (by rfl) ?_
        | refine O_callA [1, 0] (String_A b true h' (catL (FC f) 9 ++ catL (FR f) 20 ++ catL (FS f) 9 ++ FT f) hH') (by rfl) (by rfl) (by rfl) (by rfl) (by rfl) ?_
        | refine O_callA [1, 1] (String_A b true h' (catL (FC f) 9 ++ catL (FR f) 20 ++ catL (FS f) 9 ++ FT f) hH') (by rfl) (by rfl) (by rfl) (by rfl) (by rfl) ?_
        | refine O_callA [1, 2] (String_A b true h' (catL (FC f) 9 ++ catL (FR f) 20 ++ catL (FS f) 9 ++ FT f) hH') (by rfl) (by rfl) (by rfl) (by rfl) (by rfl) ?_
        | refine O_callA [1, 3] (String_A b true h' (catL (FC f) 9 ++ catL (FR f) 20 ++ catL (FS f) 9 ++ FT f) hH') (by rfl) (by rfl) (by rfl) (by rfl) (by rfl) ?_
        | refine O_callA [1, 4] (String_A b true h' (catL (FC f) 9 ++ catL (FR f) 20 ++ catL (FS f) 9 ++ FT f) hH') (by rfl) (by rfl) (by rfl) (by rfl) (by rfl) ?_
        | refine O_callA [1, 5] (String_A b true h' (catL (FC f) 9 ++ catL (FR f) 20 ++ catL (FS f) 9 ++ FT f) hH') (by rfl) (by rfl) (by rfl) (by rfl) (by rfl) ?_
        | refine O_callA [2, 0] (String_A b true h' (catL (FC f) 9 ++ catL (FR f) 20 ++ catL (FS f) 9 ++ FT f) hH') (by rfl) (by rfl) (by rfl) (by rfl) (by rfl) ?_
        | refine O_callA [2, 1] (String_A b true h' (catL (FC f) 9 ++ catL (FR f) 20 ++ catL (FS f) 9 ++ FT f) hH') (by rfl) (by rfl) (by rfl) (by rfl) (by rfl) ?_
        | refine O_callA [2, 2] (String_A b true h' (catL (FC f) 9 ++ catL (FR f) 20 ++ catL (FS f) 9 ++ FT f) hH') (by rfl) (by rfl) (by rfl) (by rfl) (by rfl) ?_
        | refine O_callA [2, 3] (String_A b true h' (catL (FC f) 9 ++ catL (FR f) 20 ++ catL (FS f) 9 ++ FT f) hH') (by rfl) (by rfl) (by rfl) (by rfl) (by rfl) ?_
        | refine O_callA [2, 4] (String_A b true h' (catL (FC f) 9 ++ catL (FR f) 20 ++ catL (FS f) 9 ++ FT f) hH') (by rfl) (by rfl) (by rfl) (by rfl) (by rfl) ?_
        | refine O_callA [2, 5] (String_A b true h' (catL (FC f) 9 ++ catL (FR f) 20 ++ catL (FS f) 9 ++ FT f) hH') (by rfl) (by rfl) (by rfl) (by rfl) (by rfl) ?_
        | refine O_callA [3, 0] (String_A b true h' (catL (FC f) 9 ++ catL (FR f) 20 ++ catL (FS f) 9 ++ FT f) hH') (by rfl) (by rfl) (by rfl) (by rfl) (by rfl) ?_
        | refine O_callA [3, 1] (String_A b true h' (catL (FC f) 9 ++ catL (FR f) 20 ++ catL (FS f) 9 ++ FT f) hH') (by rfl) (by rfl) (by rfl) (by rfl) (by rfl) ?_
        | refine O_callA [3, 2] (String_A b true h' (catL (FC f) 9 ++ catL (FR f) 20 ++ catL (FS f) 9 ++ FT f) hH') (by rfl) (by rfl) (by rfl) (by rfl) (by rfl) ?_
        | refine O_callA [3, 3] (String_A b true h' (catL (FC f) 9 ++ catL (FR f) 20 ++ catL (FS f) 9 ++ FT f) hH') (by rfl) (by rfl) (by rfl) (by rfl) (by rfl) ?_
        | refine O_callA [3, 4] (String_A b true h' (catL (FC f) 9 ++ catL (FR f) 20 ++ catL (FS f) 9 ++ FT f) hH') (by rfl) (by rfl) (by rfl) (by rfl) (by rfl) ?_
        | refine O_callA [3, 5] (String_A b true h' (catL (FC f) 9 ++ catL (FR f) 20 ++ catL (FS f) 9 ++ FT f) hH') (by rfl) (by rfl) (by rfl) (by rfl) (by rfl) ?_
        | refine O_callA [4, 0] (String_A b true h' (catL (FC f) 9 ++ catL (FR f) 20 ++ catL (FS f) 9 ++ FT f) hH') (by rfl) (by rfl) (by rfl) (by rfl) (by rfl) ?_
        | refine O_callA [4, 1] (String_A b true h' (catL (FC f) 9 ++ catL (FR f) 20 ++ catL (FS f) 9 ++ FT f) hH') (by rfl) (by rfl) (by rfl) (by rfl) (by rfl) ?_
        | refine O_callA [4, 2] (String_A b true h' (catL (FC f) 9 ++ catL (FR f) 20 ++ catL (FS f) 9 ++ FT f) hH') (by rfl) (by rfl) (by rfl) (by rfl) (by rfl) ?_
        | refine O_callA [4, 3] (String_A b true h' (catL (FC f) 9 ++ catL (FR f) 20 ++ catL (FS f) 9 ++ FT f) hH') (by rfl) (by rfl) (by rfl) (by rfl) (by rfl) ?_
        | refine O_callA [4, 4] (String_A b true h' (catL (FC f) 9 ++ catL (FR f) 20 ++ catL (FS f) 9 ++ FT f) hH') (by rfl) (by rfl) (by rfl) (by rfl) (by rfl) ?_
        | refine O_callA [4, 5] (String_A b true h' (catL (FC f) 9 ++ catL (FR f) 20 ++ catL (FS f) 9 ++ FT f) hH') (by rfl) (by rfl) (by rfl) (by rfl) (by rfl) ?_
        | refine O_callA [5, 0] (String_A b true h' (catL (FC f) 9 ++ catL (FR f) 20 ++ catL (FS f) 9 ++ FT f) hH') (by rfl) (by rfl) (by rfl) (by rfl) (by rfl) ?_
        | refine O_callA [5, 1] (String_A b true h' (catL (FC f) 9 ++ catL (FR f) 20 ++ catL (FS f) 9 ++ FT f) hH') (by rfl) (by rfl) (by rfl) (by rfl) (by rfl) ?_
        | refine O_callA [5, 2] (String_A b true h' (catL (FC f) 9 ++ catL (FR f) 20 ++ catL (FS f) 9 ++ FT f) hH') (by rfl) (by rfl) (by rfl) (by rfl) (by rfl) ?_
        | refine O_callA [5, 3] (String_A b true h' (catL (FC f) 9 ++ catL (FR f) 20 ++ catL (FS f) 9 ++ FT f) hH') (by rfl) (by rfl) (by rfl) (by rfl) (by rfl) ?_
        | refine O_callA [5, 4] (String_A b true h' (catL (FC f) 9 ++ catL (FR f) 20 ++ catL (FS f) 9 ++ FT f) hH') (by rfl) (by rfl) (by rfl) (by rfl) (by rfl) ?_
        | refine O_callA [5, 5] (String_A b true h' (catL (FC f) 9 ++ catL (FR f) 20 ++ catL (FS f) 9 ++ FT f) hH') (by rfl) (by rfl) (by rfl) (by rfl) (by rfl) ?_
        | refine O_callA [6, 0] (String_A b true h' (catL (FC f) 9 ++ catL (FR f) 20 ++ catL (FS f) 9 ++ FT f) hH') (by rfl) (by rfl) (by rfl) (by rfl) (by rfl) ?_
        | refine O_callA [6, 1] (String_A b true h' (catL (FC f) 9 ++ catL (FR f) 20 ++ catL (FS f) 9 ++ FT f) hH') (by rfl) (by rfl) (by rfl) (by rfl) (by rfl) ?_
        | refine O_callA [6, 2] (String_A b true h' (catL (FC f) 9 ++ catL (FR f) 20 ++ catL (FS f) 9 ++ FT f) hH') (by rfl) (by rfl) (by rfl) (by rfl) (by rfl) ?_
        | refine O_callA [6, 3] (String_A b true h' (catL (FC f) 9 ++ catL (FR f) 20 ++ catL (FS f) 9 ++ FT f) hH') (by rfl) (by rfl) (by rfl) (by rfl) (by rfl) ?_
        | refine O_callA [6, 4] (String_A b true h' (catL (FC f) 9 ++ catL (FR f) 20 ++ catL (FS f) 9 ++ FT f) hH') (by rfl) (by rfl) (by rfl) (by rfl) (by rfl) ?_
        | refine O_callA [6, 5] (String_A b true h' (catL (FC f) 9 ++ catL (FR f) 20 ++ catL (FS f) 9 ++ FT f) hH') (by rfl) (by rfl) (by rfl) (by rfl) (by rfl) ?_
      rintro r' cs' ⟨rfl, rfl⟩
      repeat (first | refine sc rfl ?_ | refine so rfl ?_ | refine sb rfl ?_)
      first
        | exact ⟨_, [_], _, rfl, pickA_perm (is := [0]) (As := [_]) rfl, rfl, rfl, rfl⟩
        | exact ⟨_, [_], _, rfl, pickA_perm (is := [1]) (As := [_]) rfl, rfl, rfl, rfl⟩
        | exact ⟨_, [_], _, rfl, pickA_perm (is := [2]) (As := [_]) rfl, rfl, rfl, rfl⟩
        | exact ⟨_, [_], _, rfl, pickA_perm (is := [3]) (As := [_]) rfl, rfl, rfl, rfl⟩
        | exact ⟨_, [_], _, rfl, pickA_perm (is := [4]) (As := [_]) rfl, rfl, rfl, rfl⟩
theorem text_W (t : Nat) (f : Nat → Int) (hf : ∀ i, ok8 (f i)) : FnK 19 [PT t 0] [tlA t f] (fun r cs' => r = .s (TX f) ∧ cs' = [tlA t f]) :=
  text_G _ _ f hf (came_A t f) (refd_A t f) (servd_A t f) (rest_A t f)
end Go.Proofs

/- The rows of a tick and a turn. -/
set_option linter.unusedSimpArgs false
set_option linter.unusedVariables false
set_option maxRecDepth 100000
namespace Go.Proofs
open Go.Sy Go.Lib

abbrev evs2 : List Evt := [⟨3, 0, 0, []⟩, ⟨5, 0, 0, []⟩]
abbrev rws2 : List Rw := [⟨0, 4, default⟩, ⟨1, 3, default⟩]
theorem traceOf_A (x : Int) : FnA Tryz.prog 39 [U64 x, SL 4 Evt.c evs2] [] (fun r cs' => r = SL 8 Rw.c rws2 ∧ cs' = []) := by
  refine FnA.intro Tryz.tabOK Tryz.wide_ Tryz.func39 rfl (by decide) rfl (fun X => ?_)
  repeat (first | refine sc rfl ?_ | refine so rfl ?_ | refine sb rfl ?_)
  refine O_callA [] (srvNew_A x) (by rfl) (by rfl) (by rfl) (by rfl) (by rfl) ?_
  rintro r' cs' ⟨s, mg, tm, h, g, c, d, rfl, rfl⟩
  repeat (first | refine sc rfl ?_ | refine so rfl ?_ | refine sb rfl ?_)
  refine ⟨by decide, ?_⟩
  repeat (first | refine sc rfl ?_ | refine so rfl ?_ | refine sb rfl ?_)
  refine C_le _ (Le.nilvec Rw.c 6 27 32 8 rfl rfl rfl) ?_
  refine C_loop (fun i : Nat => ⟨[(5, PT s 0), (6, .own 27), (15, SL 4 Evt.c evs2), (16, I64 ((2 : Nat) : Int)), (17, I64 (i : Nat))], [VEC 27 32 8 Rw.c (rws2.take i), .abs (srvA s mg tm ((min i 1 : Nat) : Int)), .abs (tenM tm h), .abs (tenA h g), .abs (gatA g 1048576 1048576 1048576 0 0 0 0 32 0 false)]⟩) (fun i => i ≤ 2) (fun i => 2 - i) 0 (Nat.zero_le _) (Le.pick [0, 0, 0, 0, 0] ⟨rfl, rfl, rfl, rfl, rfl, trivial⟩ rfl) ?_
  intro i hi
  repeat (first | refine sc rfl ?_ | refine so rfl ?_ | refine sb rfl ?_)
  refine C_if rfl (fun k1 => ?_) (fun k1 => ?_) <;> simp only [decide_eq_true_eq, decide_eq_false_iff_not, Bool.not_eq_true', Bool.not_eq_false', beq_iff_eq, beq_eq_false_iff_ne, bne_iff_ne, ne_eq, bne_eq_false_iff_eq, Decidable.not_not] at k1
  · have hil : i = 0 ∨ i = 1 := by omega
    rcases hil with rfl | rfl
    · repeat (first | refine sc rfl ?_ | refine so rfl ?_ | refine sb rfl ?_)
      refine ⟨by decide, ?_⟩
      repeat (first | refine sc rfl ?_ | refine so rfl ?_ | refine sb rfl ?_)
      refine O_callA [2, 2, 2, 2] (rowsTick_A s mg tm h g 0 0 1048576 1048576 1048576 0 0 0 0 32 0 false (by decide) (by decide)) (by rfl) (by rfl) (by rfl) (by rfl) (by rfl) ?_
      rintro r' cs' ⟨rfl, rfl⟩
      repeat (first | refine sc rfl ?_ | refine so rfl ?_ | refine sb rfl ?_)
      refine O_append (m2 := 1) (m3 := 0+1) (row3 := fun j => Rw.c ((rws2.take (0+1)).getD j default)) (s2 := [(5, PT s 0), (15, SL 4 Evt.c evs2), (16, I64 ((2 : Nat) : Int)), (17, I64 ((0 : Nat) : Int))]) rfl rfl rfl rfl rfl (src_sl rfl (fun j _ => rfl)) rfl ⟨rfl, rfl, rfl, rfl, trivial⟩ rfl rfl (by decide) (by decide) rfl (fun j hj => ?_) ?_
      · obtain rfl : j = 0 := by omega
        rfl
      repeat (first | refine sc rfl ?_ | refine so rfl ?_ | refine sb rfl ?_)
      refine ⟨0+1, by decide, by decide, ?_⟩
      first
        | exact Le.pick [0, 0, 0, 0, 0] ⟨rfl, rfl, rfl, rfl, rfl, trivial⟩ rfl
        | exact Le.pick [0, 0, 0, 0, 0] ⟨rfl, rfl, rfl, rfl, rfl, trivial⟩ rfl
        | exact Le.pick [0, 0, 1, 1, 1] ⟨rfl, rfl, rfl, rfl, rfl, trivial⟩ rfl
    · repeat (first | refine sc rfl ?_ | refine so rfl ?_ | refine sb rfl ?_)
      refine ⟨by decide, ?_⟩
      repeat (first | refine sc rfl ?_ | refine so rfl ?_ | refine sb rfl ?_)
      refine O_callA [2] (rowsServe_A s mg tm 1 1) (by rfl) (by rfl) (by rfl) (by rfl) (by rfl) ?_
      rintro r' cs' ⟨rfl, rfl⟩
      repeat (first | refine sc rfl ?_ | refine so rfl ?_ | refine sb rfl ?_)
      refine O_append (m2 := 1) (m3 := 1+1) (row3 := fun j => Rw.c ((rws2.take (1+1)).getD j default)) (s2 := [(5, PT s 0), (15, SL 4 Evt.c evs2), (16, I64 ((2 : Nat) : Int)), (17, I64 ((1 : Nat) : Int))]) rfl rfl rfl rfl rfl (src_sl rfl (fun j _ => rfl)) rfl ⟨rfl, rfl, rfl, rfl, trivial⟩ rfl rfl (by decide) (by decide) rfl (fun j hj => ?_) ?_
      · have hj' : j = 0 ∨ j = 1 := by omega
        rcases hj' with rfl | rfl <;> rfl
      repeat (first | refine sc rfl ?_ | refine so rfl ?_ | refine sb rfl ?_)
      refine ⟨1+1, by decide, by decide, ?_⟩
      first
        | exact Le.pick [0, 0, 0, 0, 0] ⟨rfl, rfl, rfl, rfl, rfl, trivial⟩ rfl
        | exact Le.pick [0, 0, 0, 0, 0] ⟨rfl, rfl, rfl, rfl, rfl, trivial⟩ rfl
        | exact Le.pick [0, 0, 1, 1, 1] ⟨rfl, rfl, rfl, rfl, rfl, trivial⟩ rfl
  · obtain rfl : i = 2 := by omega
    refine C_le _ (Le.freezeL (l := rws2) (cells := Rw.c) 6 rfl rfl) ?_
    repeat (first | refine sc rfl ?_ | refine so rfl ?_ | refine sb rfl ?_)
    exact ⟨_, [], _, rfl, pickA_perm (is := []) (As := []) rfl, rfl, rfl, rfl⟩
end Go.Proofs

/- A tally that is not there; a new one. -/
set_option linter.unusedSimpArgs false
set_option linter.unusedVariables false
set_option maxRecDepth 100000
namespace Go.Proofs
open Go.Sy Go.Lib

abbrev NPT : AV := .v (.pointer none)
theorem noneRow_c (x : Rw) : FnP Tryz.prog 8 [NPT, .agg (Rw.c x)] (· = .tup []) := by
  refine FnP.intro Tryz.tabOK Tryz.wide_ Tryz.func8 rfl (by decide) rfl (fun X => ?_)
  repeat (first | refine sc rfl ?_ | refine so rfl ?_ | refine sb rfl ?_)
  refine O_Xd (X_ptrnil Tryz.underlying25 rfl rfl rfl) ?_
  repeat (first | refine sc rfl ?_ | refine so rfl ?_ | refine sb rfl ?_)
  refine C_true rfl rfl ?_
  repeat (first | refine sc rfl ?_ | refine so rfl ?_ | refine sb rfl ?_)
  exact ⟨_, rfl, rfl, rfl⟩
theorem noneOut_c (x : Ou) : FnP Tryz.prog 10 [NPT, .agg (Ou.c x)] (· = .tup []) := by
  refine FnP.intro Tryz.tabOK Tryz.wide_ Tryz.func10 rfl (by decide) rfl (fun X => ?_)
  repeat (first | refine sc rfl ?_ | refine so rfl ?_ | refine sb rfl ?_)
  refine O_Xd (X_ptrnil Tryz.underlying25 rfl rfl rfl) ?_
  repeat (first | refine sc rfl ?_ | refine so rfl ?_ | refine sb rfl ?_)
  refine C_true rfl rfl ?_
  repeat (first | refine sc rfl ?_ | refine so rfl ?_ | refine sb rfl ?_)
  exact ⟨_, rfl, rfl, rfl⟩
theorem noneAdd_c (b : Value) : FnP Tryz.prog 18 [NPT, .v b] (· = .tup []) := by
  refine FnP.intro Tryz.tabOK Tryz.wide_ Tryz.func18 rfl (by decide) rfl (fun X => ?_)
  repeat (first | refine sc rfl ?_ | refine so rfl ?_ | refine sb rfl ?_)
  refine O_Xd (X_ptrnil Tryz.underlying25 rfl rfl rfl) ?_
  repeat (first | refine sc rfl ?_ | refine so rfl ?_ | refine sb rfl ?_)
  refine C_true rfl rfl ?_
  repeat (first | refine sc rfl ?_ | refine so rfl ?_ | refine sb rfl ?_)
  exact ⟨_, rfl, rfl, rfl⟩
theorem noneRest_c : FnP Tryz.prog 20 [NPT] (· = .tup [I64 0, I64 0, I64 0, I64 0]) := by
  refine FnP.intro Tryz.tabOK Tryz.wide_ Tryz.func20 rfl (by decide) rfl (fun X => ?_)
  repeat (first | refine sc rfl ?_ | refine so rfl ?_ | refine sb rfl ?_)
  refine O_Xd (X_ptrnil Tryz.underlying25 rfl rfl rfl) ?_
  repeat (first | refine sc rfl ?_ | refine so rfl ?_ | refine sb rfl ?_)
  refine C_true rfl rfl ?_
  repeat (first | refine sc rfl ?_ | refine so rfl ?_ | refine sb rfl ?_)
  exact ⟨_, rfl, rfl, rfl⟩
theorem loadN_c : FnP Tryz.prog 31 [NPT] (· = I64 0) := by
  refine FnP.intro Tryz.tabOK Tryz.wide_ Tryz.func31 rfl (by decide) rfl (fun X => ?_)
  repeat (first | refine sc rfl ?_ | refine so rfl ?_ | refine sb rfl ?_)
  refine O_Xd (X_ptrnil Tryz.underlying67 rfl rfl rfl) ?_
  repeat (first | refine sc rfl ?_ | refine so rfl ?_ | refine sb rfl ?_)
  refine C_true rfl rfl ?_
  repeat (first | refine sc rfl ?_ | refine so rfl ?_ | refine sb rfl ?_)
  exact ⟨_, rfl, rfl, rfl⟩
theorem kindN_c (k : Int) : FnP Tryz.prog 23 [NPT, I64 k] (· = NPT) := by
  refine FnP.intro Tryz.tabOK Tryz.wide_ Tryz.func23 rfl (by decide) rfl (fun X => ?_)
  repeat (first | refine sc rfl ?_ | refine so rfl ?_ | refine sb rfl ?_)
  refine O_Xd (X_ptrnil Tryz.underlying25 rfl rfl rfl) ?_
  repeat (first | refine sc rfl ?_ | refine so rfl ?_ | refine sb rfl ?_)
  refine C_true rfl rfl ?_
  repeat (first | refine sc rfl ?_ | refine so rfl ?_ | refine sb rfl ?_)
  exact ⟨_, rfl, rfl, rfl⟩
theorem cameN_c (k : Int) : FnP Tryz.prog 12 [NPT, I64 k] (· = I64 0) := by
  refine FnP.intro Tryz.tabOK Tryz.wide_ Tryz.func12 rfl (by decide) rfl (fun X => ?_)
  repeat (first | refine sc rfl ?_ | refine so rfl ?_ | refine sb rfl ?_)
  refine O_call (kindN_c k) (by rfl) (by rfl) (by rfl) (by rfl) (fun r hr => ?_)
  subst hr
  refine O_call loadN_c (by rfl) (by rfl) (by rfl) (by rfl) (fun r hr => ?_)
  subst hr
  repeat (first | refine sc rfl ?_ | refine so rfl ?_ | refine sb rfl ?_)
  exact ⟨_, rfl, rfl, rfl⟩
theorem errkN_c (k : Int) : FnP Tryz.prog 24 [NPT, I64 k] (· = NPT) := by
  refine FnP.intro Tryz.tabOK Tryz.wide_ Tryz.func24 rfl (by decide) rfl (fun X => ?_)
  repeat (first | refine sc rfl ?_ | refine so rfl ?_ | refine sb rfl ?_)
  refine O_Xd (X_ptrnil Tryz.underlying25 rfl rfl rfl) ?_
  repeat (first | refine sc rfl ?_ | refine so rfl ?_ | refine sb rfl ?_)
  refine C_true rfl rfl ?_
  repeat (first | refine sc rfl ?_ | refine so rfl ?_ | refine sb rfl ?_)
  exact ⟨_, rfl, rfl, rfl⟩
theorem refdN_c (k : Int) : FnP Tryz.prog 14 [NPT, I64 k] (· = I64 0) := by
  refine FnP.intro Tryz.tabOK Tryz.wide_ Tryz.func14 rfl (by decide) rfl (fun X => ?_)
  repeat (first | refine sc rfl ?_ | refine so rfl ?_ | refine sb rfl ?_)
  refine O_call (errkN_c k) (by rfl) (by rfl) (by rfl) (by rfl) (fun r hr => ?_)
  subst hr
  refine O_call loadN_c (by rfl) (by rfl) (by rfl) (by rfl) (fun r hr => ?_)
  subst hr
  repeat (first | refine sc rfl ?_ | refine so rfl ?_ | refine sb rfl ?_)
  exact ⟨_, rfl, rfl, rfl⟩
theorem ownkN_c (k : Int) : FnP Tryz.prog 25 [NPT, I64 k] (· = NPT) := by
  refine FnP.intro Tryz.tabOK Tryz.wide_ Tryz.func25 rfl (by decide) rfl (fun X => ?_)
  repeat (first | refine sc rfl ?_ | refine so rfl ?_ | refine sb rfl ?_)
  refine O_Xd (X_ptrnil Tryz.underlying25 rfl rfl rfl) ?_
  repeat (first | refine sc rfl ?_ | refine so rfl ?_ | refine sb rfl ?_)
  refine C_true rfl rfl ?_
  repeat (first | refine sc rfl ?_ | refine so rfl ?_ | refine sb rfl ?_)
  exact ⟨_, rfl, rfl, rfl⟩
theorem servdN_c (k : Int) : FnP Tryz.prog 16 [NPT, I64 k] (· = I64 0) := by
  refine FnP.intro Tryz.tabOK Tryz.wide_ Tryz.func16 rfl (by decide) rfl (fun X => ?_)
  repeat (first | refine sc rfl ?_ | refine so rfl ?_ | refine sb rfl ?_)
  refine O_call (ownkN_c k) (by rfl) (by rfl) (by rfl) (by rfl) (fun r hr => ?_)
  subst hr
  refine O_call loadN_c (by rfl) (by rfl) (by rfl) (by rfl) (fun r hr => ?_)
  subst hr
  repeat (first | refine sc rfl ?_ | refine so rfl ?_ | refine sb rfl ?_)
  exact ⟨_, rfl, rfl, rfl⟩
def nilA : Abs := ⟨[], fun _ _ => True, fun _ _ _ => trivial⟩
theorem zero_if (a b k : Int) : (if a ≤ k ∧ k ≤ b then (0 : Int) else 0) = 0 := by split <;> rfl
theorem TX_zero : TX (fun _ => 0) = [] := by
  simp [TX, catL, FC, FR, FS, FT, lineF]
theorem textN_W : FnK 19 [NPT] [nilA] (fun r cs' => r = .s [] ∧ cs' = [nilA]) := by
  have h := text_G (.pointer none) nilA (fun _ => 0) (fun _ => ⟨by decide, by decide⟩)
    (fun k => ((cameN_c k).toA [nilA]).mono (fun r c ⟨h1, h2⟩ => ⟨by rw [h1, zero_if], h2⟩)) (fun k => ((refdN_c k).toA [nilA]).mono (fun r c ⟨h1, h2⟩ => ⟨by rw [h1, zero_if], h2⟩))
    (fun k => ((servdN_c k).toA [nilA]).mono (fun r c ⟨h1, h2⟩ => ⟨by rw [h1, zero_if], h2⟩)) (noneRest_c.toA [nilA])
  exact h.mono (fun r c ⟨h1, h2⟩ => ⟨by rw [h1, TX_zero], h2⟩)
theorem newT_A : FnA Tryz.prog 7 [] [] (fun r cs' => ∃ t, r = PT t 0 ∧ cs' = [tlA t (fun _ => 0)]) := by
  refine FnA.intro Tryz.tabOK Tryz.wide_ Tryz.func7 rfl (by decide) rfl (fun X => ?_)
  iterate 8 (first | refine sc rfl ?_ | refine so rfl ?_ | refine sb rfl ?_)
  refine O_absb 2 rfl rfl rfl (fun t => ?_)
  repeat (first | refine sc rfl ?_ | refine so rfl ?_ | refine sb rfl ?_)
  exact ⟨_, [_], _, rfl, pickA_perm (is := [0]) (As := [_]) rfl, rfl, t, rfl, rfl⟩
theorem noteL_c (x : Nte) : FnP Tryz.prog 27 [.agg (Nte.c x)] (· = .agg (Nte.c x)) := by
  refine FnP.intro Tryz.tabOK Tryz.wide_ Tryz.func27 rfl (by decide) rfl (fun X => ?_)
  repeat (first | refine sc rfl ?_ | refine so rfl ?_ | refine sb rfl ?_)
  exact ⟨_, rfl, rfl, rfl⟩
theorem rowL_c (x : Rw) : FnP Tryz.prog 9 [.agg (Rw.c x)] (· = .agg (Rw.c x)) := by
  refine FnP.intro Tryz.tabOK Tryz.wide_ Tryz.func9 rfl (by decide) rfl (fun X => ?_)
  repeat (first | refine sc rfl ?_ | refine so rfl ?_ | refine sb rfl ?_)
  refine C_drawU 20 8 rfl (by kernel_rfl) (by kernel_rfl) (by kernel_rfl) ?_
  repeat (first | refine sd rfl ?_ | refine sdb rfl ?_ | refine sds rfl ?_)
  refine D_call (noteL_c x.note) rfl rfl rfl rfl ?_
  repeat (first | refine sd rfl ?_ | refine sdb rfl ?_ | refine sds rfl ?_)
  repeat (first | refine sc rfl ?_ | refine so rfl ?_ | refine sb rfl ?_)
  exact ⟨_, rfl, rfl, rfl⟩
end Go.Proofs

/- The example of the tallies. -/
set_option linter.unusedSimpArgs false
set_option linter.unusedVariables false
set_option maxRecDepth 100000
namespace Go.Proofs
open Go.Sy Go.Lib

def ouV (x : Ou) : Array Value := #[.int .i64 x.fat, .int .i64 x.conn, S x.bytes, .bool x.closed]
theorem rep_ou (m : Ou) (e : Env) (ys : List Value) (h : RepL e (Ou.c m) ys) : ys = (ouV m).toList := by
  simp only [Ou.c, RepL, Rep] at h
  obtain ⟨z1, t1, rfl, rfl, _, z2, t2, rfl, rfl, _, z3, t3, rfl, rfl, _, z4, t4, rfl, rfl, _, rfl⟩ := h
  rfl
theorem eq_ou (m : Ou) (w : World) : (Op.equalIn 10000 39 (.agg (ouV m)) (.agg (ouV m))).run Tryz.prog w = .ok true w := by
  rw [run_equalIn_struct w 9999 39 _ _ Tryz.underlying39 Tryz.stoodInHeld39]
  unfold Program.fieldsOf
  rw [Tryz.underlying39]
  have p0 : (part 3 (ouV m) 0).run Tryz.prog w = .ok (.int .i64 m.fat) w := by simp [part, isAgg, run_underlying Tryz.underlying3, ouV]
  have p1 : (part 3 (ouV m) 1).run Tryz.prog w = .ok (.int .i64 m.conn) w := by simp [part, isAgg, run_underlying Tryz.underlying3, ouV]
  have p2 : (part 9 (ouV m) 2).run Tryz.prog w = .ok (S m.bytes) w := by simp [part, isAgg, run_underlying Tryz.underlying9, ouV]
  have p3 : (part 4 (ouV m) 3).run Tryz.prog w = .ok (.bool m.closed) w := by simp [part, isAgg, run_underlying Tryz.underlying4, ouV]
  have e0 : ∀ k, (Op.equalIn 9999 3 (.int .i64 k) (.int .i64 k)).run Tryz.prog w = .ok true w := fun k => by rw [run_equalIn_int w 9998 3 .i64 .i64 _ _ Tryz.underlying3]; simp
  have e1 : ∀ l, (Op.equalIn 9999 9 (S l) (S l)).run Tryz.prog w = .ok true w := fun l => by unfold S; rw [run_equalIn_string w 9998 9 _ _ Tryz.underlying9]; simp
  have e2 : ∀ k, (Op.equalIn 9999 4 (.bool k) (.bool k)).run Tryz.prog w = .ok true w := fun k => by rw [run_equalIn_bool w 9998 4 _ _ Tryz.underlying4]; simp
  simp only [Op.eqFields]
  rw [if_pos (by decide), if_pos (by decide), if_pos (by decide), if_pos (by decide)]
  simp [Sem.run_bind, p0, p1, p2, p3, e0, e1, e2]
theorem evTick_A (s mg tm h g : Nat) (at_ now r b l m1 m2 s1 s2 o1 o2 : Int) (q : Bool) (hr : -1048576 ≤ r ∧ r ≤ 1048576 ∧ -1048576 ≤ l ∧ l ≤ 1048576) (hn : 0 ≤ now ∧ now ≤ 1000000) :
    FnA Tryz.prog 41 [PT s 0, I64 at_, .agg [I64 3, I64 0, U64 0, .s []]] [srvA s mg tm now, tenM tm h, tenA h g, gatA g r b l m1 m2 s1 s2 o1 o2 q]
      (fun x cs' => x = NS ∧ cs' = [srvA s mg tm (now + 1), tenM tm h, tenA h g, gatA g r b (min (l + r) b) m1 m2 s1 s2 o1 o2 q]) := by
  refine FnA.intro Tryz.tabOK Tryz.wide_ Tryz.func41 rfl (by decide) rfl (fun X => ?_)
  repeat (first | refine sc rfl ?_ | refine so rfl ?_ | refine sb rfl ?_)
  refine C_false rfl rfl ?_
  repeat (first | refine sc rfl ?_ | refine so rfl ?_ | refine sb rfl ?_)
  refine C_false rfl rfl ?_
  repeat (first | refine sc rfl ?_ | refine so rfl ?_ | refine sb rfl ?_)
  refine C_true rfl rfl ?_
  repeat (first | refine sc rfl ?_ | refine so rfl ?_ | refine sb rfl ?_)
  first
    | refine O_callA [0, 0, 0, 0] (srvTick_A s mg tm h g now r b l m1 m2 s1 s2 o1 o2 q hr hn) (by rfl) (by rfl) (by rfl) (by rfl) (by rfl) ?_
    | refine O_callA [1, 1, 1, 1] (srvTick_A s mg tm h g now r b l m1 m2 s1 s2 o1 o2 q hr hn) (by rfl) (by rfl) (by rfl) (by rfl) (by rfl) ?_
    | refine O_callA [2, 2, 2, 2] (srvTick_A s mg tm h g now r b l m1 m2 s1 s2 o1 o2 q hr hn) (by rfl) (by rfl) (by rfl) (by rfl) (by rfl) ?_
    | refine O_callA [3, 3, 3, 3] (srvTick_A s mg tm h g now r b l m1 m2 s1 s2 o1 o2 q hr hn) (by rfl) (by rfl) (by rfl) (by rfl) (by rfl) ?_
  rintro r' cs' ⟨rfl, rfl⟩
  repeat (first | refine sc rfl ?_ | refine so rfl ?_ | refine sb rfl ?_)
  refine O_Xd (X_aggC (us := ouV ⟨at_, 0, [], false⟩) (vs := ouV ⟨at_, 0, [], false⟩) (b := true) (op := .eql) (fun e ys h => rep_ou _ e ys h) (fun e ys h => rep_ou _ e ys h) (fun w => eq_ou _ w) Tryz.eqGuardType39 (.inl rfl) rfl rfl rfl rfl) ?_
  repeat (first | refine sc rfl ?_ | refine so rfl ?_ | refine sb rfl ?_)
  refine C_true rfl rfl ?_
  repeat (first | refine sc rfl ?_ | refine so rfl ?_ | refine sb rfl ?_)
  first
    | exact ⟨_, [_, _, _, _], _, rfl, pickA_perm (is := [0, 0, 0, 0]) (As := [_, _, _, _]) rfl, rfl, rfl, rfl⟩
    | exact ⟨_, [_, _, _, _], _, rfl, pickA_perm (is := [1, 1, 1, 1]) (As := [_, _, _, _]) rfl, rfl, rfl, rfl⟩
theorem evServe_A (s mg tm : Nat) (at_ now : Int) :
    FnA Tryz.prog 41 [PT s 0, I64 at_, .agg [I64 5, I64 0, U64 0, .s []]] [srvA s mg tm now] (fun x cs' => x = NS ∧ cs' = [srvA s mg tm now]) := by
  refine FnA.intro Tryz.tabOK Tryz.wide_ Tryz.func41 rfl (by decide) rfl (fun X => ?_)
  repeat (first | refine sc rfl ?_ | refine so rfl ?_ | refine sb rfl ?_)
  refine C_false rfl rfl ?_
  repeat (first | refine sc rfl ?_ | refine so rfl ?_ | refine sb rfl ?_)
  refine C_false rfl rfl ?_
  repeat (first | refine sc rfl ?_ | refine so rfl ?_ | refine sb rfl ?_)
  refine C_false rfl rfl ?_
  repeat (first | refine sc rfl ?_ | refine so rfl ?_ | refine sb rfl ?_)
  refine C_false rfl rfl ?_
  repeat (first | refine sc rfl ?_ | refine so rfl ?_ | refine sb rfl ?_)
  refine C_true rfl rfl ?_
  repeat (first | refine sc rfl ?_ | refine so rfl ?_ | refine sb rfl ?_)
  first
    | refine O_callA [0] (serve0_A s mg tm now) (by rfl) (by rfl) (by rfl) (by rfl) (by rfl) ?_
    | refine O_callA [1] (serve0_A s mg tm now) (by rfl) (by rfl) (by rfl) (by rfl) (by rfl) ?_
    | refine O_callA [2] (serve0_A s mg tm now) (by rfl) (by rfl) (by rfl) (by rfl) (by rfl) ?_
    | refine O_callA [3] (serve0_A s mg tm now) (by rfl) (by rfl) (by rfl) (by rfl) (by rfl) ?_
    | refine O_callA [4] (serve0_A s mg tm now) (by rfl) (by rfl) (by rfl) (by rfl) (by rfl) ?_
  rintro r' cs' ⟨rfl, rfl⟩
  repeat (first | refine sc rfl ?_ | refine so rfl ?_ | refine sb rfl ?_)
  refine O_Xd (X_aggC (us := ouV ⟨at_, 0, [], false⟩) (vs := ouV ⟨at_, 0, [], false⟩) (b := true) (op := .eql) (fun e ys h => rep_ou _ e ys h) (fun e ys h => rep_ou _ e ys h) (fun w => eq_ou _ w) Tryz.eqGuardType39 (.inl rfl) rfl rfl rfl rfl) ?_
  repeat (first | refine sc rfl ?_ | refine so rfl ?_ | refine sb rfl ?_)
  refine C_true rfl rfl ?_
  repeat (first | refine sc rfl ?_ | refine so rfl ?_ | refine sb rfl ?_)
  first
    | exact ⟨_, [_], _, rfl, pickA_perm (is := [0]) (As := [_]) rfl, rfl, rfl, rfl⟩
    | exact ⟨_, [_], _, rfl, pickA_perm (is := [1]) (As := [_]) rfl, rfl, rfl, rfl⟩
    | exact ⟨_, [_], _, rfl, pickA_perm (is := [2]) (As := [_]) rfl, rfl, rfl, rfl⟩
    | exact ⟨_, [_], _, rfl, pickA_perm (is := [3]) (As := [_]) rfl, rfl, rfl, rfl⟩
    | exact ⟨_, [_], _, rfl, pickA_perm (is := [4]) (As := [_]) rfl, rfl, rfl, rfl⟩
def fEx : Nat → Int := rowT (rowT (fun _ => 0) ⟨0, 4, default⟩) ⟨1, 3, default⟩
def fExI (i : Nat) : Nat → Int := (rws2.take i).foldl rowT (fun _ => 0)
theorem tallyOf_A (x : Int) : FnA Tryz.prog 21 [U64 x, SL 4 Evt.c evs2] [] (fun r cs' => ∃ t, r = PT t 0 ∧ cs' = [tlA t fEx]) := by
  refine FnA.intro Tryz.tabOK Tryz.wide_ Tryz.func21 rfl (by decide) rfl (fun X => ?_)
  repeat (first | refine sc rfl ?_ | refine so rfl ?_ | refine sb rfl ?_)
  refine O_callA [] newT_A (by rfl) (by rfl) (by rfl) (by rfl) (by rfl) ?_
  rintro r' cs' ⟨t, rfl, rfl⟩
  repeat (first | refine sc rfl ?_ | refine so rfl ?_ | refine sb rfl ?_)
  refine O_callA [] (traceOf_A x) (by rfl) (by rfl) (by rfl) (by rfl) (by rfl) ?_
  rintro r' cs' ⟨rfl, rfl⟩
  repeat (first | refine sc rfl ?_ | refine so rfl ?_ | refine sb rfl ?_)
  refine C_loop (fun i : Nat => ⟨[(0, U64 x), (1, SL 4 Evt.c evs2), (5, PT t 0), (16, SL 8 Rw.c rws2), (17, I64 ((2 : Nat) : Int)), (18, I64 (i : Nat))], [.abs (tlA t (fExI i))]⟩) (fun i => i ≤ 2) (fun i => 2 - i) 0 (Nat.zero_le _) (Le.pick [0] ⟨rfl, rfl, rfl, rfl, rfl, rfl, trivial⟩ rfl) ?_
  intro i hi
  repeat (first | refine sc rfl ?_ | refine so rfl ?_ | refine sb rfl ?_)
  refine C_if rfl (fun k1 => ?_) (fun k1 => ?_) <;> simp only [decide_eq_true_eq, decide_eq_false_iff_not, Bool.not_eq_true', Bool.not_eq_false', beq_iff_eq, beq_eq_false_iff_ne, bne_iff_ne, ne_eq, bne_eq_false_iff_eq, Decidable.not_not] at k1
  · have hil : i = 0 ∨ i = 1 := by omega
    rcases hil with rfl | rfl
    · repeat (first | refine sc rfl ?_ | refine so rfl ?_ | refine sb rfl ?_)
      refine ⟨by decide, ?_⟩
      repeat (first | refine sc rfl ?_ | refine so rfl ?_ | refine sb rfl ?_)
      first
        | refine O_callA [0] (row_A t (fExI 0) ⟨0, 4, default⟩) (by rfl) (by rfl) (by rfl) (by rfl) (by rfl) ?_
        | refine O_callA [1] (row_A t (fExI 0) ⟨0, 4, default⟩) (by rfl) (by rfl) (by rfl) (by rfl) (by rfl) ?_
        | refine O_callA [2] (row_A t (fExI 0) ⟨0, 4, default⟩) (by rfl) (by rfl) (by rfl) (by rfl) (by rfl) ?_
        | refine O_callA [3] (row_A t (fExI 0) ⟨0, 4, default⟩) (by rfl) (by rfl) (by rfl) (by rfl) (by rfl) ?_
        | refine O_callA [4] (row_A t (fExI 0) ⟨0, 4, default⟩) (by rfl) (by rfl) (by rfl) (by rfl) (by rfl) ?_
      rintro r' cs' ⟨rfl, rfl⟩
      repeat (first | refine sc rfl ?_ | refine so rfl ?_ | refine sb rfl ?_)
      refine ⟨0 + 1, by decide, by decide, ?_⟩
      first
        | exact Le.pick [0] ⟨rfl, rfl, rfl, rfl, rfl, rfl, trivial⟩ rfl
        | exact Le.pick [1] ⟨rfl, rfl, rfl, rfl, rfl, rfl, trivial⟩ rfl
    · repeat (first | refine sc rfl ?_ | refine so rfl ?_ | refine sb rfl ?_)
      refine ⟨by decide, ?_⟩
      repeat (first | refine sc rfl ?_ | refine so rfl ?_ | refine sb rfl ?_)
      first
        | refine O_callA [0] (row_A t (fExI 1) ⟨1, 3, default⟩) (by rfl) (by rfl) (by rfl) (by rfl) (by rfl) ?_
        | refine O_callA [1] (row_A t (fExI 1) ⟨1, 3, default⟩) (by rfl) (by rfl) (by rfl) (by rfl) (by rfl) ?_
        | refine O_callA [2] (row_A t (fExI 1) ⟨1, 3, default⟩) (by rfl) (by rfl) (by rfl) (by rfl) (by rfl) ?_
        | refine O_callA [3] (row_A t (fExI 1) ⟨1, 3, default⟩) (by rfl) (by rfl) (by rfl) (by rfl) (by rfl) ?_
        | refine O_callA [4] (row_A t (fExI 1) ⟨1, 3, default⟩) (by rfl) (by rfl) (by rfl) (by rfl) (by rfl) ?_
      rintro r' cs' ⟨rfl, rfl⟩
      repeat (first | refine sc rfl ?_ | refine so rfl ?_ | refine sb rfl ?_)
      refine ⟨1 + 1, by decide, by decide, ?_⟩
      first
        | exact Le.pick [0] ⟨rfl, rfl, rfl, rfl, rfl, rfl, trivial⟩ rfl
        | exact Le.pick [1] ⟨rfl, rfl, rfl, rfl, rfl, rfl, trivial⟩ rfl
  · obtain rfl : i = 2 := by omega
    repeat (first | refine sc rfl ?_ | refine so rfl ?_ | refine sb rfl ?_)
    refine O_callA [] (srvNew_A x) (by rfl) (by rfl) (by rfl) (by rfl) (by rfl) ?_
    rintro r' cs' ⟨s, mg, tm, h, g, c, d, rfl, rfl⟩
    repeat (first | refine sc rfl ?_ | refine so rfl ?_ | refine sb rfl ?_)
    refine ⟨by decide, ?_⟩
    repeat (first | refine sc rfl ?_ | refine so rfl ?_ | refine sb rfl ?_)
    refine C_loop (fun i : Nat => ⟨[(5, PT t 0), (8, PT s 0), (32, SL 4 Evt.c evs2), (33, I64 ((2 : Nat) : Int)), (34, I64 (i : Nat))], [.abs (srvA s mg tm ((min i 1 : Nat) : Int)), .abs (tenM tm h), .abs (tenA h g), .abs (gatA g 1048576 1048576 1048576 0 0 0 0 32 0 false), .abs (tlA t fEx)]⟩) (fun i => i ≤ 2) (fun i => 2 - i) 0 (Nat.zero_le _) (Le.pick [0, 0, 0, 0, 2] ⟨rfl, rfl, rfl, rfl, rfl, trivial⟩ rfl) ?_
    intro i hi
    repeat (first | refine sc rfl ?_ | refine so rfl ?_ | refine sb rfl ?_)
    refine C_if rfl (fun k1 => ?_) (fun k1 => ?_) <;> simp only [decide_eq_true_eq, decide_eq_false_iff_not, Bool.not_eq_true', Bool.not_eq_false', beq_iff_eq, beq_eq_false_iff_ne, bne_iff_ne, ne_eq, bne_eq_false_iff_eq, Decidable.not_not] at k1
    · have hil : i = 0 ∨ i = 1 := by omega
      rcases hil with rfl | rfl
      · repeat (first | refine sc rfl ?_ | refine so rfl ?_ | refine sb rfl ?_)
        refine ⟨by decide, ?_⟩
        repeat (first | refine sc rfl ?_ | refine so rfl ?_ | refine sb rfl ?_)
        first
          | refine O_callA [0, 0, 0, 0] (evTick_A s mg tm h g 0 0 1048576 1048576 1048576 0 0 0 0 32 0 false (by decide) (by decide)) (by rfl) (by rfl) (by rfl) (by rfl) (by rfl) ?_
          | refine O_callA [1, 1, 1, 1] (evTick_A s mg tm h g 0 0 1048576 1048576 1048576 0 0 0 0 32 0 false (by decide) (by decide)) (by rfl) (by rfl) (by rfl) (by rfl) (by rfl) ?_
        rintro r' cs' ⟨rfl, rfl⟩
        repeat (first | refine sc rfl ?_ | refine so rfl ?_ | refine sb rfl ?_)
        refine C_loop (fun _ : Unit => ⟨[(5, PT t 0), (8, PT s 0), (32, SL 4 Evt.c evs2), (33, I64 ((2 : Nat) : Int)), (34, I64 ((0 : Nat) : Int)), (43, I64 0), (44, I64 0)], [.abs (srvA s mg tm 1), .abs (tenM tm h), .abs (tenA h g), .abs (gatA g 1048576 1048576 1048576 0 0 0 0 32 0 false), .abs (tlA t fEx)]⟩) (fun _ => True) (fun _ => 0) () trivial ?_ ?_
        · first
            | exact Le.pick [0, 0, 0, 0, 0] ⟨rfl, rfl, rfl, rfl, rfl, rfl, rfl, trivial⟩ rfl
            | exact Le.pick [0, 0, 0, 0, 1] ⟨rfl, rfl, rfl, rfl, rfl, rfl, rfl, trivial⟩ rfl
            | exact Le.pick [0, 1, 1, 1, 1] ⟨rfl, rfl, rfl, rfl, rfl, rfl, rfl, trivial⟩ rfl
        intro _ _
        repeat (first | refine sc rfl ?_ | refine so rfl ?_ | refine sb rfl ?_)
        refine C_false rfl (by decide) ?_
        repeat (first | refine sc rfl ?_ | refine so rfl ?_ | refine sb rfl ?_)
        refine ⟨0 + 1, by decide, by decide, ?_⟩
        first
          | exact Le.pick [0, 0, 0, 0, 0] ⟨rfl, rfl, rfl, rfl, rfl, trivial⟩ rfl
      · repeat (first | refine sc rfl ?_ | refine so rfl ?_ | refine sb rfl ?_)
        refine ⟨by decide, ?_⟩
        repeat (first | refine sc rfl ?_ | refine so rfl ?_ | refine sb rfl ?_)
        first
          | refine O_callA [0] (evServe_A s mg tm 1 1) (by rfl) (by rfl) (by rfl) (by rfl) (by rfl) ?_
          | refine O_callA [1] (evServe_A s mg tm 1 1) (by rfl) (by rfl) (by rfl) (by rfl) (by rfl) ?_
        rintro r' cs' ⟨rfl, rfl⟩
        repeat (first | refine sc rfl ?_ | refine so rfl ?_ | refine sb rfl ?_)
        refine C_loop (fun _ : Unit => ⟨[(5, PT t 0), (8, PT s 0), (32, SL 4 Evt.c evs2), (33, I64 ((2 : Nat) : Int)), (34, I64 ((1 : Nat) : Int)), (43, I64 0), (44, I64 0)], [.abs (srvA s mg tm 1), .abs (tenM tm h), .abs (tenA h g), .abs (gatA g 1048576 1048576 1048576 0 0 0 0 32 0 false), .abs (tlA t fEx)]⟩) (fun _ => True) (fun _ => 0) () trivial ?_ ?_
        · first
            | exact Le.pick [0, 0, 0, 0, 0] ⟨rfl, rfl, rfl, rfl, rfl, rfl, rfl, trivial⟩ rfl
            | exact Le.pick [0, 0, 0, 0, 1] ⟨rfl, rfl, rfl, rfl, rfl, rfl, rfl, trivial⟩ rfl
            | exact Le.pick [0, 1, 1, 1, 1] ⟨rfl, rfl, rfl, rfl, rfl, rfl, rfl, trivial⟩ rfl
        intro _ _
        repeat (first | refine sc rfl ?_ | refine so rfl ?_ | refine sb rfl ?_)
        refine C_false rfl (by decide) ?_
        repeat (first | refine sc rfl ?_ | refine so rfl ?_ | refine sb rfl ?_)
        refine ⟨1 + 1, by decide, by decide, ?_⟩
        first
          | exact Le.pick [0, 0, 0, 0, 0] ⟨rfl, rfl, rfl, rfl, rfl, trivial⟩ rfl
    · obtain rfl : i = 2 := by omega
      repeat (first | refine sc rfl ?_ | refine so rfl ?_ | refine sb rfl ?_)
      exact ⟨_, [_], _, rfl, pickA_perm (is := [4]) (As := [_]) rfl, rfl, t, rfl, rfl⟩
theorem fEx_eq (i : Nat) : fEx i = if i = 40 ∨ i = 41 then 1 else 0 := by
  show updC (updC (fun _ => 0) 41 (wi8 ((fun _ => (0 : Int)) 41 + 1))) 40 (wi8 (updC (fun _ => 0) 41 (wi8 ((fun _ => (0 : Int)) 41 + 1)) 40 + 1)) i = _
  unfold updC
  by_cases h : i = 40
  · subst h; rfl
  · by_cases h2 : i = 41
    · subst h2; rfl
    · simp [h, h2]
theorem itoa1 : Lib.itoa 1 = [49] := by
  unfold Lib.itoa
  rw [if_neg (by decide), Lib.decDigits, dif_pos (by decide)]
  rfl
theorem TX_ex : TX fEx = [105, 100, 108, 101, 32, 49, 10, 116, 105, 99, 107, 115, 32, 49, 10] := by
  simp [TX, catL, FC, FR, FS, FT, lineF, fEx_eq, Lib.join, itoa1]
theorem awake49_W : FnK 6 [] [] (fun r cs' => r = B true ∧ cs' = []) := by
  refine FnW.intro Tryz.tabOK Tryz.wide_ Tryz.func6 rfl (by decide) rfl (fun X hK => ?_)
  repeat (first | refine sc rfl ?_ | refine so rfl ?_ | refine sb rfl ?_)
  refine O_le _ (Le.vecrow (k := 3) 2 (fun i => Evt.c (evs2.getD i default)) rfl rfl (fun i hi => ?_)) ?_
  · have hi' : i < 2 := hi
    have : i = 0 ∨ i = 1 := by omega
    rcases this with rfl | rfl <;> rfl
  refine O_le _ (Le.freezeL (l := evs2) (cells := Evt.c) 3 rfl rfl) ?_
  refine O_callA [] (tallyOf_A 1) (by rfl) (by rfl) (by rfl) (by rfl) (by rfl) ?_
  rintro r' cs' ⟨t, rfl, rfl⟩
  refine O_callW hK [0] (text_W t fEx (fun i => ?_)) (by rfl) (by rfl) (by rfl) (by rfl) (by rfl) ?_
  · rw [fEx_eq]
    split <;> exact ⟨by decide, by decide⟩
  rintro r' cs' ⟨rfl, rfl⟩
  rw [TX_ex]
  repeat (first | refine sc rfl ?_ | refine so rfl ?_ | refine sb rfl ?_)
  exact ⟨_, [], _, rfl, pickA_perm (is := []) (As := []) rfl, rfl, rfl, rfl⟩
end Go.Proofs

/- TallyNone: the law. -/
set_option linter.unusedSimpArgs false
set_option linter.unusedVariables false
set_option maxRecDepth 100000
namespace Go.Proofs
open Go.Sy Go.Lib

theorem tallyNone_W (x : Rw) (o : Ou) (n : Int) : FnK 5 [.agg (Rw.c x), .agg (Ou.c o), I64 n] [] (fun r cs' => r = B true) := by
  refine FnW.intro Tryz.tabOK Tryz.wide_ Tryz.func5 rfl (by decide) rfl (fun X hK => ?_)
  repeat (first | refine sc rfl ?_ | refine so rfl ?_ | refine sb rfl ?_)
  refine O_call (rowL_c x) (by rfl) (by rfl) (by rfl) (by rfl) (fun r hr => ?_)
  subst hr
  refine O_call (noneRow_c x) (by rfl) (by rfl) (by rfl) (by rfl) (fun r hr => ?_)
  subst hr
  repeat (first | refine sc rfl ?_ | refine so rfl ?_ | refine sb rfl ?_)
  refine O_call (noneOut_c o) (by rfl) (by rfl) (by rfl) (by rfl) (fun r hr => ?_)
  subst hr
  repeat (first | refine sc rfl ?_ | refine so rfl ?_ | refine sb rfl ?_)
  refine O_callA [] newT_A (by rfl) (by rfl) (by rfl) (by rfl) (by rfl) ?_
  rintro r' cs' ⟨t0, rfl, rfl⟩
  refine O_call (noneAdd_c _) (by rfl) (by rfl) (by rfl) (by rfl) (fun r hr => ?_)
  subst hr
  repeat (first | refine sc rfl ?_ | refine so rfl ?_ | refine sb rfl ?_)
  refine O_call noneRest_c (by rfl) (by rfl) (by rfl) (by rfl) (fun r hr => ?_)
  subst hr
  repeat (first | refine sc rfl ?_ | refine so rfl ?_ | refine sb rfl ?_)
  refine O_call (cameN_c n) (by rfl) (by rfl) (by rfl) (by rfl) (fun r hr => ?_)
  subst hr
  repeat (first | refine sc rfl ?_ | refine so rfl ?_ | refine sb rfl ?_)
  refine O_call (refdN_c n) (by rfl) (by rfl) (by rfl) (by rfl) (fun r hr => ?_)
  subst hr
  repeat (first | refine sc rfl ?_ | refine so rfl ?_ | refine sb rfl ?_)
  refine O_call (servdN_c n) (by rfl) (by rfl) (by rfl) (by rfl) (fun r hr => ?_)
  subst hr
  repeat (first | refine sc rfl ?_ | refine so rfl ?_ | refine sb rfl ?_)
  refine O_le _ (Le.addAbs nilA rfl (fun _ _ => trivial)) ?_
  refine O_callW hK [0] textN_W (by rfl) (by rfl) (by rfl) (by rfl) (by rfl) ?_
  rintro r' cs' ⟨rfl, rfl⟩
  repeat (first | refine sc rfl ?_ | refine so rfl ?_ | refine sb rfl ?_)
  refine O_callA [] newT_A (by rfl) (by rfl) (by rfl) (by rfl) (by rfl) ?_
  rintro r' cs' ⟨t1, rfl, rfl⟩
  refine O_callW hK [0] (text_W t1 (fun _ => 0) (fun _ => ⟨by decide, by decide⟩)) (by rfl) (by rfl) (by rfl) (by rfl) (by rfl) ?_
  rintro r' cs' ⟨rfl, rfl⟩
  rw [TX_zero]
  repeat (first | refine sc rfl ?_ | refine so rfl ?_ | refine sb rfl ?_)
  refine O_callW hK [] awake49_W (by rfl) (by rfl) (by rfl) (by rfl) (by rfl) ?_
  rintro r' cs' ⟨rfl, rfl⟩
  repeat (first | refine sc rfl ?_ | refine so rfl ?_ | refine sb rfl ?_)
  exact ⟨_, [], _, rfl, pickA_perm (is := []) (As := []) rfl, rfl, rfl⟩
end Go.Proofs
