/- What a tally's text is. -/
import Derived.Test.YtpkbclagmkgpkaaGreatDoorN8
import Derived.Test.YtpkbclagmkgpkaaGreatDoorN4
import Derived.Test.YtpkbclagmkgpkaaGreatDoorN9
import Derived.Test.YtpkbclagmkgpkaaGreatDoorN7
import Derived.Test.YtpkbclagmkgpkaaGreatDoorN6
import Derived.Test.YtpkbclagmkgpkaaGreatDoorN11
set_option linter.unusedSimpArgs false
set_option linter.unusedVariables false
set_option maxRecDepth 100000
namespace Go.Proofs
open Go.Sy Go.Lib

def moreL (k : Int) : List UInt8 :=
  if k = 11 then [116, 101, 120, 116] else if k = 12 then [110, 111, 110, 101] else if k = 13 then [102, 117, 108, 108] else if k = 14 then [113, 117, 111, 116, 97] else if k = 15 then [98, 117, 115, 121] else if k = 16 then [97, 117, 116, 104] else if k = 17 then [115, 116, 97, 116, 101] else if k = 18 then [108, 97, 116, 101] else if k = 19 then [103, 111, 110, 101] else if k = 20 then [114, 101, 115, 116] else [111, 116, 104, 101, 114]
def errL (k : Int) : List UInt8 :=
  if k = 0 then [111, 107] else if k = 1 then [102, 111, 114, 109] else if k = 2 then [115, 104, 111, 114, 116] else if k = 3 then [108, 111, 110, 103] else if k = 4 then [107, 105, 110, 100] else if k = 5 then [116, 111, 107, 101, 110] else if k = 6 then [110, 97, 109, 101] else if k = 7 then [116, 119, 105, 99, 101] else if k = 8 then [116, 121, 112, 101] else if k = 9 then [116, 97, 103] else if k = 10 then [100, 101, 101, 112] else moreL k
theorem more_c (k : Int) : FnP Tryz.prog 39 [I64 k] (· = .s (moreL k)) := by
  refine FnP.intro Tryz.tabOK Tryz.wide_ Tryz.func39 rfl (by decide) rfl (fun X => ?_)
  unfold moreL
  iterate 10
    repeat (first|refine sc rfl ?_|refine so rfl ?_|refine sb rfl ?_)
    refine C_if rfl (fun h => ?_) (fun h => ?_) <;> simp only [pL] at h
    · rw [if_pos h]
      repeat (first|refine sc rfl ?_|refine so rfl ?_|refine sb rfl ?_)
      exact ⟨_, rfl, rfl, rfl⟩
    rw [if_neg h]
  repeat (first|refine sc rfl ?_|refine so rfl ?_|refine sb rfl ?_)
  exact ⟨_, rfl, rfl, rfl⟩
theorem error_c (k : Int) : FnP Tryz.prog 22 [I64 k] (· = .s (errL k)) := by
  refine FnP.intro Tryz.tabOK Tryz.wide_ Tryz.func22 rfl (by decide) rfl (fun X => ?_)
  unfold errL
  iterate 11
    repeat (first|refine sc rfl ?_|refine so rfl ?_|refine sb rfl ?_)
    refine C_if rfl (fun h => ?_) (fun h => ?_) <;> simp only [pL] at h
    · rw [if_pos h]
      repeat (first|refine sc rfl ?_|refine so rfl ?_|refine sb rfl ?_)
      exact ⟨_, rfl, rfl, rfl⟩
    rw [if_neg h]
  repeat (first|refine sc rfl ?_|refine so rfl ?_|refine sb rfl ?_)
  refine O_call (more_c k) (by rfl) (by rfl) (by rfl) (by rfl) (fun r hr => ?_)
  subst hr
  repeat (first|refine sc rfl ?_|refine so rfl ?_|refine sb rfl ?_)
  exact ⟨_, rfl, rfl, rfl⟩
theorem ite_len {c : Prop} [Decidable c] {a b : List UInt8} {n : Nat} (ha : a.length ≤ n) (hb : b.length ≤ n) : (if c then a else b).length ≤ n := by
  split
  · exact ha
  · exact hb
theorem wordL_len (k : Int) : (wordL k).length ≤ 6 := by
  unfold wordL
  repeat (refine ite_len (by decide) ?_)
  decide
theorem errL_len (k : Int) : (errL k).length ≤ 5 := by
  unfold errL moreL
  repeat (refine ite_len (by decide) ?_)
  decide
def catL (F : Nat → List UInt8) : Nat → List UInt8
  | 0 => []
  | n + 1 => catL F n ++ F n
theorem catL_len {F : Nat → List UInt8} {m : Nat} : ∀ n, (∀ i, i < n → (F i).length ≤ m) → (catL F n).length ≤ n * m
  | 0, _ => by simp [catL]
  | n + 1, h => by
    have := catL_len n (fun i hi => h i (by omega))
    have := h n (by omega)
    rw [catL, List.length_append, Nat.succ_mul]; omega
abbrev wCame : List UInt8 := [99, 97, 109, 101]
abbrev wRef : List UInt8 := [114, 101, 102, 117, 115, 101, 100]
abbrev wSer : List UInt8 := [115, 101, 114, 118, 101, 100]
def FC (f : Nat → Int) (i : Nat) : List UInt8 := lineF (f (i + 1)) (Lib.join [wCame, wordL ((i + 1 : Nat) : Int)] [32])
def FR (f : Nat → Int) (i : Nat) : List UInt8 := lineF (f (10 + (i + 1))) (Lib.join [wRef, errL ((i + 1 : Nat) : Int)] [32])
def FS (f : Nat → Int) (i : Nat) : List UInt8 := lineF (f (31 + i)) (Lib.join [wSer, Lib.itoa ((i : Nat) : Int)] [32])
def FT (f : Nat → Int) : List UInt8 := lineF (f 40) (Lib.join [[105, 100, 108, 101]] [32]) ++ lineF (f 41) (Lib.join [[116, 105, 99, 107, 115]] [32]) ++ lineF (f 42) (Lib.join [[98, 121, 116, 101, 115]] [32]) ++ lineF (f 43) (Lib.join [[115, 104, 117, 116]] [32])
def TX (f : Nat → Int) : List UInt8 := catL (FC f) 9 ++ catL (FR f) 20 ++ catL (FS f) 9 ++ FT f
abbrev ok8 (x : Int) : Prop := -9223372036854775808 ≤ x ∧ x ≤ 9223372036854775807
theorem join2_len (a b : List UInt8) : (Lib.join [a, b] [32]).length = a.length + b.length + 1 := by
  simp [Lib.join]; omega
theorem text_G (pv : Value) (A : Abs) (f : Nat → Int) (hf : ∀ i, ok8 (f i))
    (hC : ∀ k, FnA Tryz.prog 61 [.v pv, I64 k] [A] (fun r cs' => r = I64 (if 1 ≤ k ∧ k ≤ 9 then f (0 + k.toNat) else 0) ∧ cs' = [A]))
    (hR : ∀ k, FnA Tryz.prog 63 [.v pv, I64 k] [A] (fun r cs' => r = I64 (if 1 ≤ k ∧ k ≤ 20 then f (10 + k.toNat) else 0) ∧ cs' = [A]))
    (hS : ∀ k, FnA Tryz.prog 64 [.v pv, I64 k] [A] (fun r cs' => r = I64 (if 0 ≤ k ∧ k ≤ 8 then f (31 + k.toNat) else 0) ∧ cs' = [A]))
    (hT : FnA Tryz.prog 65 [.v pv] [A] (fun r cs' => r = .tup [I64 (f 40), I64 (f 41), I64 (f 42), I64 (f 43)] ∧ cs' = [A])) :
    FnK 28 [.v pv] [A] (fun r cs' => r = .s (TX f) ∧ cs' = [A]) := by
  refine FnW.intro Tryz.tabOK Tryz.wide_ Tryz.func28 rfl (by decide) rfl (fun X hK => ?_)
  have lFC : ∀ i, (FC f i).length ≤ 64 := fun i => by
    have h1 := lineF_len (w := Lib.join [wCame, wordL ((i + 1 : Nat) : Int)] [32]) (hf (i + 1)).1 (hf (i + 1)).2
    have h2 := wordL_len ((i + 1 : Nat) : Int)
    rw [join2_len] at h1
    have : wCame.length = 4 := rfl
    unfold FC; omega
  have lFR : ∀ i, (FR f i).length ≤ 64 := fun i => by
    have h1 := lineF_len (w := Lib.join [wRef, errL ((i + 1 : Nat) : Int)] [32]) (hf (10 + (i + 1))).1 (hf (10 + (i + 1))).2
    have h2 := errL_len ((i + 1 : Nat) : Int)
    rw [join2_len] at h1
    have : wRef.length = 7 := rfl
    unfold FR; omega
  have lFS : ∀ i, i < 9 → (FS f i).length ≤ 64 := fun i hi => by
    have h1 := lineF_len (w := Lib.join [wSer, Lib.itoa ((i : Nat) : Int)] [32]) (hf (31 + i)).1 (hf (31 + i)).2
    have h2 := Lib.itoa_length_le ((i : Nat) : Int) (by omega) (by omega)
    rw [join2_len] at h1
    have : wSer.length = 6 := rfl
    unfold FS; omega
  repeat (first|refine sc rfl ?_|refine so rfl ?_|refine sb rfl ?_)
  refine C_absb 3 rfl rfl rfl (fun b => ?_)
  refine C_le _ (Le.addAbs (bufA (.slice none 0 0) 5 []) rfl (fun _ _ => ⟨rfl, .inl ⟨rfl, rfl⟩⟩)) ?_
  refine C_loop (fun q : Nat × Bool × Value => ⟨[(0, .v pv), (3, PT b 0), (4, I64 ((q.1 + 1 : Nat) : Int))], [.abs (bldC b q.2.1 q.2.2), .abs (bufA q.2.2 5 (catL (FC f) q.1)), .abs A]⟩) (fun q => q.1 ≤ 9 ∧ HdB q.2.2 (catL (FC f) q.1)) (fun q => 9 - q.1) (0, false, .slice none 0 0) ⟨Nat.zero_le _, .inl ⟨rfl, rfl⟩⟩ (Le.pick [1, 0, 0] ⟨rfl, rfl, rfl, trivial⟩ rfl) ?_
  rintro ⟨i, u, h⟩ ⟨hi, hH⟩
  simp only [] at hi hH ⊢
  have l1 := catL_len i (fun j _ => lFC j)
  repeat (first|refine sc rfl ?_|refine so rfl ?_|refine sb rfl ?_)
  refine C_if rfl (fun k1 => ?_) (fun k1 => ?_) <;> simp only [pL] at k1
  · repeat (first|refine sc rfl ?_|refine so rfl ?_|refine sb rfl ?_)
    first
      | refine O_callA [0] (hC ((i + 1 : Nat) : Int)) (by rfl) (by rfl) (by rfl) (by rfl) (by rfl) ?_
      | refine O_callA [1] (hC ((i + 1 : Nat) : Int)) (by rfl) (by rfl) (by rfl) (by rfl) (by rfl) ?_
      | refine O_callA [2] (hC ((i + 1 : Nat) : Int)) (by rfl) (by rfl) (by rfl) (by rfl) (by rfl) ?_
      | refine O_callA [3] (hC ((i + 1 : Nat) : Int)) (by rfl) (by rfl) (by rfl) (by rfl) (by rfl) ?_
      | refine O_callA [4] (hC ((i + 1 : Nat) : Int)) (by rfl) (by rfl) (by rfl) (by rfl) (by rfl) ?_
    rintro r' cs' ⟨rfl, rfl⟩
    rw [if_pos ⟨by omega, by omega⟩, show 0 + ((i + 1 : Nat) : Int).toNat = i + 1 by omega]
    repeat (first|refine sc rfl ?_|refine so rfl ?_|refine sb rfl ?_)
    refine O_call (word_c ((i + 1 : Nat) : Int)) (by rfl) (by rfl) (by rfl) (by rfl) (fun r hr => ?_)
    subst hr
    repeat (first|refine sc rfl ?_|refine so rfl ?_|refine sb rfl ?_)
    refine O_le _ (Le.vecrow (k := 20) 2 (fun j => WDc ([wCame, wordL ((i + 1 : Nat) : Int)].getD j default)) rfl rfl (fun j hj => ?_)) ?_
    · have hj' : j < 2 := hj
      have : j = 0 ∨ j = 1 := by omega
      rcases this with rfl | rfl <;> rfl
    refine O_le _ (Le.freezeL (l := [wCame, wordL ((i + 1 : Nat) : Int)]) (cells := WDc) 20 rfl rfl) ?_
    refine O_callW hK [] (line_W (f (i + 1)) (hf _).1 (hf _).2 [wCame, wordL ((i + 1 : Nat) : Int)] (by simp) (by simp) (by rw [join2_len]; have := wordL_len ((i + 1 : Nat) : Int); have : wCame.length = 4 := rfl; omega)) (by rfl) (by rfl) (by rfl) (by rfl) (by rfl) ?_
    rintro r' cs' ⟨rfl, rfl⟩
    repeat (first|refine sc rfl ?_|refine so rfl ?_|refine sb rfl ?_)
    first
      | refine O_callA [0, 0] (WriteString_A b u h (catL (FC f) i) (FC f i) hH (by have := lFC i; omega)) (by rfl) (by rfl) (by rfl) (by rfl) (by rfl) ?_
      | refine O_callA [0, 1] (WriteString_A b u h (catL (FC f) i) (FC f i) hH (by have := lFC i; omega)) (by rfl) (by rfl) (by rfl) (by rfl) (by rfl) ?_
      | refine O_callA [0, 2] (WriteString_A b u h (catL (FC f) i) (FC f i) hH (by have := lFC i; omega)) (by rfl) (by rfl) (by rfl) (by rfl) (by rfl) ?_
      | refine O_callA [0, 3] (WriteString_A b u h (catL (FC f) i) (FC f i) hH (by have := lFC i; omega)) (by rfl) (by rfl) (by rfl) (by rfl) (by rfl) ?_
      | refine O_callA [0, 4] (WriteString_A b u h (catL (FC f) i) (FC f i) hH (by have := lFC i; omega)) (by rfl) (by rfl) (by rfl) (by rfl) (by rfl) ?_
      | refine O_callA [0, 5] (WriteString_A b u h (catL (FC f) i) (FC f i) hH (by have := lFC i; omega)) (by rfl) (by rfl) (by rfl) (by rfl) (by rfl) ?_
      | refine O_callA [1, 0] (WriteString_A b u h (catL (FC f) i) (FC f i) hH (by have := lFC i; omega)) (by rfl) (by rfl) (by rfl) (by rfl) (by rfl) ?_
      | refine O_callA [1, 1] (WriteString_A b u h (catL (FC f) i) (FC f i) hH (by have := lFC i; omega)) (by rfl) (by rfl) (by rfl) (by rfl) (by rfl) ?_
      | refine O_callA [1, 2] (WriteString_A b u h (catL (FC f) i) (FC f i) hH (by have := lFC i; omega)) (by rfl) (by rfl) (by rfl) (by rfl) (by rfl) ?_
      | refine O_callA [1, 3] (WriteString_A b u h (catL (FC f) i) (FC f i) hH (by have := lFC i; omega)) (by rfl) (by rfl) (by rfl) (by rfl) (by rfl) ?_
      | refine O_callA [1, 4] (WriteString_A b u h (catL (FC f) i) (FC f i) hH (by have := lFC i; omega)) (by rfl) (by rfl) (by rfl) (by rfl) (by rfl) ?_
      | refine O_callA [1, 5] (WriteString_A b u h (catL (FC f) i) (FC f i) hH (by have := lFC i; omega)) (by rfl) (by rfl) (by rfl) (by rfl) (by rfl) ?_
      | refine O_callA [2, 0] (WriteString_A b u h (catL (FC f) i) (FC f i) hH (by have := lFC i; omega)) (by rfl) (by rfl) (by rfl) (by rfl) (by rfl) ?_
      | refine O_callA [2, 1] (WriteString_A b u h (catL (FC f) i) (FC f i) hH (by have := lFC i; omega)) (by rfl) (by rfl) (by rfl) (by rfl) (by rfl) ?_
      | refine O_callA [2, 2] (WriteString_A b u h (catL (FC f) i) (FC f i) hH (by have := lFC i; omega)) (by rfl) (by rfl) (by rfl) (by rfl) (by rfl) ?_
      | refine O_callA [2, 3] (WriteString_A b u h (catL (FC f) i) (FC f i) hH (by have := lFC i; omega)) (by rfl) (by rfl) (by rfl) (by rfl) (by rfl) ?_
      | refine O_callA [2, 4] (WriteString_A b u h (catL (FC f) i) (FC f i) hH (by have := lFC i; omega)) (by rfl) (by rfl) (by rfl) (by rfl) (by rfl) ?_
      | refine O_callA [2, 5] (WriteString_A b u h (catL (FC f) i) (FC f i) hH (by have := lFC i; omega)) (by rfl) (by rfl) (by rfl) (by rfl) (by rfl) ?_
      | refine O_callA [3, 0] (WriteString_A b u h (catL (FC f) i) (FC f i) hH (by have := lFC i; omega)) (by rfl) (by rfl) (by rfl) (by rfl) (by rfl) ?_
      | refine O_callA [3, 1] (WriteString_A b u h (catL (FC f) i) (FC f i) hH (by have := lFC i; omega)) (by rfl) (by rfl) (by rfl) (by rfl) (by rfl) ?_
      | refine O_callA [3, 2] (WriteString_A b u h (catL (FC f) i) (FC f i) hH (by have := lFC i; omega)) (by rfl) (by rfl) (by rfl) (by rfl) (by rfl) ?_
      | refine O_callA [3, 3] (WriteString_A b u h (catL (FC f) i) (FC f i) hH (by have := lFC i; omega)) (by rfl) (by rfl) (by rfl) (by rfl) (by rfl) ?_
      | refine O_callA [3, 4] (WriteString_A b u h (catL (FC f) i) (FC f i) hH (by have := lFC i; omega)) (by rfl) (by rfl) (by rfl) (by rfl) (by rfl) ?_
      | refine O_callA [3, 5] (WriteString_A b u h (catL (FC f) i) (FC f i) hH (by have := lFC i; omega)) (by rfl) (by rfl) (by rfl) (by rfl) (by rfl) ?_
      | refine O_callA [4, 0] (WriteString_A b u h (catL (FC f) i) (FC f i) hH (by have := lFC i; omega)) (by rfl) (by rfl) (by rfl) (by rfl) (by rfl) ?_
      | refine O_callA [4, 1] (WriteString_A b u h (catL (FC f) i) (FC f i) hH (by have := lFC i; omega)) (by rfl) (by rfl) (by rfl) (by rfl) (by rfl) ?_
      | refine O_callA [4, 2] (WriteString_A b u h (catL (FC f) i) (FC f i) hH (by have := lFC i; omega)) (by rfl) (by rfl) (by rfl) (by rfl) (by rfl) ?_
      | refine O_callA [4, 3] (WriteString_A b u h (catL (FC f) i) (FC f i) hH (by have := lFC i; omega)) (by rfl) (by rfl) (by rfl) (by rfl) (by rfl) ?_
      | refine O_callA [4, 4] (WriteString_A b u h (catL (FC f) i) (FC f i) hH (by have := lFC i; omega)) (by rfl) (by rfl) (by rfl) (by rfl) (by rfl) ?_
      | refine O_callA [4, 5] (WriteString_A b u h (catL (FC f) i) (FC f i) hH (by have := lFC i; omega)) (by rfl) (by rfl) (by rfl) (by rfl) (by rfl) ?_
      | refine O_callA [5, 0] (WriteString_A b u h (catL (FC f) i) (FC f i) hH (by have := lFC i; omega)) (by rfl) (by rfl) (by rfl) (by rfl) (by rfl) ?_
      | refine O_callA [5, 1] (WriteString_A b u h (catL (FC f) i) (FC f i) hH (by have := lFC i; omega)) (by rfl) (by rfl) (by rfl) (by rfl) (by rfl) ?_
      | refine O_callA [5, 2] (WriteString_A b u h (catL (FC f) i) (FC f i) hH (by have := lFC i; omega)) (by rfl) (by rfl) (by rfl) (by rfl) (by rfl) ?_
      | refine O_callA [5, 3] (WriteString_A b u h (catL (FC f) i) (FC f i) hH (by have := lFC i; omega)) (by rfl) (by rfl) (by rfl) (by rfl) (by rfl) ?_
      | refine O_callA [5, 4] (WriteString_A b u h (catL (FC f) i) (FC f i) hH (by have := lFC i; omega)) (by rfl) (by rfl) (by rfl) (by rfl) (by rfl) ?_
      | refine O_callA [5, 5] (WriteString_A b u h (catL (FC f) i) (FC f i) hH (by have := lFC i; omega)) (by rfl) (by rfl) (by rfl) (by rfl) (by rfl) ?_
      | refine O_callA [6, 0] (WriteString_A b u h (catL (FC f) i) (FC f i) hH (by have := lFC i; omega)) (by rfl) (by rfl) (by rfl) (by rfl) (by rfl) ?_
      | refine O_callA [6, 1] (WriteString_A b u h (catL (FC f) i) (FC f i) hH (by have := lFC i; omega)) (by rfl) (by rfl) (by rfl) (by rfl) (by rfl) ?_
      | refine O_callA [6, 2] (WriteString_A b u h (catL (FC f) i) (FC f i) hH (by have := lFC i; omega)) (by rfl) (by rfl) (by rfl) (by rfl) (by rfl) ?_
      | refine O_callA [6, 3] (WriteString_A b u h (catL (FC f) i) (FC f i) hH (by have := lFC i; omega)) (by rfl) (by rfl) (by rfl) (by rfl) (by rfl) ?_
      | refine O_callA [6, 4] (WriteString_A b u h (catL (FC f) i) (FC f i) hH (by have := lFC i; omega)) (by rfl) (by rfl) (by rfl) (by rfl) (by rfl) ?_
      | refine O_callA [6, 5] (WriteString_A b u h (catL (FC f) i) (FC f i) hH (by have := lFC i; omega)) (by rfl) (by rfl) (by rfl) (by rfl) (by rfl) ?_
    rintro r' cs' ⟨rfl, h', hH', rfl⟩
    repeat (first|refine sc rfl ?_|refine so rfl ?_|refine sb rfl ?_)
    rw [w64 (x := ((i + 1 : Nat) : Int) + 1) (by omega) (by omega)]
    refine ⟨(i + 1, true, h'), ⟨by simp only []; omega, hH'⟩, by simp only []; omega, ?_⟩
    first
      | exact Le.pick [0, 0, 0] ⟨rfl, rfl, rfl, trivial⟩ rfl
      | exact Le.pick [1, 1, 0] ⟨rfl, rfl, rfl, trivial⟩ rfl
  · obtain rfl : i = 9 := by omega
    repeat (first|refine sc rfl ?_|refine so rfl ?_|refine sb rfl ?_)
    refine C_loop (fun q : Nat × Bool × Value => ⟨[(0, .v pv), (3, PT b 0), (5, I64 ((q.1 + 1 : Nat) : Int))], [.abs (bldC b q.2.1 q.2.2), .abs (bufA q.2.2 5 (catL (FC f) 9 ++ catL (FR f) q.1)), .abs A]⟩) (fun q => q.1 ≤ 20 ∧ HdB q.2.2 (catL (FC f) 9 ++ catL (FR f) q.1)) (fun q => 20 - q.1) (0, u, h) ⟨Nat.zero_le _, by rw [catL, List.append_nil]; exact hH⟩ ?_ ?_
    · show Le _ _ _ ⟨_, [.abs (bldC b u h), .abs (bufA h 5 (catL (FC f) 9 ++ catL (FR f) 0)), .abs A]⟩
      rw [show catL (FR f) 0 = [] from rfl, List.append_nil]
      first
        | exact Le.pick [0, 0, 0] ⟨rfl, rfl, rfl, trivial⟩ rfl
        | exact Le.pick [1, 1, 0] ⟨rfl, rfl, rfl, trivial⟩ rfl
    rintro ⟨i, u, h⟩ ⟨hi, hH⟩
    simp only [] at hi hH ⊢
    have l2 := catL_len i (fun j _ => lFR j)
    repeat (first|refine sc rfl ?_|refine so rfl ?_|refine sb rfl ?_)
    refine C_if rfl (fun k1 => ?_) (fun k1 => ?_) <;> simp only [pL] at k1
    · repeat (first|refine sc rfl ?_|refine so rfl ?_|refine sb rfl ?_)
      first
        | refine O_callA [0] (hR ((i + 1 : Nat) : Int)) (by rfl) (by rfl) (by rfl) (by rfl) (by rfl) ?_
        | refine O_callA [1] (hR ((i + 1 : Nat) : Int)) (by rfl) (by rfl) (by rfl) (by rfl) (by rfl) ?_
        | refine O_callA [2] (hR ((i + 1 : Nat) : Int)) (by rfl) (by rfl) (by rfl) (by rfl) (by rfl) ?_
        | refine O_callA [3] (hR ((i + 1 : Nat) : Int)) (by rfl) (by rfl) (by rfl) (by rfl) (by rfl) ?_
        | refine O_callA [4] (hR ((i + 1 : Nat) : Int)) (by rfl) (by rfl) (by rfl) (by rfl) (by rfl) ?_
      rintro r' cs' ⟨rfl, rfl⟩
      rw [if_pos ⟨by omega, by omega⟩, show 10 + ((i + 1 : Nat) : Int).toNat = 10 + (i + 1) by omega]
      repeat (first|refine sc rfl ?_|refine so rfl ?_|refine sb rfl ?_)
      refine O_call (error_c ((i + 1 : Nat) : Int)) (by rfl) (by rfl) (by rfl) (by rfl) (fun r hr => ?_)
      subst hr
      repeat (first|refine sc rfl ?_|refine so rfl ?_|refine sb rfl ?_)
      refine O_le _ (Le.vecrow (k := 32) 2 (fun j => WDc ([wRef, errL ((i + 1 : Nat) : Int)].getD j default)) rfl rfl (fun j hj => ?_)) ?_
      · have hj' : j < 2 := hj
        have : j = 0 ∨ j = 1 := by omega
        rcases this with rfl | rfl <;> rfl
      refine O_le _ (Le.freezeL (l := [wRef, errL ((i + 1 : Nat) : Int)]) (cells := WDc) 32 rfl rfl) ?_
      refine O_callW hK [] (line_W (f (10 + (i + 1))) (hf _).1 (hf _).2 [wRef, errL ((i + 1 : Nat) : Int)] (by simp) (by simp) (by rw [join2_len]; have := errL_len ((i + 1 : Nat) : Int); have : wRef.length = 7 := rfl; omega)) (by rfl) (by rfl) (by rfl) (by rfl) (by rfl) ?_
      rintro r' cs' ⟨rfl, rfl⟩
      repeat (first|refine sc rfl ?_|refine so rfl ?_|refine sb rfl ?_)
      first
        | refine O_callA [0, 0] (WriteString_A b u h (catL (FC f) 9 ++ catL (FR f) i) (FR f i) hH (by have := lFR i; rw [List.length_append]; omega)) (by rfl) (by rfl) (by rfl) (by rfl) (by rfl) ?_
        | refine O_callA [0, 1] (WriteString_A b u h (catL (FC f) 9 ++ catL (FR f) i) (FR f i) hH (by have := lFR i; rw [List.length_append]; omega)) (by rfl) (by rfl) (by rfl) (by rfl) (by rfl) ?_
        | refine O_callA [0, 2] (WriteString_A b u h (catL (FC f) 9 ++ catL (FR f) i) (FR f i) hH (by have := lFR i; rw [List.length_append]; omega)) (by rfl) (by rfl) (by rfl) (by rfl) (by rfl) ?_
        | refine O_callA [0, 3] (WriteString_A b u h (catL (FC f) 9 ++ catL (FR f) i) (FR f i) hH (by have := lFR i; rw [List.length_append]; omega)) (by rfl) (by rfl) (by rfl) (by rfl) (by rfl) ?_
        | refine O_callA [0, 4] (WriteString_A b u h (catL (FC f) 9 ++ catL (FR f) i) (FR f i) hH (by have := lFR i; rw [List.length_append]; omega)) (by rfl) (by rfl) (by rfl) (by rfl) (by rfl) ?_
        | refine O_callA [0, 5] (WriteString_A b u h (catL (FC f) 9 ++ catL (FR f) i) (FR f i) hH (by have := lFR i; rw [List.length_append]; omega)) (by rfl) (by rfl) (by rfl) (by rfl) (by rfl) ?_
        | refine O_callA [1, 0] (WriteString_A b u h (catL (FC f) 9 ++ catL (FR f) i) (FR f i) hH (by have := lFR i; rw [List.length_append]; omega)) (by rfl) (by rfl) (by rfl) (by rfl) (by rfl) ?_
        | refine O_callA [1, 1] (WriteString_A b u h (catL (FC f) 9 ++ catL (FR f) i) (FR f i) hH (by have := lFR i; rw [List.length_append]; omega)) (by rfl) (by rfl) (by rfl) (by rfl) (by rfl) ?_
        | refine O_callA [1, 2] (WriteString_A b u h (catL (FC f) 9 ++ catL (FR f) i) (FR f i) hH (by have := lFR i; rw [List.length_append]; omega)) (by rfl) (by rfl) (by rfl) (by rfl) (by rfl) ?_
        | refine O_callA [1, 3] (WriteString_A b u h (catL (FC f) 9 ++ catL (FR f) i) (FR f i) hH (by have := lFR i; rw [List.length_append]; omega)) (by rfl) (by rfl) (by rfl) (by rfl) (by rfl) ?_
        | refine O_callA [1, 4] (WriteString_A b u h (catL (FC f) 9 ++ catL (FR f) i) (FR f i) hH (by have := lFR i; rw [List.length_append]; omega)) (by rfl) (by rfl) (by rfl) (by rfl) (by rfl) ?_
        | refine O_callA [1, 5] (WriteString_A b u h (catL (FC f) 9 ++ catL (FR f) i) (FR f i) hH (by have := lFR i; rw [List.length_append]; omega)) (by rfl) (by rfl) (by rfl) (by rfl) (by rfl) ?_
        | refine O_callA [2, 0] (WriteString_A b u h (catL (FC f) 9 ++ catL (FR f) i) (FR f i) hH (by have := lFR i; rw [List.length_append]; omega)) (by rfl) (by rfl) (by rfl) (by rfl) (by rfl) ?_
        | refine O_callA [2, 1] (WriteString_A b u h (catL (FC f) 9 ++ catL (FR f) i) (FR f i) hH (by have := lFR i; rw [List.length_append]; omega)) (by rfl) (by rfl) (by rfl) (by rfl) (by rfl) ?_
        | refine O_callA [2, 2] (WriteString_A b u h (catL (FC f) 9 ++ catL (FR f) i) (FR f i) hH (by have := lFR i; rw [List.length_append]; omega)) (by rfl) (by rfl) (by rfl) (by rfl) (by rfl) ?_
        | refine O_callA [2, 3] (WriteString_A b u h (catL (FC f) 9 ++ catL (FR f) i) (FR f i) hH (by have := lFR i; rw [List.length_append]; omega)) (by rfl) (by rfl) (by rfl) (by rfl) (by rfl) ?_
        | refine O_callA [2, 4] (WriteString_A b u h (catL (FC f) 9 ++ catL (FR f) i) (FR f i) hH (by have := lFR i; rw [List.length_append]; omega)) (by rfl) (by rfl) (by rfl) (by rfl) (by rfl) ?_
        | refine O_callA [2, 5] (WriteString_A b u h (catL (FC f) 9 ++ catL (FR f) i) (FR f i) hH (by have := lFR i; rw [List.length_append]; omega)) (by rfl) (by rfl) (by rfl) (by rfl) (by rfl) ?_
        | refine O_callA [3, 0] (WriteString_A b u h (catL (FC f) 9 ++ catL (FR f) i) (FR f i) hH (by have := lFR i; rw [List.length_append]; omega)) (by rfl) (by rfl) (by rfl) (by rfl) (by rfl) ?_
        | refine O_callA [3, 1] (WriteString_A b u h (catL (FC f) 9 ++ catL (FR f) i) (FR f i) hH (by have := lFR i; rw [List.length_append]; omega)) (by rfl) (by rfl) (by rfl) (by rfl) (by rfl) ?_
        | refine O_callA [3, 2] (WriteString_A b u h (catL (FC f) 9 ++ catL (FR f) i) (FR f i) hH (by have := lFR i; rw [List.length_append]; omega)) (by rfl) (by rfl) (by rfl) (by rfl) (by rfl) ?_
        | refine O_callA [3, 3] (WriteString_A b u h (catL (FC f) 9 ++ catL (FR f) i) (FR f i) hH (by have := lFR i; rw [List.length_append]; omega)) (by rfl) (by rfl) (by rfl) (by rfl) (by rfl) ?_
        | refine O_callA [3, 4] (WriteString_A b u h (catL (FC f) 9 ++ catL (FR f) i) (FR f i) hH (by have := lFR i; rw [List.length_append]; omega)) (by rfl) (by rfl) (by rfl) (by rfl) (by rfl) ?_
        | refine O_callA [3, 5] (WriteString_A b u h (catL (FC f) 9 ++ catL (FR f) i) (FR f i) hH (by have := lFR i; rw [List.length_append]; omega)) (by rfl) (by rfl) (by rfl) (by rfl) (by rfl) ?_
        | refine O_callA [4, 0] (WriteString_A b u h (catL (FC f) 9 ++ catL (FR f) i) (FR f i) hH (by have := lFR i; rw [List.length_append]; omega)) (by rfl) (by rfl) (by rfl) (by rfl) (by rfl) ?_
        | refine O_callA [4, 1] (WriteString_A b u h (catL (FC f) 9 ++ catL (FR f) i) (FR f i) hH (by have := lFR i; rw [List.length_append]; omega)) (by rfl) (by rfl) (by rfl) (by rfl) (by rfl) ?_
        | refine O_callA [4, 2] (WriteString_A b u h (catL (FC f) 9 ++ catL (FR f) i) (FR f i) hH (by have := lFR i; rw [List.length_append]; omega)) (by rfl) (by rfl) (by rfl) (by rfl) (by rfl) ?_
        | refine O_callA [4, 3] (WriteString_A b u h (catL (FC f) 9 ++ catL (FR f) i) (FR f i) hH (by have := lFR i; rw [List.length_append]; omega)) (by rfl) (by rfl) (by rfl) (by rfl) (by rfl) ?_
        | refine O_callA [4, 4] (WriteString_A b u h (catL (FC f) 9 ++ catL (FR f) i) (FR f i) hH (by have := lFR i; rw [List.length_append]; omega)) (by rfl) (by rfl) (by rfl) (by rfl) (by rfl) ?_
        | refine O_callA [4, 5] (WriteString_A b u h (catL (FC f) 9 ++ catL (FR f) i) (FR f i) hH (by have := lFR i; rw [List.length_append]; omega)) (by rfl) (by rfl) (by rfl) (by rfl) (by rfl) ?_
        | refine O_callA [5, 0] (WriteString_A b u h (catL (FC f) 9 ++ catL (FR f) i) (FR f i) hH (by have := lFR i; rw [List.length_append]; omega)) (by rfl) (by rfl) (by rfl) (by rfl) (by rfl) ?_
        | refine O_callA [5, 1] (WriteString_A b u h (catL (FC f) 9 ++ catL (FR f) i) (FR f i) hH (by have := lFR i; rw [List.length_append]; omega)) (by rfl) (by rfl) (by rfl) (by rfl) (by rfl) ?_
        | refine O_callA [5, 2] (WriteString_A b u h (catL (FC f) 9 ++ catL (FR f) i) (FR f i) hH (by have := lFR i; rw [List.length_append]; omega)) (by rfl) (by rfl) (by rfl) (by rfl) (by rfl) ?_
        | refine O_callA [5, 3] (WriteString_A b u h (catL (FC f) 9 ++ catL (FR f) i) (FR f i) hH (by have := lFR i; rw [List.length_append]; omega)) (by rfl) (by rfl) (by rfl) (by rfl) (by rfl) ?_
        | refine O_callA [5, 4] (WriteString_A b u h (catL (FC f) 9 ++ catL (FR f) i) (FR f i) hH (by have := lFR i; rw [List.length_append]; omega)) (by rfl) (by rfl) (by rfl) (by rfl) (by rfl) ?_
        | refine O_callA [5, 5] (WriteString_A b u h (catL (FC f) 9 ++ catL (FR f) i) (FR f i) hH (by have := lFR i; rw [List.length_append]; omega)) (by rfl) (by rfl) (by rfl) (by rfl) (by rfl) ?_
        | refine O_callA [6, 0] (WriteString_A b u h (catL (FC f) 9 ++ catL (FR f) i) (FR f i) hH (by have := lFR i; rw [List.length_append]; omega)) (by rfl) (by rfl) (by rfl) (by rfl) (by rfl) ?_
        | refine O_callA [6, 1] (WriteString_A b u h (catL (FC f) 9 ++ catL (FR f) i) (FR f i) hH (by have := lFR i; rw [List.length_append]; omega)) (by rfl) (by rfl) (by rfl) (by rfl) (by rfl) ?_
        | refine O_callA [6, 2] (WriteString_A b u h (catL (FC f) 9 ++ catL (FR f) i) (FR f i) hH (by have := lFR i; rw [List.length_append]; omega)) (by rfl) (by rfl) (by rfl) (by rfl) (by rfl) ?_
        | refine O_callA [6, 3] (WriteString_A b u h (catL (FC f) 9 ++ catL (FR f) i) (FR f i) hH (by have := lFR i; rw [List.length_append]; omega)) (by rfl) (by rfl) (by rfl) (by rfl) (by rfl) ?_
        | refine O_callA [6, 4] (WriteString_A b u h (catL (FC f) 9 ++ catL (FR f) i) (FR f i) hH (by have := lFR i; rw [List.length_append]; omega)) (by rfl) (by rfl) (by rfl) (by rfl) (by rfl) ?_
        | refine O_callA [6, 5] (WriteString_A b u h (catL (FC f) 9 ++ catL (FR f) i) (FR f i) hH (by have := lFR i; rw [List.length_append]; omega)) (by rfl) (by rfl) (by rfl) (by rfl) (by rfl) ?_
      rintro r' cs' ⟨rfl, h', hH', rfl⟩
      rw [List.append_assoc] at hH' ⊢
      repeat (first|refine sc rfl ?_|refine so rfl ?_|refine sb rfl ?_)
      rw [w64 (x := ((i + 1 : Nat) : Int) + 1) (by omega) (by omega)]
      refine ⟨(i + 1, true, h'), ⟨by simp only []; omega, hH'⟩, by simp only []; omega, ?_⟩
      first
        | exact Le.pick [0, 0, 0] ⟨rfl, rfl, rfl, trivial⟩ rfl
        | exact Le.pick [1, 1, 0] ⟨rfl, rfl, rfl, trivial⟩ rfl
    · obtain rfl : i = 20 := by omega
      repeat (first|refine sc rfl ?_|refine so rfl ?_|refine sb rfl ?_)
      refine C_loop (fun q : Nat × Bool × Value => ⟨[(0, .v pv), (3, PT b 0), (35, I64 (q.1 : Nat))], [.abs (bldC b q.2.1 q.2.2), .abs (bufA q.2.2 5 (catL (FC f) 9 ++ catL (FR f) 20 ++ catL (FS f) q.1)), .abs A]⟩) (fun q => q.1 ≤ 9 ∧ HdB q.2.2 (catL (FC f) 9 ++ catL (FR f) 20 ++ catL (FS f) q.1)) (fun q => 9 - q.1) (0, u, h) ⟨Nat.zero_le _, by rw [show catL (FS f) 0 = [] from rfl, List.append_nil]; exact hH⟩ ?_ ?_
      · show Le _ _ _ ⟨_, [.abs (bldC b u h), .abs (bufA h 5 (catL (FC f) 9 ++ catL (FR f) 20 ++ catL (FS f) 0)), .abs A]⟩
        rw [show catL (FS f) 0 = [] from rfl, List.append_nil]
        first
          | exact Le.pick [0, 0, 0] ⟨rfl, rfl, rfl, trivial⟩ rfl
          | exact Le.pick [1, 1, 0] ⟨rfl, rfl, rfl, trivial⟩ rfl
      rintro ⟨i, u, h⟩ ⟨hi, hH⟩
      simp only [] at hi hH ⊢
      have l3 := catL_len i (fun j hj => lFS j (by omega))
      repeat (first|refine sc rfl ?_|refine so rfl ?_|refine sb rfl ?_)
      refine C_if rfl (fun k1 => ?_) (fun k1 => ?_) <;> simp only [pL] at k1
      · repeat (first|refine sc rfl ?_|refine so rfl ?_|refine sb rfl ?_)
        first
          | refine O_callA [0] (hS ((i : Nat) : Int)) (by rfl) (by rfl) (by rfl) (by rfl) (by rfl) ?_
          | refine O_callA [1] (hS ((i : Nat) : Int)) (by rfl) (by rfl) (by rfl) (by rfl) (by rfl) ?_
          | refine O_callA [2] (hS ((i : Nat) : Int)) (by rfl) (by rfl) (by rfl) (by rfl) (by rfl) ?_
          | refine O_callA [3] (hS ((i : Nat) : Int)) (by rfl) (by rfl) (by rfl) (by rfl) (by rfl) ?_
          | refine O_callA [4] (hS ((i : Nat) : Int)) (by rfl) (by rfl) (by rfl) (by rfl) (by rfl) ?_
        rintro r' cs' ⟨rfl, rfl⟩
        rw [if_pos ⟨by omega, by omega⟩, show 31 + ((i : Nat) : Int).toNat = 31 + i by omega]
        repeat (first|refine sc rfl ?_|refine so rfl ?_|refine sb rfl ?_)
        refine O_callW hK [] (itoa_W ((i : Nat) : Int) (by omega) (by omega)) (by rfl) (by rfl) (by rfl) (by rfl) (by rfl) ?_
        rintro r' cs' ⟨rfl, rfl⟩
        repeat (first|refine sc rfl ?_|refine so rfl ?_|refine sb rfl ?_)
        refine O_le _ (Le.vecrow (k := 43) 2 (fun j => WDc ([wSer, Lib.itoa ((i : Nat) : Int)].getD j default)) rfl rfl (fun j hj => ?_)) ?_
        · have hj' : j < 2 := hj
          have : j = 0 ∨ j = 1 := by omega
          rcases this with rfl | rfl <;> rfl
        refine O_le _ (Le.freezeL (l := [wSer, Lib.itoa ((i : Nat) : Int)]) (cells := WDc) 43 rfl rfl) ?_
        refine O_callW hK [] (line_W (f (31 + i)) (hf _).1 (hf _).2 [wSer, Lib.itoa ((i : Nat) : Int)] (by simp) (by simp) (by rw [join2_len]; have := Lib.itoa_length_le ((i : Nat) : Int) (by omega) (by omega); have : wSer.length = 6 := rfl; omega)) (by rfl) (by rfl) (by rfl) (by rfl) (by rfl) ?_
        rintro r' cs' ⟨rfl, rfl⟩
        repeat (first|refine sc rfl ?_|refine so rfl ?_|refine sb rfl ?_)
        first
          | refine O_callA [0, 0] (WriteString_A b u h (catL (FC f) 9 ++ catL (FR f) 20 ++ catL (FS f) i) (FS f i) hH (by have := lFS i (by omega); rw [List.length_append, List.length_append]; omega)) (by rfl) (by rfl) (by rfl) (by rfl) (by rfl) ?_
          | refine O_callA [0, 1] (WriteString_A b u h (catL (FC f) 9 ++ catL (FR f) 20 ++ catL (FS f) i) (FS f i) hH (by have := lFS i (by omega); rw [List.length_append, List.length_append]; omega)) (by rfl) (by rfl) (by rfl) (by rfl) (by rfl) ?_
          | refine O_callA [0, 2] (WriteString_A b u h (catL (FC f) 9 ++ catL (FR f) 20 ++ catL (FS f) i) (FS f i) hH (by have := lFS i (by omega); rw [List.length_append, List.length_append]; omega)) (by rfl) (by rfl) (by rfl) (by rfl) (by rfl) ?_
          | refine O_callA [0, 3] (WriteString_A b u h (catL (FC f) 9 ++ catL (FR f) 20 ++ catL (FS f) i) (FS f i) hH (by have := lFS i (by omega); rw [List.length_append, List.length_append]; omega)) (by rfl) (by rfl) (by rfl) (by rfl) (by rfl) ?_
          | refine O_callA [0, 4] (WriteString_A b u h (catL (FC f) 9 ++ catL (FR f) 20 ++ catL (FS f) i) (FS f i) hH (by have := lFS i (by omega); rw [List.length_append, List.length_append]; omega)) (by rfl) (by rfl) (by rfl) (by rfl) (by rfl) ?_
          | refine O_callA [0, 5] (WriteString_A b u h (catL (FC f) 9 ++ catL (FR f) 20 ++ catL (FS f) i) (FS f i) hH (by have := lFS i (by omega); rw [List.length_append, List.length_append]; omega)) (by rfl) (by rfl) (by rfl) (by rfl) (by rfl) ?_
          | refine O_callA [1, 0] (WriteString_A b u h (catL (FC f) 9 ++ catL (FR f) 20 ++ catL (FS f) i) (FS f i) hH (by have := lFS i (by omega); rw [List.length_append, List.length_append]; omega)) (by rfl) (by rfl) (by rfl) (by rfl) (by rfl) ?_
          | refine O_callA [1, 1] (WriteString_A b u h (catL (FC f) 9 ++ catL (FR f) 20 ++ catL (FS f) i) (FS f i) hH (by have := lFS i (by omega); rw [List.length_append, List.length_append]; omega)) (by rfl) (by rfl) (by rfl) (by rfl) (by rfl) ?_
          | refine O_callA [1, 2] (WriteString_A b u h (catL (FC f) 9 ++ catL (FR f) 20 ++ catL (FS f) i) (FS f i) hH (by have := lFS i (by omega); rw [List.length_append, List.length_append]; omega)) (by rfl) (by rfl) (by rfl) (by rfl) (by rfl) ?_
          | refine O_callA [1, 3] (WriteString_A b u h (catL (FC f) 9 ++ catL (FR f) 20 ++ catL (FS f) i) (FS f i) hH (by have := lFS i (by omega); rw [List.length_append, List.length_append]; omega)) (by rfl) (by rfl) (by rfl) (by rfl) (by rfl) ?_
          | refine O_callA [1, 4] (WriteString_A b u h (catL (FC f) 9 ++ catL (FR f) 20 ++ catL (FS f) i) (FS f i) hH (by have := lFS i (by omega); rw [List.length_append, List.length_append]; omega)) (by rfl) (by rfl) (by rfl) (by rfl) (by rfl) ?_
          | refine O_callA [1, 5] (WriteString_A b u h (catL (FC f) 9 ++ catL (FR f) 20 ++ catL (FS f) i) (FS f i) hH (by have := lFS i (by omega); rw [List.length_append, List.length_append]; omega)) (by rfl) (by rfl) (by rfl) (by rfl) (by rfl) ?_
          | refine O_callA [2, 0] (WriteString_A b u h (catL (FC f) 9 ++ catL (FR f) 20 ++ catL (FS f) i) (FS f i) hH (by have := lFS i (by omega); rw [List.length_append, List.length_append]; omega)) (by rfl) (by rfl) (by rfl) (by rfl) (by rfl) ?_
          | refine O_callA [2, 1] (WriteString_A b u h (catL (FC f) 9 ++ catL (FR f) 20 ++ catL (FS f) i) (FS f i) hH (by have := lFS i (by omega); rw [List.length_append, List.length_append]; omega)) (by rfl) (by rfl) (by rfl) (by rfl) (by rfl) ?_
          | refine O_callA [2, 2] (WriteString_A b u h (catL (FC f) 9 ++ catL (FR f) 20 ++ catL (FS f) i) (FS f i) hH (by have := lFS i (by omega); rw [List.length_append, List.length_append]; omega)) (by rfl) (by rfl) (by rfl) (by rfl) (by rfl) ?_
          | refine O_callA [2, 3] (WriteString_A b u h (catL (FC f) 9 ++ catL (FR f) 20 ++ catL (FS f) i) (FS f i) hH (by have := lFS i (by omega); rw [List.length_append, List.length_append]; omega)) (by rfl) (by rfl) (by rfl) (by rfl) (by rfl) ?_
          | refine O_callA [2, 4] (WriteString_A b u h (catL (FC f) 9 ++ catL (FR f) 20 ++ catL (FS f) i) (FS f i) hH (by have := lFS i (by omega); rw [List.length_append, List.length_append]; omega)) (by rfl) (by rfl) (by rfl) (by rfl) (by rfl) ?_
          | refine O_callA [2, 5] (WriteString_A b u h (catL (FC f) 9 ++ catL (FR f) 20 ++ catL (FS f) i) (FS f i) hH (by have := lFS i (by omega); rw [List.length_append, List.length_append]; omega)) (by rfl) (by rfl) (by rfl) (by rfl) (by rfl) ?_
          | refine O_callA [3, 0] (WriteString_A b u h (catL (FC f) 9 ++ catL (FR f) 20 ++ catL (FS f) i) (FS f i) hH (by have := lFS i (by omega); rw [List.length_append, List.length_append]; omega)) (by rfl) (by rfl) (by rfl) (by rfl) (by rfl) ?_
          | refine O_callA [3, 1] (WriteString_A b u h (catL (FC f) 9 ++ catL (FR f) 20 ++ catL (FS f) i) (FS f i) hH (by have := lFS i (by omega); rw [List.length_append, List.length_append]; omega)) (by rfl) (by rfl) (by rfl) (by rfl) (by rfl) ?_
          | refine O_callA [3, 2] (WriteString_A b u h (catL (FC f) 9 ++ catL (FR f) 20 ++ catL (FS f) i) (FS f i) hH (by have := lFS i (by omega); rw [List.length_append, List.length_append]; omega)) (by rfl) (by rfl) (by rfl) (by rfl) (by rfl) ?_
          | refine O_callA [3, 3] (WriteString_A b u h (catL (FC f) 9 ++ catL (FR f) 20 ++ catL (FS f) i) (FS f i) hH (by have := lFS i (by omega); rw [List.length_append, List.length_append]; omega)) (by rfl) (by rfl) (by rfl) (by rfl) (by rfl) ?_
          | refine O_callA [3, 4] (WriteString_A b u h (catL (FC f) 9 ++ catL (FR f) 20 ++ catL (FS f) i) (FS f i) hH (by have := lFS i (by omega); rw [List.length_append, List.length_append]; omega)) (by rfl) (by rfl) (by rfl) (by rfl) (by rfl) ?_
          | refine O_callA [3, 5] (WriteString_A b u h (catL (FC f) 9 ++ catL (FR f) 20 ++ catL (FS f) i) (FS f i) hH (by have := lFS i (by omega); rw [List.length_append, List.length_append]; omega)) (by rfl) (by rfl) (by rfl) (by rfl) (by rfl) ?_
          | refine O_callA [4, 0] (WriteString_A b u h (catL (FC f) 9 ++ catL (FR f) 20 ++ catL (FS f) i) (FS f i) hH (by have := lFS i (by omega); rw [List.length_append, List.length_append]; omega)) (by rfl) (by rfl) (by rfl) (by rfl) (by rfl) ?_
          | refine O_callA [4, 1] (WriteString_A b u h (catL (FC f) 9 ++ catL (FR f) 20 ++ catL (FS f) i) (FS f i) hH (by have := lFS i (by omega); rw [List.length_append, List.length_append]; omega)) (by rfl) (by rfl) (by rfl) (by rfl) (by rfl) ?_
          | refine O_callA [4, 2] (WriteString_A b u h (catL (FC f) 9 ++ catL (FR f) 20 ++ catL (FS f) i) (FS f i) hH (by have := lFS i (by omega); rw [List.length_append, List.length_append]; omega)) (by rfl) (by rfl) (by rfl) (by rfl) (by rfl) ?_
          | refine O_callA [4, 3] (WriteString_A b u h (catL (FC f) 9 ++ catL (FR f) 20 ++ catL (FS f) i) (FS f i) hH (by have := lFS i (by omega); rw [List.length_append, List.length_append]; omega)) (by rfl) (by rfl) (by rfl) (by rfl) (by rfl) ?_
          | refine O_callA [4, 4] (WriteString_A b u h (catL (FC f) 9 ++ catL (FR f) 20 ++ catL (FS f) i) (FS f i) hH (by have := lFS i (by omega); rw [List.length_append, List.length_append]; omega)) (by rfl) (by rfl) (by rfl) (by rfl) (by rfl) ?_
          | refine O_callA [4, 5] (WriteString_A b u h (catL (FC f) 9 ++ catL (FR f) 20 ++ catL (FS f) i) (FS f i) hH (by have := lFS i (by omega); rw [List.length_append, List.length_append]; omega)) (by rfl) (by rfl) (by rfl) (by rfl) (by rfl) ?_
          | refine O_callA [5, 0] (WriteString_A b u h (catL (FC f) 9 ++ catL (FR f) 20 ++ catL (FS f) i) (FS f i) hH (by have := lFS i (by omega); rw [List.length_append, List.length_append]; omega)) (by rfl) (by rfl) (by rfl) (by rfl) (by rfl) ?_
          | refine O_callA [5, 1] (WriteString_A b u h (catL (FC f) 9 ++ catL (FR f) 20 ++ catL (FS f) i) (FS f i) hH (by have := lFS i (by omega); rw [List.length_append, List.length_append]; omega)) (by rfl) (by rfl) (by rfl) (by rfl) (by rfl) ?_
          | refine O_callA [5, 2] (WriteString_A b u h (catL (FC f) 9 ++ catL (FR f) 20 ++ catL (FS f) i) (FS f i) hH (by have := lFS i (by omega); rw [List.length_append, List.length_append]; omega)) (by rfl) (by rfl) (by rfl) (by rfl) (by rfl) ?_
          | refine O_callA [5, 3] (WriteString_A b u h (catL (FC f) 9 ++ catL (FR f) 20 ++ catL (FS f) i) (FS f i) hH (by have := lFS i (by omega); rw [List.length_append, List.length_append]; omega)) (by rfl) (by rfl) (by rfl) (by rfl) (by rfl) ?_
          | refine O_callA [5, 4] (WriteString_A b u h (catL (FC f) 9 ++ catL (FR f) 20 ++ catL (FS f) i) (FS f i) hH (by have := lFS i (by omega); rw [List.length_append, List.length_append]; omega)) (by rfl) (by rfl) (by rfl) (by rfl) (by rfl) ?_
          | refine O_callA [5, 5] (WriteString_A b u h (catL (FC f) 9 ++ catL (FR f) 20 ++ catL (FS f) i) (FS f i) hH (by have := lFS i (by omega); rw [List.length_append, List.length_append]; omega)) (by rfl) (by rfl) (by rfl) (by rfl) (by rfl) ?_
          | refine O_callA [6, 0] (WriteString_A b u h (catL (FC f) 9 ++ catL (FR f) 20 ++ catL (FS f) i) (FS f i) hH (by have := lFS i (by omega); rw [List.length_append, List.length_append]; omega)) (by rfl) (by rfl) (by rfl) (by rfl) (by rfl) ?_
          | refine O_callA [6, 1] (WriteString_A b u h (catL (FC f) 9 ++ catL (FR f) 20 ++ catL (FS f) i) (FS f i) hH (by have := lFS i (by omega); rw [List.length_append, List.length_append]; omega)) (by rfl) (by rfl) (by rfl) (by rfl) (by rfl) ?_
          | refine O_callA [6, 2] (WriteString_A b u h (catL (FC f) 9 ++ catL (FR f) 20 ++ catL (FS f) i) (FS f i) hH (by have := lFS i (by omega); rw [List.length_append, List.length_append]; omega)) (by rfl) (by rfl) (by rfl) (by rfl) (by rfl) ?_
          | refine O_callA [6, 3] (WriteString_A b u h (catL (FC f) 9 ++ catL (FR f) 20 ++ catL (FS f) i) (FS f i) hH (by have := lFS i (by omega); rw [List.length_append, List.length_append]; omega)) (by rfl) (by rfl) (by rfl) (by rfl) (by rfl) ?_
          | refine O_callA [6, 4] (WriteString_A b u h (catL (FC f) 9 ++ catL (FR f) 20 ++ catL (FS f) i) (FS f i) hH (by have := lFS i (by omega); rw [List.length_append, List.length_append]; omega)) (by rfl) (by rfl) (by rfl) (by rfl) (by rfl) ?_
          | refine O_callA [6, 5] (WriteString_A b u h (catL (FC f) 9 ++ catL (FR f) 20 ++ catL (FS f) i) (FS f i) hH (by have := lFS i (by omega); rw [List.length_append, List.length_append]; omega)) (by rfl) (by rfl) (by rfl) (by rfl) (by rfl) ?_
        rintro r' cs' ⟨rfl, h', hH', rfl⟩
        rw [List.append_assoc] at hH' ⊢
        repeat (first|refine sc rfl ?_|refine so rfl ?_|refine sb rfl ?_)
        rw [w64 (x := ((i : Nat) : Int) + 1) (by omega) (by omega)]
        refine ⟨(i + 1, true, h'), ⟨by simp only []; omega, hH'⟩, by simp only []; omega, ?_⟩
        first
          | exact Le.pick [0, 0, 0] ⟨rfl, rfl, rfl, trivial⟩ rfl
          | exact Le.pick [1, 1, 0] ⟨rfl, rfl, rfl, trivial⟩ rfl
      obtain rfl : i = 9 := by omega
      repeat (first|refine sc rfl ?_|refine so rfl ?_|refine sb rfl ?_)
      first
        | refine O_callA [0] (hT) (by rfl) (by rfl) (by rfl) (by rfl) (by rfl) ?_
        | refine O_callA [1] (hT) (by rfl) (by rfl) (by rfl) (by rfl) (by rfl) ?_
        | refine O_callA [2] (hT) (by rfl) (by rfl) (by rfl) (by rfl) (by rfl) ?_
        | refine O_callA [3] (hT) (by rfl) (by rfl) (by rfl) (by rfl) (by rfl) ?_
        | refine O_callA [4] (hT) (by rfl) (by rfl) (by rfl) (by rfl) (by rfl) ?_
      rintro r' cs' ⟨rfl, rfl⟩
      repeat (first|refine sc rfl ?_|refine so rfl ?_|refine sb rfl ?_)
      have q0 := lineF_len (w := Lib.join [[105, 100, 108, 101]] [32]) (hf 40).1 (hf 40).2
      have q1 := lineF_len (w := Lib.join [[116, 105, 99, 107, 115]] [32]) (hf 41).1 (hf 41).2
      have q2 := lineF_len (w := Lib.join [[98, 121, 116, 101, 115]] [32]) (hf 42).1 (hf 42).2
      have q3 := lineF_len (w := Lib.join [[115, 104, 117, 116]] [32]) (hf 43).1 (hf 43).2
      rw [show (Lib.join [[105, 100, 108, 101]] [32]).length = 4 from rfl] at q0
      rw [show (Lib.join [[116, 105, 99, 107, 115]] [32]).length = 5 from rfl] at q1
      rw [show (Lib.join [[98, 121, 116, 101, 115]] [32]).length = 5 from rfl] at q2
      rw [show (Lib.join [[115, 104, 117, 116]] [32]).length = 4 from rfl] at q3
      refine O_le _ (Le.vecrow (k := 55) 1 (fun j => WDc ([([105, 100, 108, 101] : List UInt8)].getD j default)) rfl rfl (fun j hj => ?_)) ?_
      · have hj' : j < 1 := hj
        obtain rfl : j = 0 := by omega
        rfl
      refine O_le _ (Le.freezeL (l := [([105, 100, 108, 101] : List UInt8)]) (cells := WDc) 55 rfl rfl) ?_
      refine O_callW hK [] (line_W (f 40) (hf _).1 (hf _).2 [[105, 100, 108, 101]] (by simp) (by simp) (by decide)) (by rfl) (by rfl) (by rfl) (by rfl) (by rfl) ?_
      rintro r' cs' ⟨rfl, rfl⟩
      repeat (first|refine sc rfl ?_|refine so rfl ?_|refine sb rfl ?_)
      refine O_le _ (Le.vecrow (k := 58) 1 (fun j => WDc ([([116, 105, 99, 107, 115] : List UInt8)].getD j default)) rfl rfl (fun j hj => ?_)) ?_
      · have hj' : j < 1 := hj
        obtain rfl : j = 0 := by omega
        rfl
      refine O_le _ (Le.freezeL (l := [([116, 105, 99, 107, 115] : List UInt8)]) (cells := WDc) 58 rfl rfl) ?_
      refine O_callW hK [] (line_W (f 41) (hf _).1 (hf _).2 [[116, 105, 99, 107, 115]] (by simp) (by simp) (by decide)) (by rfl) (by rfl) (by rfl) (by rfl) (by rfl) ?_
      rintro r' cs' ⟨rfl, rfl⟩
      repeat (first|refine sc rfl ?_|refine so rfl ?_|refine sb rfl ?_)
      refine ⟨by (try simp only [List.length_append]); omega, ?_⟩
      repeat (first|refine sc rfl ?_|refine so rfl ?_|refine sb rfl ?_)
      refine O_le _ (Le.vecrow (k := 62) 1 (fun j => WDc ([([98, 121, 116, 101, 115] : List UInt8)].getD j default)) rfl rfl (fun j hj => ?_)) ?_
      · have hj' : j < 1 := hj
        obtain rfl : j = 0 := by omega
        rfl
      refine O_le _ (Le.freezeL (l := [([98, 121, 116, 101, 115] : List UInt8)]) (cells := WDc) 62 rfl rfl) ?_
      refine O_callW hK [] (line_W (f 42) (hf _).1 (hf _).2 [[98, 121, 116, 101, 115]] (by simp) (by simp) (by decide)) (by rfl) (by rfl) (by rfl) (by rfl) (by rfl) ?_
      rintro r' cs' ⟨rfl, rfl⟩
      repeat (first|refine sc rfl ?_|refine so rfl ?_|refine sb rfl ?_)
      refine ⟨by (try simp only [List.length_append]); omega, ?_⟩
      repeat (first|refine sc rfl ?_|refine so rfl ?_|refine sb rfl ?_)
      refine O_le _ (Le.vecrow (k := 66) 1 (fun j => WDc ([([115, 104, 117, 116] : List UInt8)].getD j default)) rfl rfl (fun j hj => ?_)) ?_
      · have hj' : j < 1 := hj
        obtain rfl : j = 0 := by omega
        rfl
      refine O_le _ (Le.freezeL (l := [([115, 104, 117, 116] : List UInt8)]) (cells := WDc) 66 rfl rfl) ?_
      refine O_callW hK [] (line_W (f 43) (hf _).1 (hf _).2 [[115, 104, 117, 116]] (by simp) (by simp) (by decide)) (by rfl) (by rfl) (by rfl) (by rfl) (by rfl) ?_
      rintro r' cs' ⟨rfl, rfl⟩
      repeat (first|refine sc rfl ?_|refine so rfl ?_|refine sb rfl ?_)
      refine ⟨by (try simp only [List.length_append]); omega, ?_⟩
      repeat (first|refine sc rfl ?_|refine so rfl ?_|refine sb rfl ?_)
      first
        | refine O_callA [0, 0] (WriteString_A b u h (catL (FC f) 9 ++ catL (FR f) 20 ++ catL (FS f) 9) (FT f) hH (by unfold FT; simp only [List.length_append]; omega)) (by rfl) (by rfl) (by rfl) (by rfl) (by rfl) ?_
        | refine O_callA [0, 1] (WriteString_A b u h (catL (FC f) 9 ++ catL (FR f) 20 ++ catL (FS f) 9) (FT f) hH (by unfold FT; simp only [List.length_append]; omega)) (by rfl) (by rfl) (by rfl) (by rfl) (by rfl) ?_
        | refine O_callA [0, 2] (WriteString_A b u h (catL (FC f) 9 ++ catL (FR f) 20 ++ catL (FS f) 9) (FT f) hH (by unfold FT; simp only [List.length_append]; omega)) (by rfl) (by rfl) (by rfl) (by rfl) (by rfl) ?_
        | refine O_callA [0, 3] (WriteString_A b u h (catL (FC f) 9 ++ catL (FR f) 20 ++ catL (FS f) 9) (FT f) hH (by unfold FT; simp only [List.length_append]; omega)) (by rfl) (by rfl) (by rfl) (by rfl) (by rfl) ?_
        | refine O_callA [0, 4] (WriteString_A b u h (catL (FC f) 9 ++ catL (FR f) 20 ++ catL (FS f) 9) (FT f) hH (by unfold FT; simp only [List.length_append]; omega)) (by rfl) (by rfl) (by rfl) (by rfl) (by rfl) ?_
        | refine O_callA [0, 5] (WriteString_A b u h (catL (FC f) 9 ++ catL (FR f) 20 ++ catL (FS f) 9) (FT f) hH (by unfold FT; simp only [List.length_append]; omega)) (by rfl) (by rfl) (by rfl) (by rfl) (by rfl) ?_
        | refine O_callA [1, 0] (WriteString_A b u h (catL (FC f) 9 ++ catL (FR f) 20 ++ catL (FS f) 9) (FT f) hH (by unfold FT; simp only [List.length_append]; omega)) (by rfl) (by rfl) (by rfl) (by rfl) (by rfl) ?_
        | refine O_callA [1, 1] (WriteString_A b u h (catL (FC f) 9 ++ catL (FR f) 20 ++ catL (FS f) 9) (FT f) hH (by unfold FT; simp only [List.length_append]; omega)) (by rfl) (by rfl) (by rfl) (by rfl) (by rfl) ?_
        | refine O_callA [1, 2] (WriteString_A b u h (catL (FC f) 9 ++ catL (FR f) 20 ++ catL (FS f) 9) (FT f) hH (by unfold FT; simp only [List.length_append]; omega)) (by rfl) (by rfl) (by rfl) (by rfl) (by rfl) ?_
        | refine O_callA [1, 3] (WriteString_A b u h (catL (FC f) 9 ++ catL (FR f) 20 ++ catL (FS f) 9) (FT f) hH (by unfold FT; simp only [List.length_append]; omega)) (by rfl) (by rfl) (by rfl) (by rfl) (by rfl) ?_
        | refine O_callA [1, 4] (WriteString_A b u h (catL (FC f) 9 ++ catL (FR f) 20 ++ catL (FS f) 9) (FT f) hH (by unfold FT; simp only [List.length_append]; omega)) (by rfl) (by rfl) (by rfl) (by rfl) (by rfl) ?_
        | refine O_callA [1, 5] (WriteString_A b u h (catL (FC f) 9 ++ catL (FR f) 20 ++ catL (FS f) 9) (FT f) hH (by unfold FT; simp only [List.length_append]; omega)) (by rfl) (by rfl) (by rfl) (by rfl) (by rfl) ?_
        | refine O_callA [2, 0] (WriteString_A b u h (catL (FC f) 9 ++ catL (FR f) 20 ++ catL (FS f) 9) (FT f) hH (by unfold FT; simp only [List.length_append]; omega)) (by rfl) (by rfl) (by rfl) (by rfl) (by rfl) ?_
        | refine O_callA [2, 1] (WriteString_A b u h (catL (FC f) 9 ++ catL (FR f) 20 ++ catL (FS f) 9) (FT f) hH (by unfold FT; simp only [List.length_append]; omega)) (by rfl) (by rfl) (by rfl) (by rfl) (by rfl) ?_
        | refine O_callA [2, 2] (WriteString_A b u h (catL (FC f) 9 ++ catL (FR f) 20 ++ catL (FS f) 9) (FT f) hH (by unfold FT; simp only [List.length_append]; omega)) (by rfl) (by rfl) (by rfl) (by rfl) (by rfl) ?_
        | refine O_callA [2, 3] (WriteString_A b u h (catL (FC f) 9 ++ catL (FR f) 20 ++ catL (FS f) 9) (FT f) hH (by unfold FT; simp only [List.length_append]; omega)) (by rfl) (by rfl) (by rfl) (by rfl) (by rfl) ?_
        | refine O_callA [2, 4] (WriteString_A b u h (catL (FC f) 9 ++ catL (FR f) 20 ++ catL (FS f) 9) (FT f) hH (by unfold FT; simp only [List.length_append]; omega)) (by rfl) (by rfl) (by rfl) (by rfl) (by rfl) ?_
        | refine O_callA [2, 5] (WriteString_A b u h (catL (FC f) 9 ++ catL (FR f) 20 ++ catL (FS f) 9) (FT f) hH (by unfold FT; simp only [List.length_append]; omega)) (by rfl) (by rfl) (by rfl) (by rfl) (by rfl) ?_
        | refine O_callA [3, 0] (WriteString_A b u h (catL (FC f) 9 ++ catL (FR f) 20 ++ catL (FS f) 9) (FT f) hH (by unfold FT; simp only [List.length_append]; omega)) (by rfl) (by rfl) (by rfl) (by rfl) (by rfl) ?_
        | refine O_callA [3, 1] (WriteString_A b u h (catL (FC f) 9 ++ catL (FR f) 20 ++ catL (FS f) 9) (FT f) hH (by unfold FT; simp only [List.length_append]; omega)) (by rfl) (by rfl) (by rfl) (by rfl) (by rfl) ?_
        | refine O_callA [3, 2] (WriteString_A b u h (catL (FC f) 9 ++ catL (FR f) 20 ++ catL (FS f) 9) (FT f) hH (by unfold FT; simp only [List.length_append]; omega)) (by rfl) (by rfl) (by rfl) (by rfl) (by rfl) ?_
        | refine O_callA [3, 3] (WriteString_A b u h (catL (FC f) 9 ++ catL (FR f) 20 ++ catL (FS f) 9) (FT f) hH (by unfold FT; simp only [List.length_append]; omega)) (by rfl) (by rfl) (by rfl) (by rfl) (by rfl) ?_
        | refine O_callA [3, 4] (WriteString_A b u h (catL (FC f) 9 ++ catL (FR f) 20 ++ catL (FS f) 9) (FT f) hH (by unfold FT; simp only [List.length_append]; omega)) (by rfl) (by rfl) (by rfl) (by rfl) (by rfl) ?_
        | refine O_callA [3, 5] (WriteString_A b u h (catL (FC f) 9 ++ catL (FR f) 20 ++ catL (FS f) 9) (FT f) hH (by unfold FT; simp only [List.length_append]; omega)) (by rfl) (by rfl) (by rfl) (by rfl) (by rfl) ?_
        | refine O_callA [4, 0] (WriteString_A b u h (catL (FC f) 9 ++ catL (FR f) 20 ++ catL (FS f) 9) (FT f) hH (by unfold FT; simp only [List.length_append]; omega)) (by rfl) (by rfl) (by rfl) (by rfl) (by rfl) ?_
        | refine O_callA [4, 1] (WriteString_A b u h (catL (FC f) 9 ++ catL (FR f) 20 ++ catL (FS f) 9) (FT f) hH (by unfold FT; simp only [List.length_append]; omega)) (by rfl) (by rfl) (by rfl) (by rfl) (by rfl) ?_
        | refine O_callA [4, 2] (WriteString_A b u h (catL (FC f) 9 ++ catL (FR f) 20 ++ catL (FS f) 9) (FT f) hH (by unfold FT; simp only [List.length_append]; omega)) (by rfl) (by rfl) (by rfl) (by rfl) (by rfl) ?_
        | refine O_callA [4, 3] (WriteString_A b u h (catL (FC f) 9 ++ catL (FR f) 20 ++ catL (FS f) 9) (FT f) hH (by unfold FT; simp only [List.length_append]; omega)) (by rfl) (by rfl) (by rfl) (by rfl) (by rfl) ?_
        | refine O_callA [4, 4] (WriteString_A b u h (catL (FC f) 9 ++ catL (FR f) 20 ++ catL (FS f) 9) (FT f) hH (by unfold FT; simp only [List.length_append]; omega)) (by rfl) (by rfl) (by rfl) (by rfl) (by rfl) ?_
        | refine O_callA [4, 5] (WriteString_A b u h (catL (FC f) 9 ++ catL (FR f) 20 ++ catL (FS f) 9) (FT f) hH (by unfold FT; simp only [List.length_append]; omega)) (by rfl) (by rfl) (by rfl) (by rfl) (by rfl) ?_
        | refine O_callA [5, 0] (WriteString_A b u h (catL (FC f) 9 ++ catL (FR f) 20 ++ catL (FS f) 9) (FT f) hH (by unfold FT; simp only [List.length_append]; omega)) (by rfl) (by rfl) (by rfl) (by rfl) (by rfl) ?_
        | refine O_callA [5, 1] (WriteString_A b u h (catL (FC f) 9 ++ catL (FR f) 20 ++ catL (FS f) 9) (FT f) hH (by unfold FT; simp only [List.length_append]; omega)) (by rfl) (by rfl) (by rfl) (by rfl) (by rfl) ?_
        | refine O_callA [5, 2] (WriteString_A b u h (catL (FC f) 9 ++ catL (FR f) 20 ++ catL (FS f) 9) (FT f) hH (by unfold FT; simp only [List.length_append]; omega)) (by rfl) (by rfl) (by rfl) (by rfl) (by rfl) ?_
        | refine O_callA [5, 3] (WriteString_A b u h (catL (FC f) 9 ++ catL (FR f) 20 ++ catL (FS f) 9) (FT f) hH (by unfold FT; simp only [List.length_append]; omega)) (by rfl) (by rfl) (by rfl) (by rfl) (by rfl) ?_
        | refine O_callA [5, 4] (WriteString_A b u h (catL (FC f) 9 ++ catL (FR f) 20 ++ catL (FS f) 9) (FT f) hH (by unfold FT; simp only [List.length_append]; omega)) (by rfl) (by rfl) (by rfl) (by rfl) (by rfl) ?_
        | refine O_callA [5, 5] (WriteString_A b u h (catL (FC f) 9 ++ catL (FR f) 20 ++ catL (FS f) 9) (FT f) hH (by unfold FT; simp only [List.length_append]; omega)) (by rfl) (by rfl) (by rfl) (by rfl) (by rfl) ?_
        | refine O_callA [6, 0] (WriteString_A b u h (catL (FC f) 9 ++ catL (FR f) 20 ++ catL (FS f) 9) (FT f) hH (by unfold FT; simp only [List.length_append]; omega)) (by rfl) (by rfl) (by rfl) (by rfl) (by rfl) ?_
        | refine O_callA [6, 1] (WriteString_A b u h (catL (FC f) 9 ++ catL (FR f) 20 ++ catL (FS f) 9) (FT f) hH (by unfold FT; simp only [List.length_append]; omega)) (by rfl) (by rfl) (by rfl) (by rfl) (by rfl) ?_
        | refine O_callA [6, 2] (WriteString_A b u h (catL (FC f) 9 ++ catL (FR f) 20 ++ catL (FS f) 9) (FT f) hH (by unfold FT; simp only [List.length_append]; omega)) (by rfl) (by rfl) (by rfl) (by rfl) (by rfl) ?_
        | refine O_callA [6, 3] (WriteString_A b u h (catL (FC f) 9 ++ catL (FR f) 20 ++ catL (FS f) 9) (FT f) hH (by unfold FT; simp only [List.length_append]; omega)) (by rfl) (by rfl) (by rfl) (by rfl) (by rfl) ?_
        | refine O_callA [6, 4] (WriteString_A b u h (catL (FC f) 9 ++ catL (FR f) 20 ++ catL (FS f) 9) (FT f) hH (by unfold FT; simp only [List.length_append]; omega)) (by rfl) (by rfl) (by rfl) (by rfl) (by rfl) ?_
        | refine O_callA [6, 5] (WriteString_A b u h (catL (FC f) 9 ++ catL (FR f) 20 ++ catL (FS f) 9) (FT f) hH (by unfold FT; simp only [List.length_append]; omega)) (by rfl) (by rfl) (by rfl) (by rfl) (by rfl) ?_
      rintro r' cs' ⟨rfl, h', hH', rfl⟩
      repeat (first|refine sc rfl ?_|refine so rfl ?_|refine sb rfl ?_)
      first
        | refine O_callA [0, 0] (String_A b true h' (catL (FC f) 9 ++ catL (FR f) 20 ++ catL (FS f) 9 ++ FT f) hH') (by rfl) (by rfl) (by rfl) (by rfl) (by rfl) ?_
        | refine O_callA [0, 1] (String_A b true h' (catL (FC f) 9 ++ catL (FR f) 20 ++ catL (FS f) 9 ++ FT f) hH') (by rfl) (by rfl) (by rfl) (by rfl) (by rfl) ?_
        | refine O_callA [0, 2] (String_A b true h' (catL (FC f) 9 ++ catL (FR f) 20 ++ catL (FS f) 9 ++ FT f) hH') (by rfl) (by rfl) (by rfl) (by rfl) (by rfl) ?_
        | refine O_callA [0, 3] (String_A b true h' (catL (FC f) 9 ++ catL (FR f) 20 ++ catL (FS f) 9 ++ FT f) hH') (by rfl) (by rfl) (by rfl) (by rfl) (by rfl) ?_
        | refine O_callA [0, 4] (String_A b true h' (catL (FC f) 9 ++ catL (FR f) 20 ++ catL (FS f) 9 ++ FT f) hH') (by rfl) (by rfl) (by rfl) (by rfl) (by rfl) ?_
        | refine O_callA [0, 5] (String_A b true h' (catL (FC f) 9 ++ catL (FR f) 20 ++ catL (FS f) 9 ++ FT f) hH') (by rfl) (by rfl) (by rfl) (by rfl) (by rfl) ?_
        | refine O_callA [1, 0] (String_A b true h' (catL (FC f) 9 ++ catL (FR f) 20 ++ catL (FS f) 9 ++ FT f) hH') (by rfl) (by rfl) (by rfl) (by rfl) (by rfl) ?_
        | refine O_callA [1, 1] (String_A b true h' (catL (FC f) 9 ++ catL (FR f) 20 ++ catL (FS f) 9 ++ FT f) hH') (by rfl) (by rfl) (by rfl) (by rfl) (by rfl) ?_
        | refine O_callA [1, 2] (String_A b true h' (catL (FC f) 9 ++ catL (FR f) 20 ++ catL (FS f) 9 ++ FT f) hH') (by rfl) (by rfl) (by rfl) (by rfl) (by rfl) ?_
        | refine O_callA [1, 3] (String_A b true h' (catL (FC f) 9 ++ catL (FR f) 20 ++ catL (FS f) 9 ++ FT f) hH') (by rfl) (by rfl) (by rfl) (by rfl) (by rfl) ?_
        | refine O_callA [1, 4] (String_A b true h' (catL (FC f) 9 ++ catL (FR f) 20 ++ catL (FS f) 9 ++ FT f) hH') (by rfl) (by rfl) (by rfl) (by rfl) (by rfl) ?_
        | refine O_callA [1, 5] (String_A b true h' (catL (FC f) 9 ++ catL (FR f) 20 ++ catL (FS f) 9 ++ FT f) hH') (by rfl) (by rfl) (by rfl) (by rfl) (by rfl) ?_
        | refine O_callA [2, 0] (String_A b true h' (catL (FC f) 9 ++ catL (FR f) 20 ++ catL (FS f) 9 ++ FT f) hH') (by rfl) (by rfl) (by rfl) (by rfl) (by rfl) ?_
        | refine O_callA [2, 1] (String_A b true h' (catL (FC f) 9 ++ catL (FR f) 20 ++ catL (FS f) 9 ++ FT f) hH') (by rfl) (by rfl) (by rfl) (by rfl) (by rfl) ?_
        | refine O_callA [2, 2] (String_A b true h' (catL (FC f) 9 ++ catL (FR f) 20 ++ catL (FS f) 9 ++ FT f) hH') (by rfl) (by rfl) (by rfl) (by rfl) (by rfl) ?_
        | refine O_callA [2, 3] (String_A b true h' (catL (FC f) 9 ++ catL (FR f) 20 ++ catL (FS f) 9 ++ FT f) hH') (by rfl) (by rfl) (by rfl) (by rfl) (by rfl) ?_
        | refine O_callA [2, 4] (String_A b true h' (catL (FC f) 9 ++ catL (FR f) 20 ++ catL (FS f) 9 ++ FT f) hH') (by rfl) (by rfl) (by rfl) (by rfl) (by rfl) ?_
        | refine O_callA [2, 5] (String_A b true h' (catL (FC f) 9 ++ catL (FR f) 20 ++ catL (FS f) 9 ++ FT f) hH') (by rfl) (by rfl) (by rfl) (by rfl) (by rfl) ?_
        | refine O_callA [3, 0] (String_A b true h' (catL (FC f) 9 ++ catL (FR f) 20 ++ catL (FS f) 9 ++ FT f) hH') (by rfl) (by rfl) (by rfl) (by rfl) (by rfl) ?_
        | refine O_callA [3, 1] (String_A b true h' (catL (FC f) 9 ++ catL (FR f) 20 ++ catL (FS f) 9 ++ FT f) hH') (by rfl) (by rfl) (by rfl) (by rfl) (by rfl) ?_
        | refine O_callA [3, 2] (String_A b true h' (catL (FC f) 9 ++ catL (FR f) 20 ++ catL (FS f) 9 ++ FT f) hH') (by rfl) (by rfl) (by rfl) (by rfl) (by rfl) ?_
        | refine O_callA [3, 3] (String_A b true h' (catL (FC f) 9 ++ catL (FR f) 20 ++ catL (FS f) 9 ++ FT f) hH') (by rfl) (by rfl) (by rfl) (by rfl) (by rfl) ?_
        | refine O_callA [3, 4] (String_A b true h' (catL (FC f) 9 ++ catL (FR f) 20 ++ catL (FS f) 9 ++ FT f) hH') (by rfl) (by rfl) (by rfl) (by rfl) (by rfl) ?_
        | refine O_callA [3, 5] (String_A b true h' (catL (FC f) 9 ++ catL (FR f) 20 ++ catL (FS f) 9 ++ FT f) hH') (by rfl) (by rfl) (by rfl) (by rfl) (by rfl) ?_
        | refine O_callA [4, 0] (String_A b true h' (catL (FC f) 9 ++ catL (FR f) 20 ++ catL (FS f) 9 ++ FT f) hH') (by rfl) (by rfl) (by rfl) (by rfl) (by rfl) ?_
        | refine O_callA [4, 1] (String_A b true h' (catL (FC f) 9 ++ catL (FR f) 20 ++ catL (FS f) 9 ++ FT f) hH') (by rfl) (by rfl) (by rfl) (by rfl) (by rfl) ?_
        | refine O_callA [4, 2] (String_A b true h' (catL (FC f) 9 ++ catL (FR f) 20 ++ catL (FS f) 9 ++ FT f) hH') (by rfl) (by rfl) (by rfl) (by rfl) (by rfl) ?_
        | refine O_callA [4, 3] (String_A b true h' (catL (FC f) 9 ++ catL (FR f) 20 ++ catL (FS f) 9 ++ FT f) hH') (by rfl) (by rfl) (by rfl) (by rfl) (by rfl) ?_
        | refine O_callA [4, 4] (String_A b true h' (catL (FC f) 9 ++ catL (FR f) 20 ++ catL (FS f) 9 ++ FT f) hH') (by rfl) (by rfl) (by rfl) (by rfl) (by rfl) ?_
        | refine O_callA [4, 5] (String_A b true h' (catL (FC f) 9 ++ catL (FR f) 20 ++ catL (FS f) 9 ++ FT f) hH') (by rfl) (by rfl) (by rfl) (by rfl) (by rfl) ?_
        | refine O_callA [5, 0] (String_A b true h' (catL (FC f) 9 ++ catL (FR f) 20 ++ catL (FS f) 9 ++ FT f) hH') (by rfl) (by rfl) (by rfl) (by rfl) (by rfl) ?_
        | refine O_callA [5, 1] (String_A b true h' (catL (FC f) 9 ++ catL (FR f) 20 ++ catL (FS f) 9 ++ FT f) hH') (by rfl) (by rfl) (by rfl) (by rfl) (by rfl) ?_
        | refine O_callA [5, 2] (String_A b true h' (catL (FC f) 9 ++ catL (FR f) 20 ++ catL (FS f) 9 ++ FT f) hH') (by rfl) (by rfl) (by rfl) (by rfl) (by rfl) ?_
        | refine O_callA [5, 3] (String_A b true h' (catL (FC f) 9 ++ catL (FR f) 20 ++ catL (FS f) 9 ++ FT f) hH') (by rfl) (by rfl) (by rfl) (by rfl) (by rfl) ?_
        | refine O_callA [5, 4] (String_A b true h' (catL (FC f) 9 ++ catL (FR f) 20 ++ catL (FS f) 9 ++ FT f) hH') (by rfl) (by rfl) (by rfl) (by rfl) (by rfl) ?_
        | refine O_callA [5, 5] (String_A b true h' (catL (FC f) 9 ++ catL (FR f) 20 ++ catL (FS f) 9 ++ FT f) hH') (by rfl) (by rfl) (by rfl) (by rfl) (by rfl) ?_
        | refine O_callA [6, 0] (String_A b true h' (catL (FC f) 9 ++ catL (FR f) 20 ++ catL (FS f) 9 ++ FT f) hH') (by rfl) (by rfl) (by rfl) (by rfl) (by rfl) ?_
        | refine O_callA [6, 1] (String_A b true h' (catL (FC f) 9 ++ catL (FR f) 20 ++ catL (FS f) 9 ++ FT f) hH') (by rfl) (by rfl) (by rfl) (by rfl) (by rfl) ?_
        | refine O_callA [6, 2] (String_A b true h' (catL (FC f) 9 ++ catL (FR f) 20 ++ catL (FS f) 9 ++ FT f) hH') (by rfl) (by rfl) (by rfl) (by rfl) (by rfl) ?_
        | refine O_callA [6, 3] (String_A b true h' (catL (FC f) 9 ++ catL (FR f) 20 ++ catL (FS f) 9 ++ FT f) hH') (by rfl) (by rfl) (by rfl) (by rfl) (by rfl) ?_
        | refine O_callA [6, 4] (String_A b true h' (catL (FC f) 9 ++ catL (FR f) 20 ++ catL (FS f) 9 ++ FT f) hH') (by rfl) (by rfl) (by rfl) (by rfl) (by rfl) ?_
        | refine O_callA [6, 5] (String_A b true h' (catL (FC f) 9 ++ catL (FR f) 20 ++ catL (FS f) 9 ++ FT f) hH') (by rfl) (by rfl) (by rfl) (by rfl) (by rfl) ?_
      rintro r' cs' ⟨rfl, rfl⟩
      repeat (first|refine sc rfl ?_|refine so rfl ?_|refine sb rfl ?_)
      first
        | exact ⟨_, [_], _, rfl, pickA_perm (is := [0]) (As := [_]) rfl, rfl, rfl, rfl⟩
        | exact ⟨_, [_], _, rfl, pickA_perm (is := [1]) (As := [_]) rfl, rfl, rfl, rfl⟩
        | exact ⟨_, [_], _, rfl, pickA_perm (is := [2]) (As := [_]) rfl, rfl, rfl, rfl⟩
        | exact ⟨_, [_], _, rfl, pickA_perm (is := [3]) (As := [_]) rfl, rfl, rfl, rfl⟩
        | exact ⟨_, [_], _, rfl, pickA_perm (is := [4]) (As := [_]) rfl, rfl, rfl, rfl⟩
theorem text_W (t : Nat) (f : Nat → Int) (hf : ∀ i, ok8 (f i)) : FnK 28 [PT t 0] [tlA t f] (fun r cs' => r = .s (TX f) ∧ cs' = [tlA t f]) :=
  text_G _ _ f hf (came_A t f) (refd_A t f) (servd_A t f) (rest_A t f)
end Go.Proofs

namespace Go.Sy
open Go.RowKit
section
variable {P : Program} {T : Tab} {X : Ctx P T} {n : Nat} {ops : Array Oper} {K : St → Prop} {g : Nat} {tab : Array Value} {tt : TypeId}
theorem D_callW (hK : KnowsB X g tab tt) {base : List (Nat × AV)} {c : List Ch} {done : Done} {f : FuncId} {dst : Nat} {args : Array Operand} {tys : Array TypeId} {ty : TypeId} {pos : String} {aft : Array Edge} {gd : Option (Nat × Bool)} {rest : List Oper} {avs : List AV} {x : AV}
    (hf : FnW g tab tt P f avs [] (fun r cs' => r = x ∧ cs' = [])) (hg : guardA ops ⟨availL done aft.toList base, c⟩ ⟨some dst, .call ⟨.value (.func f), args, tys⟩, ty, pos, aft, gd⟩ = some true) (ha : opds (availL done aft.toList base) args.toList = some avs) (himm : AV.imm.immL avs = true) (hd : Nat.blt dst n = true)
    (k : SymD X n ops base c K rest (done ++ [(some dst, x)])) :
    SymD X n ops base c K (⟨some dst, .call ⟨.value (.func f), args, tys⟩, ty, pos, aft, gd⟩ :: rest) done := by
  refine ⟨x, fun e a w S K' Q r hS hk => ?_, k⟩
  have r0 : Rel X n e ⟨availL done aft.toList base, c⟩ a w := r.less hS id
  rw [if_pos (guardA_sound r0 hg)]
  refine .inl ?_
  unfold Oper.wp
  rw [run_call hf.1 a.eval rfl w, Oper.upon_enter]
  have h1 := RepT.toI avs himm (opds_sound r0 ha)
  obtain ⟨n1, n2⟩ := hK.now r
  have h2 := hf.2 e.G w _ n1 (by simp [blocks]) n2 ⟨r.im, r.mz⟩ h1 ⟨by simp, by simp [blocks], by simp [blocks]⟩
  have harr : args.map a.eval = (args.toList.map a.eval).toArray := by
    apply Array.ext'; simp
  rw [harr]
  refine h2.mono ?_
  rintro en w' ⟨rv, cv, cs', G', ⟨rfl, rfl⟩, rfl, g1, g2, g3, g4, g5, g6, o1, o2, o3, o4, o5⟩
  have r' : Rel X n ⟨G', e.μ, e.hd⟩ ⟨S, c⟩ a w' := by
    have := r.swapAbs (As := []) (As' := []) (c := c) (by simp) g2 g4 g3 g5 g6 ⟨o1, o2, o3⟩ o4 o5
    simpa using this
  exact hk _ _ _ (r'.put (x := rv) (v := cv) hd (RepI.toRep (e := ⟨G', e.μ, e.hd⟩) rv g1))
end
end Go.Sy

namespace Go.Sy
open Go.RowKit
section
variable {P : Program} {T : Tab} {X : Ctx P T} {n : Nat} {e : Env} {st : St} {a : Act} {w : World} {ops : Array Oper} {K : St → Prop}
theorem U_any (f m : Nat) {Q : Exit → St → Prop} {s base : List (Nat × AV)} {c : List Ch} (hb : eraseD (ops.toList.take m) s = some base) (hchk : chkD base 0 [] (ops.toList.take m) = true) (hed : edgesB ops = true)
    (ht : tailB ops f m = true) (h : SymD X n ops base c (fun s => SymO X n ops (ops.toList.drop m) s (fun s => Q .normal s)) (ops.toList.take m) [])  {e : Env} {a : Act} {w : World} (r : Rel X n e ⟨s, c⟩ a w) : wpAny P .any ops (concX X n Q) ops.size (Array.replicate ops.size false) a { w with drawn := w.drawn + 1 } := by
  have hbs : ∀ k y, get base k = some y → get s k = some y := fun k y hk => eraseD_get hb hk
  obtain ⟨D, _, hl, hK, hs⟩ := h.plan
  obtain ⟨c1, c2⟩ := chkD_spec hchk
  have hbel : Below w.heap.size w { w with drawn := w.drawn + 1 } := ⟨rfl, rfl, rfl, Nat.le_refl _, fun _ _ => rfl⟩
  have hm : m < ops.size := by
    unfold tailB at ht
    simp only [Bool.and_eq_true] at ht
    have h1 := ht.1.1
    simp [Nat.blt] at h1; omega
  have htk : ∀ (i : Nat) (o : Oper), i < m → ops[i]? = some o → (ops.toList.take m)[i]? = some o := fun i o him ho => by rw [List.getElem?_take, if_pos him]; simpa using ho
  refine any_of_DU (X := X) (Q := concX X n Q) (n := n) (base := base) (c := c) (D := D) (f := f) (m := m) ht (by simp at hl; omega) (fun i o him ho => ?_) (fun i o ho => ?_) (fun i j o o' d him hjm hi hj => c2 i j o o' d (htk i o him hi) (htk j o' hjm hj)) (fun i o d him ho hd => ((c1 i o (htk i o him ho)).2 d hd).1)
    (fun e a w r => hK e a w (concX X n Q) r fun e' st' _ _ hk hr => ⟨e', st', hr, hk⟩) _ _ a _ e base (by simp) (by simp) ((r.below hbel).less hbs (fun h => h)) (fun j hj => ?_) (fun j o hj => ?_) (fun k y hk => hk) (fun i d x hi => ?_)
  · have := hs i o (htk i o him ho)
    simpa using this
  · intro ed he hb'
    have hi : i < ops.toList.length := by
      have := (Array.getElem?_eq_some_iff.1 ho).1
      simpa using this
    have h1 := List.all_eq_true.1 hed i (List.mem_range.2 hi)
    have h2 := List.all_eq_true.1 h1 ed.on (by
      unfold predsB
      rw [show ops.toList[i]? = some o by simpa using ho]
      exact List.mem_map.2 ⟨ed, List.mem_filter.2 ⟨by simpa using he, hb'⟩, rfl⟩)
    simp [Nat.blt] at h2; omega
  · rcases Nat.lt_or_ge j ops.size with h | h
    · simp [h]
    · simp [Nat.not_lt.2 h]
  · rcases Nat.lt_or_ge j ops.size with h | h
    · simp [h] at hj
    · simp [Nat.not_lt.2 h] at hj
  · rcases Nat.lt_or_ge i ops.size with h | h
    · simp [h] at hi
    · simp [Nat.not_lt.2 h] at hi
end
section
variable {P : Program} {T : Tab}
abbrev ctxOf (ok : TabOK P T) (wide : P.follows .mixedOrders = true) (w : World) (cs : List Abs) : Ctx P T := ⟨ok, wide, w, IM.empty, blocks cs, fun _ => 0, fun _ _ _ => False, []⟩
theorem Rel.ofAbs (ok : TabOK P T) (wide : P.follows .mixedOrders = true) {w : World} {cs : List Abs} (h : AbsOK IM.empty w cs) {tmps : Array Value} {n : Nat} (hn : tmps.size = n) {s : List (Nat × AV)}
    (hs : ∀ i x, get s i = some x → ∃ v, tmps[i]? = some v ∧ Rep ⟨IM.empty, fun _ => 0, fun _ => undef⟩ x v) :
    Rel (ctxOf ok wide w cs) n ⟨IM.empty, fun _ => 0, fun _ => undef⟩ ⟨s, cs.map Ch.abs⟩ { tmps := tmps, defers := [] } w where
  defers := rfl
  size := hn
  slots := hs
  im := fun b o v h => by simp [IM.empty] at h
  mz := fun b x h => by simp [IM.empty] at h
  heap := by
    refine ⟨cs.map (fun A => (Ch.abs A, A.bs)), by simp [Function.comp_def], ?_, by rw [flat_abs]; exact h.2.1, ?_⟩
    · intro p hp
      obtain ⟨A, hA, rfl⟩ := List.mem_map.1 hp
      exact ⟨rfl, h.1 A hA⟩
    · rw [flat_abs]
      intro b hb
      exact ⟨(h.2.2 b hb).1, .inr hb, (h.2.2 b hb).2⟩
  le := IM.le_refl _
  new := fun b o v h => .inl h
  newm := fun b x h => .inl h
  os := rfl
  tape := rfl
  output := rfl
  sz := Nat.le_refl _
  keep := fun _ _ _ _ => rfl
  fix := fun _ _ => rfl
theorem reads_get {b : Nat} {t : TypeId} {cells : List AV} {o : Nat} {x : AV} (h : cells[o]? = some x) : Reads (boxA b t cells) b o [x] := by
  rintro G w hok j c hc
  cases j with
  | zero =>
    simp only [List.getElem?_cons_zero, Option.some.injEq] at hc
    subst hc
    have := reads_box (b := b) (t := t) (cells := cells) o G w hok 0 x (by rw [List.getElem?_drop]; simpa using h)
    simpa using this
  | succ j => simp at hc
end
end Go.Sy

namespace Go.Proofs
open Go.RowKit Go.Shelf Go.Sy

attribute [local go_sem] Oper.semAt_some

theorem RepIL_mkv {G : IM} : ∀ {l : List Value}, (∀ x ∈ l, x.oneCell' = true) → RepIL G (l.map .v) l
  | [], _ => by simp [RepIL]
  | x :: l, h => by
    simp only [List.map_cons, RepIL]
    exact ⟨x, l, rfl, by simp [RepI], h x (List.mem_cons_self ..), RepIL_mkv (fun y hy => h y (List.mem_cons_of_mem _ hy))⟩
def lsF (x : Cf) (pre : List (Fin 9)) (i : Nat) : Int := x.l.getD (pre.getD i 0).val 0
theorem lsF_app (x : Cf) (pre : List (Fin 9)) (i : Fin 9) (k : Nat) (hk : k < pre.length + 1) : lsF x (pre ++ [i]) k = if k < pre.length then lsF x pre k else x.l.getD i.val 0 := by
  unfold lsF
  by_cases h : k < pre.length
  · have e : (pre ++ [i]).getD k 0 = pre.getD k 0 := by simp [List.getD, List.getElem?_append_left h]
    rw [if_pos h, e]
  · obtain rfl : k = pre.length := by omega
    have e : (pre ++ [i]).getD pre.length 0 = i := by simp [List.getD]
    rw [if_neg h, e]
abbrev lsR (x : Cf) (pre : List (Fin 9)) (i : Nat) : List AV := [I64 (lsF x pre i)]
abbrev lsC (b : Nat) (x : Cf) (h : Value) (pre : List (Fin 9)) : List Abs := [boxA b 91 (x.vs.map .v), boxA (b + 1) 26 [.v h], vecA h 3 1 pre.length (lsR x pre)]
def lsI (b : Nat) (x : Cf) (w : World) (pre : List (Fin 9)) (W : World) : Prop := ∃ h, AbsOK IM.empty W (lsC b x h pre) ∧ (∀ g, h.ownBlock = some g → b ≤ g) ∧ Below b w W
theorem vecA_cells {h : Value} {T esz m : Nat} {row : Nat → List AV} {G : IM} {W : World} (hok : (vecA h T esz m row).ok G W) : ∀ k ∈ (vecA h T esz m row).bs, ∃ cs : Array Value, W.heap[k]? = some (Obj.cells cs T (0, 0)) := by
  intro k hk
  obtain ⟨xs, ⟨_, h1 | ⟨g, cap, cur, rfl, _, hg, _⟩⟩, _⟩ := hok
  · obtain ⟨rfl, _⟩ := h1
    simp [vecA, Value.ownBlock] at hk
  · simp [vecA, Value.ownBlock] at hk
    subst hk
    exact ⟨cur, hg⟩
theorem lsC_empty {b : Nat} {x : Cf} {h : Value} {pre : List (Fin 9)} {G : IM} {W : World} (hA : AbsOK G W (lsC b x h pre)) : AbsOK IM.empty W (lsC b x h pre) := by
  refine ⟨?_, hA.2.1, fun k hk => ⟨(hA.2.2 k hk).1, fun _ => rfl, rfl⟩⟩
  intro A hm
  have h1 := hA.1 A hm
  simp only [lsC, List.mem_cons, List.not_mem_nil, or_false] at hm
  rcases hm with rfl | rfl | rfl
  · obtain ⟨arr, h2, h3⟩ := h1
    have h4 := RepIL_v h3
    exact ⟨arr, h2, by rw [h4]; exact RepIL_mkv (by intro y hy; simp only [Cf.vs, List.mem_cons, List.not_mem_nil, or_false] at hy; rcases hy with rfl | rfl | rfl | rfl | rfl | rfl | rfl | rfl | rfl <;> rfl)⟩
  · obtain ⟨arr, h2, h3⟩ := h1
    refine ⟨arr, h2, ?_⟩
    simp only [RepIL, RepI] at h3 ⊢
    exact h3
  · obtain ⟨xs, h2, h3⟩ := h1
    refine ⟨xs, h2, fun q hq => ?_⟩
    have h4 := h3 q hq
    simp only [RepIL, RepI] at h4 ⊢
    exact h4
theorem lsC_cells {b : Nat} {x : Cf} {h : Value} {pre : List (Fin 9)} {G : IM} {W : World} (hA : AbsOK G W (lsC b x h pre)) : ∀ k ∈ blocks (lsC b x h pre), ∃ (cs : Array Value) (T : TypeId), W.heap[k]? = some (Obj.cells cs T (0, 0)) ∧ T ≠ 404 := by
  intro k hk
  simp only [lsC, blocks, List.flatMap_cons, List.flatMap_nil, List.append_nil, List.mem_append] at hk
  rcases hk with hk | hk | hk
  · obtain ⟨arr, h4, _⟩ := hA.1 _ (List.mem_cons_self ..)
    simp only [boxA, List.mem_singleton] at hk
    subst hk
    exact ⟨_, _, h4, by decide⟩
  · obtain ⟨arr, h4, _⟩ := hA.1 _ (List.mem_cons_of_mem _ (List.mem_cons_self ..))
    simp only [boxA, List.mem_singleton] at hk
    subst hk
    exact ⟨_, _, h4, by decide⟩
  · obtain ⟨cs, h4⟩ := vecA_cells (hA.1 _ (List.mem_cons_of_mem _ (List.mem_cons_of_mem _ (List.mem_cons_self ..)))) k hk
    exact ⟨_, _, h4, by decide⟩
theorem lsI_own (b : Nat) (x : Cf) (w : World) (B : Nat) (hB : b ≤ B) (hb : w.heap.size = b) : OwnFrom B (lsI b x w) := by
  rintro pre W W' row ⟨h, h1, h2, h3⟩ hg hr
  have keep : ∀ k, (∃ (cs : Array Value) (T : TypeId), W.heap[k]? = some (Obj.cells cs T (0, 0))) → W'.heap[k]? = W.heap[k]? := fun k ⟨cs, T, hk⟩ =>
    hg.block k (Array.getElem?_eq_some_iff.1 hk).1 (fun e => by
      obtain ⟨_, o, ho, hc⟩ := hr k e.symm
      rw [hk] at ho; cases ho; cases hc)
  refine ⟨h, h1.keep (IM.le_refl _) (fun k hk => keep k (let ⟨cs, T, e, _⟩ := lsC_cells h1 k hk; ⟨cs, T, e⟩)) hg.size (fun k _ _ hf => hf), h2, ?_⟩
  · refine ⟨hg.os.trans h3.os, hg.tape.trans h3.tape, hg.output.trans h3.output, Nat.le_trans h3.size hg.size, fun k hk => ?_⟩
    refine (hg.block k (by have := h3.size; omega) (fun e => ?_)).trans (h3.block k hk)
    have := (hr k e.symm).1
    omega

theorem ntmpsL_ : Tryz.f290.ntmps = 17 := by kernel_rfl
set_option maxHeartbeats 4000000 in
theorem confList_calls (x : Cf) (w : World) : Calls Tryz.prog 290 #[.agg x.vs.toArray] w fun e w' => ∃ h, e = .returned h ∧ AbsOK IM.empty w' [vecA h 3 1 9 (fun i => [I64 (x.l.getD i 0)])] ∧ (∀ g, h.ownBlock = some g → w.heap.size ≤ g) ∧ Below w.heap.size w w' := by
  refine (callsIn_wide (n := 6)).1 ?_
  refine callsIn_of_wp_marks Tryz.func290 rfl trivial ?_ rfl
  simp only [ntmpsL_, List.size_toArray, List.length_cons, List.length_nil, Nat.reduceAdd, Nat.reduceSub, Array.replicate_succ, Array.replicate_zero, List.push_toArray, List.append_toArray, List.nil_append, List.cons_append]
  have hF : Fence.wide.fn 254 := trivial
  gi_wp2_with (gi_at_call 254; refine (callsIn_wide.2 (places_calls _ _)).mono ?_; rintro e w1 ⟨g, rfl, hg, hga, hb1⟩)
  obtain ⟨b, hb⟩ : ∃ b, w.heap.size = b := ⟨_, rfl⟩
  rw [hb] at hga
  have hs1 : b + 2 ≤ w1.heap.size := by have := hb1.size; simp at this; omega
  have hx1 : w1.heap[b]? = some (.cells x.vs.toArray 91 (0, 0)) := by
    rw [hb1.block b (by simp; omega)]; subst hb
    exact (Below.heap_alloc _ _ _ (by simp)).trans (World.alloc_heap_new w _)
  have hx2 : w1.heap[b + 1]? = some (.cells #[.slice none 0 0] 26 (0, 0)) := by
    rw [hb1.block (b + 1) (by simp; omega)]; subst hb
    have := World.alloc_heap_new (w.alloc (.cells x.vs.toArray 91)) (.cells #[.slice none 0 0] 26)
    rw [World.size_alloc] at this
    exact this
  have hbw : Below b w w1 := by
    subst hb
    exact (((Below.refl _ w).alloc (Nat.le_refl _) _).alloc (by simp) _).trans (hb1.mono (by simp; omega))
  simp only [hb]
  have h0 : lsI b x w [] w1 := by
    refine ⟨.slice none 0 0, ⟨?_, ?_, ?_⟩, fun g hg => by simp [Value.ownBlock] at hg, hbw⟩
    · intro A hA
      simp only [lsC, List.mem_cons, List.not_mem_nil, or_false] at hA
      rcases hA with rfl | rfl | rfl
      · exact ⟨_, hx1, RepIL_mkv (by intro y hy; simp only [Cf.vs, List.mem_cons, List.not_mem_nil, or_false] at hy; rcases hy with rfl | rfl | rfl | rfl | rfl | rfl | rfl | rfl | rfl <;> rfl)⟩
      · exact ⟨_, hx2, RepIL_mkv (l := [.slice none 0 0]) (by simp; rfl)⟩
      · exact ⟨[], ⟨rfl, .inl ⟨rfl, rfl⟩⟩, fun i hi => absurd hi (Nat.not_lt_zero _)⟩
    · simp [lsC, blocks, boxA, vecA, Value.ownBlock]
    · intro k hk
      simp [lsC, blocks, boxA, vecA, Value.ownBlock] at hk
      refine ⟨by omega, fun _ => rfl, rfl⟩
  refine wpIn_rangeFunc_ownH rfl (by decide : 1 ≤ 6) (gf := 289) (lb := #[.pointer (some ⟨g, 0, none⟩)]) rfl trivial (enters_of Tryz.func289 (by kernel_rfl) rfl) (places_stops Fence.wide 5 trivial rfl (by decide) g b w1 hga) walksK_t walksK_b (Below.refl _ _) (fun _ => rfl)
    (lsI b x w) (fun _ _ _ => False)
    ?hI ?hIx h0
    (fun (i : Fin 9) a' W => ∃ Bx, b ≤ Bx ∧ W.heap[Bx]? = some (.cells #[.pointer (some ⟨b, i.val, none⟩), .int .i64 (loP i.val), .int .i64 (hiP i.val)] 404 (0, 0)) ∧
      a' = { tmps := #[.agg x.vs.toArray, .pointer (some ⟨b, 0, none⟩), .slice none 0 0, .pointer (some ⟨b + 1, 0, none⟩), undef, .pointer (some ⟨Bx, 0, none⟩), .func (.func 289) #[] #[.pointer (some ⟨g, 0, none⟩)], .int .i64 (i.val : Int), plV b i.val, undef, undef, undef, undef, undef, undef, undef, undef], defers := [] })
    ?hAx ?assign ?body ?done ?stop
  case hI => exact lsI_own b x w _ (by omega) hb
  case hIx => exact fun c s A C row h hg hr => h
  case hAx =>
    rintro i a' s A C row ⟨Bx, h1, h2, h3⟩ hg hr
    exact ⟨Bx, h1, ownFrom_cells (β := Unit) () A C row h2 hg hr, h3⟩
  case assign =>
    rintro l' pre i W K hI hK
    gi_wp2
    have hI2 := hI
    obtain ⟨h, _, _, i4⟩ := hI2
    exact hK _ _ ((KeepsOthers.alloc _ _).from _) (KeepsWalks.alloc _ _) ((lsI_own b x w w1.heap.size (by omega) hb).alloc _ hI)
      ⟨W.heap.size, by have := i4.size; omega, World.alloc_heap_new _ _, rfl⟩
  case body =>
    rintro l' pre i a' W hl' hr hI ⟨Bx, hbB, hbx, rfl⟩ hlen
    obtain ⟨h, hA, hh, hbw2⟩ := hI
    have hne : ∀ k, k ∈ blocks (lsC b x h pre) → k ≠ Bx := by
      rintro k hk rfl
      obtain ⟨cs, T, h4, h5⟩ := lsC_cells hA k hk
      rw [hbx] at h4
      cases h4
      exact h5 rfl
    have hA4 : AbsOK IM.empty W (lsC b x h pre ++ [boxA Bx 404 [.v (.pointer (some ⟨b, i.val, none⟩)), I64 (loP i.val), I64 (hiP i.val)]]) := by
      refine ⟨fun A hm => ?_, ?_, fun k hk => ?_⟩
      · rcases List.mem_append.1 hm with hm | hm
        · exact hA.1 A hm
        · obtain rfl := List.mem_singleton.1 hm
          exact ⟨_, hbx, RepIL_mkv (l := [.pointer (some ⟨b, i.val, none⟩), .int .i64 (loP i.val), .int .i64 (hiP i.val)]) (by intro y hy; simp only [List.mem_cons, List.not_mem_nil, or_false] at hy; rcases hy with rfl | rfl | rfl <;> rfl)⟩
      · unfold blocks
        rw [List.flatMap_append]
        refine List.nodup_append.2 ⟨hA.2.1, by simp [boxA], fun k hk q hq => ?_⟩
        simp [boxA] at hq
        subst hq
        exact hne k hk
      · unfold blocks at hk
        rw [List.flatMap_append] at hk
        rcases List.mem_append.1 hk with hk | hk
        · exact hA.2.2 k hk
        · simp [boxA] at hk
          subst hk
          exact ⟨(Array.getElem?_eq_some_iff.1 hbx).1, fun _ => rfl, rfl⟩
    have rel := Rel.ofAbs Tryz.tabOK Tryz.wide_ hA4 (n := 17) (tmps := #[.agg x.vs.toArray, .pointer (some ⟨b, 0, none⟩), .slice none 0 0, .pointer (some ⟨b + 1, 0, none⟩), undef, .pointer (some ⟨Bx, 0, none⟩), .func (.func 289) #[] #[.pointer (some ⟨g, 0, none⟩)], .int .i64 (i.val : Int), plV b i.val, undef, undef, undef, undef, undef, undef, undef, undef]) rfl (s := [(3, PT (b + 1) 0), (5, PT Bx 0)]) (by
      intro k y hy
      rw [get_cons] at hy
      by_cases h3 : 3 = k
      · rw [if_pos h3] at hy; cases hy; subst h3
        exact ⟨_, rfl, by simp only [Rep]; rfl⟩
      · rw [if_neg h3, get_cons] at hy
        by_cases h5 : 5 = k
        · rw [if_pos h5] at hy; cases hy; subst h5
          exact ⟨_, rfl, by simp only [Rep]; rfl⟩
        · rw [if_neg h5] at hy; cases hy)
    refine wpIn_block (Code.wpIn_mono (Q := concX (ctxOf Tryz.tabOK Tryz.wide_ W (lsC b x h pre ++ [boxA Bx 404 [.v (.pointer (some ⟨b, i.val, none⟩)), I64 (loP i.val), I64 (hiP i.val)]])) 17 (fun ex s => ex = .normal ∧ ∃ h' cr, s.c.Perm ((lsC b x h' (pre ++ [i])).map Ch.abs ++ cr))) ?_
      (round_region_any Tryz.wide_ (by kernel_rfl) ?_ (U_any 20 6 rfl (by kernel_rfl) (by kernel_rfl) (by kernel_rfl) ?_ rel)))
    · intro ex a2 W2 hq
      cases ex
      case panic => exact hq.2.elim
      case outgrown => exact hq.elim
      case exit => obtain ⟨_, _, _, h, _⟩ := hq; cases h
      case goto => obtain ⟨_, _, _, h, _⟩ := hq; cases h
      case ret => obtain ⟨_, _, _, h, _⟩ := hq; cases h
      obtain ⟨e', st', rel', _, h', cr, hperm⟩ := hq
      obtain ⟨q1, q2⟩ := (rel'.heap.perm hperm).absOK
      have hbs : ∀ k, k ∈ blocks (lsC b x h pre ++ [boxA Bx 404 [.v (.pointer (some ⟨b, i.val, none⟩)), I64 (loP i.val), I64 (hiP i.val)]]) → b ≤ k ∧ ∃ (cs : Array Value) (T : TypeId), W.heap[k]? = some (Obj.cells cs T (0, 0)) := by
        intro k hk
        unfold blocks at hk
        rw [List.flatMap_append] at hk
        rcases List.mem_append.1 hk with hk | hk
        · obtain ⟨cs, T, h4, _⟩ := lsC_cells hA k hk
          refine ⟨?_, cs, T, h4⟩
          simp only [lsC, blocks, boxA, vecA, List.flatMap_cons, List.flatMap_nil, List.append_nil, List.mem_append, List.mem_singleton, Option.mem_toList] at hk
          rcases hk with rfl | rfl | hk
          · exact Nat.le_refl _
          · omega
          · exact hh k hk
        · simp [boxA] at hk
          subst hk
          exact ⟨hbB, _, _, hbx⟩
      have hkeep : ∀ (k : Nat) (o : Obj), W.heap[k]? = some o → o.isCells = false → W2.heap[k]? = some o := fun k o hk ho => by
        have hlt := (Array.getElem?_eq_some_iff.1 hk).1
        rw [rel'.keep k hlt (fun hm => by
          obtain ⟨_, cs, T, h4⟩ := hbs k hm
          rw [hk] at h4; cases h4; cases ho) (fun L hL => by cases hL)]
        exact hk
      refine ⟨⟨rel'.sz, fun k o _ hk ho => hkeep k o hk ho⟩, ⟨rel'.sz, fun k o hk ho => hkeep k o hk (by cases o <;> first | rfl | cases ho)⟩, h', lsC_empty q1, fun g hg => ?_, ?_⟩
      · rcases q2 g (by simp [lsC, blocks, vecA, hg]) with h4 | h4
        · have h5 : W.heap.size ≤ g := h4
          have := hbw2.size
          omega
        · exact (hbs g h4).1
      · refine ⟨rel'.os.trans hbw2.os, rel'.tape.trans hbw2.tape, rel'.output.trans hbw2.output, Nat.le_trans hbw2.size rel'.sz, fun k hk => ?_⟩
        refine (rel'.keep k (show k < W.heap.size by have := hbw2.size; omega) (fun hm => by have := (hbs k hm).1; omega) (fun L hL => by cases hL)).trans (hbw2.block k hk)
    · rintro ⟨a, w, h⟩
      exact h
    · have hcell : (x.vs.map AV.v)[i.val]? = some (I64 (x.l.getD i.val 0)) := by
        obtain ⟨i, hi⟩ := i
        rcases (by omega : i = 0 ∨ i = 1 ∨ i = 2 ∨ i = 3 ∨ i = 4 ∨ i = 5 ∨ i = 6 ∨ i = 7 ∨ i = 8) with rfl | rfl | rfl | rfl | rfl | rfl | rfl | rfl | rfl <;> rfl
      show SymD _ 17 _ _ _ _ _ _
      repeat (first|refine sd rfl ?_|refine sdb rfl ?_|refine sds rfl ?_)
      refine D_X (.v h) (X_loadP 1 (reads_box 0) rfl rfl rfl rfl rfl rfl) ?_
      repeat (first|refine sd rfl ?_|refine sdb rfl ?_|refine sds rfl ?_)
      refine D_X (PT b i.val) (X_loadP 3 (reads_box 0) rfl rfl rfl rfl rfl rfl) ?_
      repeat (first|refine sd rfl ?_|refine sdb rfl ?_|refine sds rfl ?_)
      refine D_X (I64 (x.l.getD i.val 0)) (X_loadP 0 (reads_get hcell) rfl rfl rfl rfl rfl rfl) ?_
      repeat (first|refine sd rfl ?_|refine sdb rfl ?_|refine sds rfl ?_)
      refine O_appendV 2 (m := pre.length) (m2 := 1) (m3 := (pre ++ [i]).length) (row := lsR x pre) (row3 := lsR x (pre ++ [i])) rfl rfl rfl rfl rfl rfl (fun q hq => ?_) rfl ?_ ?_ ?_ (fun k hk => ?_) (fun v' hv => ?_)
      · obtain rfl : q = 0 := by omega
        rfl
      · omega
      · simp only [maxLen]; omega
      · simp
      · unfold appRow
        unfold lsR
        rw [lsF_app x pre i k (by simpa using hk)]
        by_cases h : k < pre.length
        · rw [if_pos h, if_pos h]
        · rw [if_neg h, if_neg h]
          obtain rfl : k = pre.length := by simp at hk; omega
          rw [Nat.sub_self]
          rfl
      rcases hv with ⟨h0, _⟩ | ⟨g', cc, rfl⟩
      · simp at h0
      repeat (first|refine sc rfl ?_|refine so rfl ?_|refine sb rfl ?_)
      first
        | refine O_Xn (X_storeP 0 (writes_box (by show 0 < 1; decide)) rfl rfl rfl rfl rfl rfl rfl) ?_
        | refine O_Xn (X_storeP 1 (writes_box (by show 0 < 1; decide)) rfl rfl rfl rfl rfl rfl rfl) ?_
        | refine O_Xn (X_storeP 2 (writes_box (by show 0 < 1; decide)) rfl rfl rfl rfl rfl rfl rfl) ?_
        | refine O_Xn (X_storeP 3 (writes_box (by show 0 < 1; decide)) rfl rfl rfl rfl rfl rfl rfl) ?_
        | refine O_Xn (X_storeP 4 (writes_box (by show 0 < 1; decide)) rfl rfl rfl rfl rfl rfl rfl) ?_
      repeat (first|refine sc rfl ?_|refine so rfl ?_|refine sb rfl ?_)
      exact ⟨rfl, HD g' (pre ++ [i]).length cc, _, pickA_perm (is := [2, 0, 0]) (As := lsC b x (HD g' (pre ++ [i]).length cc) (pre ++ [i])) rfl⟩
  case done =>
    rintro D xs W hD rfl ⟨h, hA, hh, hbw2⟩ hK
    obtain ⟨arr, g1, g2⟩ := hA.1 _ (List.mem_cons_of_mem _ (List.mem_cons_self ..))
    have g3 : arr = #[h] := by
      have := RepIL_v (l := [h]) g2
      rw [← Array.toList_inj]; simpa using this
    subst g3
    have hc := Boxed.cell g1
    have hbox := hA.1 _ (List.mem_cons_of_mem _ (List.mem_cons_of_mem _ (List.mem_cons_self ..)))
    have hone : h.oneCell' = true := by
      simp only [RepIL, RepI] at g2
      obtain ⟨z, zs, e1, e2, e3, _⟩ := g2
      subst e2
      exact e3
    gi_wp2
    refine ⟨by simp, .inl ⟨_, _, rfl, run_takeDeferred hK, ?_⟩⟩
    have hsame : ∀ k, k ∈ blocks (lsC b x h (List.finRange 9)) → (W.putObj D (.deferred none)).heap[k]? = W.heap[k]? := fun k hk => by
      obtain ⟨cs, T, h4, _⟩ := lsC_cells hA k hk
      refine World.putObj_heap_other (fun e => ?_)
      subst e
      rw [hK] at h4
      cases h4
    have hA2 := hA.keep (IM.le_refl _) hsame (by simp) (fun _ _ _ hf => hf)
    refine ⟨h, by simp [results, Tryz.f290, go_sem], h, rfl, ⟨fun A hm => ?_, ?_, fun k hk => ?_⟩, fun g hg => hh g hg, ?_⟩
    · obtain rfl := List.mem_singleton.1 hm
      obtain ⟨xs, h5, h6⟩ := hA2.1 _ (List.mem_cons_of_mem _ (List.mem_cons_of_mem _ (List.mem_cons_self ..)))
      refine ⟨xs, h5, fun i hi => ?_⟩
      have := h6 i (by simpa using hi)
      rw [show lsR x (List.finRange 9) i = [I64 (x.l.getD i 0)] by
        rcases (by omega : i = 0 ∨ i = 1 ∨ i = 2 ∨ i = 3 ∨ i = 4 ∨ i = 5 ∨ i = 6 ∨ i = 7 ∨ i = 8) with rfl | rfl | rfl | rfl | rfl | rfl | rfl | rfl | rfl <;> rfl] at this
      exact this
    · have := hA2.2.1
      simp only [lsC, blocks, List.flatMap_cons, List.flatMap_nil, List.append_nil] at this ⊢
      exact (List.nodup_append.1 (List.nodup_append.1 this).2.1).2.1
    · refine hA2.2.2 k ?_
      simp only [lsC, blocks, List.flatMap_cons, List.flatMap_nil, List.append_nil, List.mem_append] at hk ⊢
      exact .inr (.inr hk)
    · exact hbw2.trans (belowK_b (w := w) (Nat.le_of_eq hb.symm) _ D _ _ (by omega) hK rfl rfl)
  case stop =>
    rintro D c pre W hD hSp h hK
    exact h.elim
theorem confList_A (x : Cf) : FnA Tryz.prog 290 [.agg (Cf.c x)] [] (fun r cs' => ∃ h, r = .v h ∧ ((9 = 0 ∧ h = .slice none 0 0) ∨ ∃ g cc, h = HD g 9 cc) ∧ cs' = [vecA h 3 1 9 (fun i => [I64 (x.l.getD i 0)])]) := by
  refine ⟨⟨Tryz.f290, Tryz.func290, by kernel_rfl, by kernel_rfl⟩, fun G w cargs him hr _ => ?_⟩
  simp only [RepIT] at hr
  obtain ⟨z, zs, rfl, h1, rfl⟩ := hr
  simp only [RepI] at h1
  obtain ⟨ys, rfl, h2⟩ := h1
  have h3 : ys.toList = x.vs := RepIL_v (l := x.vs) h2
  have h4 : ys = x.vs.toArray := by rw [← h3]
  subst h4
  refine (confList_calls x w).mono ?_
  rintro e w' ⟨h, rfl, hA, hh, hb⟩
  refine ⟨.v h, h, _, G, ⟨h, rfl, ?_, rfl⟩, rfl, by simp only [RepI], IM.le_refl _, ⟨fun b o v hv => .inl hv, fun b x hx => .inl hx⟩, ?_, ?_, fun g hg => ?_, hb.os, hb.tape, hb.output, hb.size, fun k hk _ _ => hb.block k hk⟩
  · obtain ⟨xs, ⟨_, h1 | ⟨g, cap, cur, rfl, _⟩⟩, _⟩ := hA.1 _ (List.mem_cons_self ..)
    · cases h1.2
    · exact .inr ⟨g, cap, rfl⟩
  · exact ⟨fun b o u hu => by
      have h1 := him.1 b o u hu
      have h2 := Go.block_lt_of_cell h1
      simp only [World.cell?] at h1 ⊢
      rw [hb.block b h2]
      exact h1, fun b x hx => (him.2 b x hx).keep0 (hb.block b (him.2 b x hx).lt)⟩
  · refine hA.keep (IM.empty_le G) (fun _ _ => rfl) (Nat.le_refl _) (fun g _ hg _ => ?_)
    have hge : w.heap.size ≤ g := hh g (by simpa [blocks, vecA] using hg)
    refine ⟨fun o => ?_, ?_⟩
    · cases hx : G g o with
      | none => rfl
      | some v => have := Go.block_lt_of_cell (him.1 g o v hx); simp only at this; omega
    · cases hx : G.m g with
      | none => rfl
      | some v => have := (him.2 g v hx).lt; omega
  · exact .inl (hh g (by simpa [blocks, vecA] using hg))
end Go.Proofs

namespace Go.Proofs
open Go.Sy Go.Lib

theorem ckF_lim {x : Cf} (h : ckF x = 0) (i : Nat) (hi : i < 9) : 0 ≤ x.l.getD i 0 ∧ x.l.getD i 0 ≤ 1048576 := by
  unfold ckF at h
  split at h
  · rename_i hk
    have h1 := hk ⟨i, hi⟩
    unfold okAt at h1
    simp only [Bool.and_eq_true, decide_eq_true_eq] at h1
    have h2 : (0 : Int) ≤ loP i := by unfold loP; split <;> omega
    have h3 : hiP i ≤ 1048576 := by unfold hiP; repeat' split <;> omega
    omega
  · cases h
theorem vput_5 {n : Nat} (h : n ≤ 1048576) : (vput n).length ≤ 3 := vput_len2 2 n (by omega)
theorem cfB_len {x : Cf} (h : ckF x = 0) : ∀ k, k ≤ 9 → ((x.l.take k).map fun n => vput n.toNat).flatten.length ≤ 3 * k
  | 0, _ => by simp
  | k + 1, hk => by
    have h9 : x.l.length = 9 := rfl
    have ih := cfB_len h k (by omega)
    rw [List.take_succ_eq_append_getElem (by omega), List.map_append, List.flatten_append, List.length_append]
    have h1 := ckF_lim h k (by omega)
    have h2 := vput_5 (n := (x.l[k]'(by omega)).toNat) (by
      rw [List.getD_eq_getElem?_getD, List.getElem?_eq_getElem (by omega)] at h1
      simp only [Option.getD_some] at h1
      omega)
    simp only [List.map_cons, List.map_nil, List.flatten_cons, List.flatten_nil, List.append_nil]
    omega
theorem cfP_len (x : Cf) : (cfP x).1.length ≤ 1000 := by
  unfold cfP
  split
  · rename_i h
    have := cfB_len h 9 (by omega)
    unfold cfB
    rw [show x.l.take 9 = x.l from rfl] at this
    simp only []
    omega
  · simp
theorem confPut_c (x : Cf) : FnP Tryz.prog 258 [.agg (Cf.c x)] (· = .tup [.s (cfP x).1, I64 (cfP x).2]) := by
  refine FnP.intro Tryz.tabOK Tryz.wide_ Tryz.func258 rfl (by decide) rfl (fun X => ?_)
  obtain ⟨q, hq⟩ : ∃ q, cfP x = q := ⟨_, rfl⟩
  rw [hq]
  unfold cfP at hq
  repeat (first|refine sc rfl ?_|refine so rfl ?_|refine sb rfl ?_)
  refine O_call (confCheck_c x) (by rfl) (by rfl) (by rfl) (by rfl) (fun r hr => ?_)
  subst hr
  repeat (first|refine sc rfl ?_|refine so rfl ?_|refine sb rfl ?_)
  refine C_if rfl (fun m1 => ?_) (fun m1 => ?_) <;> simp only [pL] at m1
  · rw [if_neg m1] at hq
    repeat (first|refine sc rfl ?_|refine so rfl ?_|refine sb rfl ?_)
    exact ⟨_, rfl, rfl, by rw [← hq]⟩
  rw [if_pos m1] at hq
  repeat (first|refine sc rfl ?_|refine so rfl ?_|refine sb rfl ?_)
  refine O_absb 5 rfl rfl rfl (fun b => ?_)
  refine O_le _ (Le.addAbs (bufA (.slice none 0 0) 5 []) rfl (fun _ _ => ⟨rfl, .inl ⟨rfl, rfl⟩⟩)) ?_
  refine O_callA [] (confList_A x) (by rfl) (by rfl) (by rfl) (by rfl) (by rfl) ?_
  rintro r cs' ⟨h0, rfl, hh, rfl⟩
  refine O_le _ (Le.frVec 0 (fun i => INTc (x.l.getD i default)) rfl (fun i hi => rfl)) ?_
  refine O_le _ (Le.slotA 0 14 rfl rfl) ?_
  repeat (first|refine sc rfl ?_|refine so rfl ?_|refine sb rfl ?_)
  have hg9 : ∀ i, (fun i => INTc (x.l.getD i default)) i = INTc (x.l.getD i 0) := fun i => rfl
  refine C_loop (fun (q : Nat × Bool × Value) => ⟨[(5, PT b 0), (14, SL 1 INTc x.l), (15, I64 9), (16, I64 (q.1 : Nat))], [.abs (bldC b q.2.1 q.2.2), .abs (bufA q.2.2 5 ((x.l.take q.1).map fun n => vput n.toNat).flatten)]⟩) (fun q => q.1 ≤ 9 ∧ HdB q.2.2 ((x.l.take q.1).map fun n => vput n.toNat).flatten) (fun q => 9 - q.1) (0, false, .slice none 0 0) ⟨by decide, .inl ⟨rfl, rfl⟩⟩ (Le.pick [2, 1] ⟨rfl, rfl, rfl, rfl, trivial⟩ rfl) ?_
  rintro ⟨i, u, h⟩ ⟨hi, hH⟩
  simp only [] at hi hH
  repeat (first|refine sc rfl ?_|refine so rfl ?_|refine sb rfl ?_)
  refine C_if rfl (fun m2 => ?_) (fun m2 => ?_) <;> simp only [pL] at m2
  · have hi9 : i < 9 := by omega
    have hlim := ckF_lim m1 i hi9
    obtain ⟨n, hn⟩ : ∃ n : Nat, x.l.getD i 0 = (n : Int) := ⟨(x.l.getD i 0).toNat, by omega⟩
    have hbl := cfB_len m1 i (by omega)
    repeat (first|refine sc rfl ?_|refine so rfl ?_|refine sb rfl ?_)
    refine ⟨⟨by simp only []; omega, show ((i : Nat) : Int) < ((9 : Nat) : Int) by omega⟩, ?_⟩
    simp only [Int.toNat_natCast]
    repeat (first|refine sc rfl ?_|refine so rfl ?_|refine sb rfl ?_)
    rw [show x.l.getD i default = (n : Int) from hn]
    have hw : IntKind.u64.wrap (n : Int) = (n : Int) := by
      simp only [IntKind.wrap, IntKind.bits, IntKind.signed, Bool.false_and]
      simp
      omega
    rw [hw]
    refine O_call (Put83_p n (by omega)) (by rfl) (by rfl) (by rfl) (by rfl) (fun r hr => ?_)
    subst hr
    repeat (first|refine sc rfl ?_|refine so rfl ?_|refine sb rfl ?_)
    obtain ⟨acc, hacc⟩ : ∃ acc, ((x.l.take i).map fun n => vput n.toNat).flatten = acc := ⟨_, rfl⟩
    have hacc2 : ((x.l.take (i + 1)).map fun n => vput n.toNat).flatten = acc ++ vput n := by
      have h9 : x.l.length = 9 := rfl
      have hx : x.l[i]'(by omega) = (n : Int) := by
        rw [← hn, List.getD_eq_getElem?_getD, List.getElem?_eq_getElem (by omega)]; rfl
      rw [List.take_succ_eq_append_getElem (by omega), List.map_append, List.flatten_append, hacc, hx]
      simp
    rw [hacc] at hH hbl ⊢
    have hv := vput_5 (n := n) (by omega)
    refine O_callA [0, 0] (WriteString_A b u h acc (vput n) hH (by omega)) (by rfl) (by rfl) (by rfl) (by rfl) (by rfl) ?_
    rintro r' cs' ⟨rfl, h', hH', rfl⟩
    repeat (first|refine sc rfl ?_|refine so rfl ?_|refine sb rfl ?_)
    rw [w64 (x := (i : Int) + 1) (by omega) (by omega)]
    refine ⟨(i + 1, true, h'), ⟨by simp only []; omega, by simp only []; rw [hacc2]; exact hH'⟩, by simp only []; omega, ?_⟩
    simp only []
    rw [hacc2]
    exact Le.pick [0, 0] ⟨rfl, rfl, rfl, rfl, trivial⟩ rfl
  · obtain rfl : i = 9 := by omega
    rw [show x.l.take 9 = x.l from rfl] at hH ⊢
    repeat (first|refine sc rfl ?_|refine so rfl ?_|refine sb rfl ?_)
    refine O_callA [0, 0] (String_A b u h _ hH) (by rfl) (by rfl) (by rfl) (by rfl) (by rfl) ?_
    rintro r' cs' ⟨rfl, rfl⟩
    repeat (first|refine sc rfl ?_|refine so rfl ?_|refine sb rfl ?_)
    exact ⟨_, rfl, rfl, by rw [← hq]; rfl⟩
end Go.Proofs

namespace Go.Sy
open Go.RowKit

section
variable {P : Program} {T : Tab}
theorem FnA.introM (μ : Nat → Nat) (ok : TabOK P T) (wide : P.follows .mixedOrders = true) {f : FuncId} {fn : Func} {c : Code} {args : List AV} {cs : List Abs} {post : AV → List Abs → Prop} (hf : P.funcs[f]? = some fn) (hb : fn.body = some c)
    (hn : (fn.name == "runtime.NumGoroutine") = false) (hargs : Nat.ble args.length fn.ntmps = true)
    (h : ∀ X : Ctx P T, X.μ0 = μ → SymC X fn.ntmps c ⟨enumA 0 args, cs.map Ch.abs⟩ (EndsX T fn.results post)) : FnA P f args cs post := by
  refine ⟨⟨fn, hf, by simp [hb], hn⟩, ?_⟩
  intro G w cargs him hrep hcs
  have hargs := Nat.le_of_ble_eq_true hargs
  refine calls_of_wp hf hb ?_
  let X : Ctx P T := ⟨ok, wide, w, G, blocks cs, μ, fun _ _ _ => False, []⟩
  let e : Env := ⟨G, μ, fun _ => undef⟩
  have hheap : HeapOK X e w (cs.map Ch.abs) := by
    refine ⟨cs.map (fun A => (Ch.abs A, A.bs)), by simp [Function.comp_def], ?_, by rw [flat_abs]; exact hcs.2.1, ?_⟩
    · intro p hp
      obtain ⟨A, hA, rfl⟩ := List.mem_map.1 hp
      exact ⟨rfl, hcs.1 A hA⟩
    · rw [flat_abs]
      intro b hb
      exact ⟨(hcs.2.2 b hb).1, .inr hb, (hcs.2.2 b hb).2⟩
  have r : Rel X fn.ntmps e ⟨enumA 0 args, cs.map Ch.abs⟩ { tmps := cargs.toArray ++ Array.replicate (fn.ntmps - cargs.toArray.size) undef, defers := [] } w :=
    Rel.enter rfl rfl him (RepIT.toRep (e := e) args hrep) hargs hheap rfl
  refine Code.wp_mono (fun ex a' w' hc => ?_) (h X rfl e _ w r)
  have fin : ∀ (e' : Env) (st' : St), Rel X fn.ntmps e' st' a' w' → (∃ r cs rest, resA T st' fn.results.toList = some r ∧ st'.c.Perm (cs.map Ch.abs ++ rest) ∧ r.imm = true ∧ post r cs) →
      a'.defers = [] ∧ ∃ v, (results fn a'.tmps).run P w' = .ok v w' ∧ (∃ r cr cs' G', post r cs' ∧ Ending.returned v = .returned cr ∧ RepI G' r cr ∧ IM.le G G' ∧
      NewAt G G' w.heap.size (blocks cs) ∧ ImOK G' w' ∧ AbsOK G' w' cs' ∧
      (∀ b ∈ blocks cs', w.heap.size ≤ b ∨ b ∈ blocks cs) ∧
      w'.os = w.os ∧ w'.tape = w.tape ∧ w'.output = w.output ∧ w.heap.size ≤ w'.heap.size ∧ ∀ k, k < w.heap.size → k ∉ blocks cs → G.still k → w'.heap[k]? = w.heap[k]?) := by
    intro e' st' hr ⟨x, cs', rest, h1, hk, h2, h3⟩
    obtain ⟨v, h5, h6⟩ := resA_sound hr h1
    obtain ⟨q1, q2⟩ := (hr.heap.perm hk).absOK
    refine ⟨hr.defers, v, h5, x, v, cs', e'.G, h3, rfl, Rep.toI x h2 h6, hr.le, ⟨hr.new, hr.newm⟩, ⟨hr.im, hr.mz⟩, q1, q2, hr.os, hr.tape, hr.output, hr.sz, fun k hk hnin hs => hr.keep k hk hnin hs⟩
  cases ex with
  | normal => obtain ⟨e', st', h1, h2⟩ := hc; exact fin e' st' h1 h2
  | ret => obtain ⟨e', st', h1, h2⟩ := hc; exact fin e' st' h1 h2
  | exit id => obtain ⟨e', st', h1, h2⟩ := hc; exact h2.elim
  | goto l => obtain ⟨e', st', h1, h2⟩ := hc; exact h2.elim
  | panic ch => exact hc.2.elim
  | outgrown => exact hc.elim

end
section
variable {P : Program} {T : Tab} {X : Ctx P T} {n : Nat} {e : Env} {st : St} {a : Act} {w : World} {ops : Array Oper} {K : St → Prop}

theorem Le.toBox (q k : Nat) {b : Nat} {t : TypeId} {cells : List AV} {s : List (Nat × AV)} {c cr : List Ch} (hp : nthA q c = some (boxA b t cells, cr)) (hk : n ≤ k) (hμ : X.μ0 k = b) : Le X n ⟨s, c⟩ ⟨s, .box k t cells :: cr⟩ := by
  intro e a w r
  refine ⟨e, { r with slots := r.slots, heap := ?_ }⟩
  refine HeapOK.retell (r.heap.perm (nthA_perm hp)) ?_
  rintro bs ⟨rfl, arr, g1, g2⟩
  have h1 : e.μ k = b := by rw [r.fix k hk, hμ]
  exact ⟨by rw [h1]; rfl, arr, by rw [h1]; exact g1, RepIL.toRep cells g2⟩
theorem Le.ofBox (k : Nat) {b kk : Nat} {t : TypeId} {cells : List AV} {s : List (Nat × AV)} {c cr : List Ch} (hp : takeCh k c = some (.box kk t cells, cr)) (hk : n ≤ k) (hμ : X.μ0 k = b) (himm : AV.imm.immL cells = true) : Le X n ⟨s, c⟩ ⟨s, .abs (boxA b t cells) :: cr⟩ := by
  intro e a w r
  have hkk : kk = k := kid_of_take hp
  subst hkk
  refine ⟨e, { r with slots := r.slots, heap := ?_ }⟩
  refine HeapOK.retell (r.heap.perm (takeCh_perm hp)) ?_
  rintro bs ⟨rfl, arr, g1, g2⟩
  have h1 : e.μ kk = b := by rw [r.fix kk hk, hμ]
  exact ⟨by rw [h1]; rfl, arr, by rw [h1] at g1; exact g1, RepL.toI cells himm g2⟩
theorem Le.slotBp (i k : Nat) {b o : Nat} {s : List (Nat × AV)} {c : List Ch} (hi : get s i = some (PT b o)) (hk : n ≤ k) (hμ : X.μ0 k = b) : Le X n ⟨s, c⟩ ⟨(i, .bp k o) :: s, c⟩ := by
  intro e a w r
  refine ⟨e, { r with slots := fun j x hx => ?_, heap := r.heap }⟩
  rw [get_cons] at hx
  by_cases hij : i = j
  · subst hij
    simp only [if_true, Option.some.injEq] at hx
    subst hx
    obtain ⟨v, h1, h2⟩ := r.slots i _ hi
    refine ⟨v, h1, ?_⟩
    simp only [Rep] at h2 ⊢
    rw [r.fix k hk, hμ]
    exact h2
  · rw [if_neg hij] at hx
    exact r.slots j x hx
theorem Le.cellOwn (q b j d : Nat) {h : Value} {kk : Nat} {t t0 : TypeId} {esz m : Nat} {row : Nat → List AV} {cells : List AV} {s : List (Nat × AV)} {c cr r2 : List Ch} (hp : nthA q c = some (vecA h t esz m row, cr)) (hb : takeCh b cr = some (.box kk t0 cells, r2)) (hj : cells[j]? = some (.v h))
    (hs : ∃ x y z, h = .slice x y z) (hf : freshS d s = true) (hc : freshC d c = true) : Le X n ⟨s, c⟩ ⟨s, .box kk t0 (cells.set j (.own d)) :: .vec d t esz m row :: r2⟩ := by
  intro e a w r
  have q1 := Rel.newHd r d h hf hc
  have hpm : c.Perm (.abs (vecA h t esz m row) :: .box kk t0 cells :: r2) := (nthA_perm hp).trans (.cons _ (takeCh_perm hb))
  have h2 : HeapOK X { e with hd := upd e.hd d h } w (.vec d t esz m row :: .box kk t0 cells :: r2) := HeapOK.retell (q1.heap.perm hpm) (fun bs hbs => by
    obtain ⟨h1, xs, h3, h4⟩ := hbs
    exact ⟨by simp [upd, h1, vecA], xs, by simp only [upd, if_true]; exact h3, h4⟩)
  have h3 := HeapOK.cell (y := .own d) (h2.perm (.swap _ _ _)) hj (fun v hv => by
    simp only [Rep] at hv ⊢
    subst hv
    exact ⟨by simp [upd], hs⟩)
  exact ⟨_, { q1 with slots := q1.slots, heap := h3 }⟩
theorem Rel.cellAbs {s : List (Nat × AV)} {c r1 r2 : List Ch} (r : Rel X n e ⟨s, c⟩ a w) {b j k : Nat} {kv kk : Nat} {t t0 : TypeId} {esz m : Nat} {row : Nat → List AV} {cells : List AV} (hk : takeCh k c = some (.vec kv t esz m row, r1)) (hb : takeCh b r1 = some (.box kk t0 cells, r2)) (hj : cells[j]? = some (.own k)) :
    ∃ h, ((m = 0 ∧ h = .slice none 0 0) ∨ ∃ g cc, h = HD g m cc) ∧ Rel X n e ⟨s, .box kk t0 (cells.set j (.v h)) :: .abs (vecA h t esz m row) :: r2⟩ a w := by
  have hkv : kv = k := kid_of_take hk
  subst hkv
  have hpm : c.Perm (.vec kv t esz m row :: .box kk t0 cells :: r2) := (takeCh_perm hk).trans (.cons _ (takeCh_perm hb))
  have hh := r.heap.perm hpm
  refine ⟨e.hd kv, ?_, { r with slots := r.slots, heap := ?_ }⟩
  · obtain ⟨bs, ⟨hbs, xs, g1, g2⟩, _, hgood⟩ := hh.head
    rcases g1.2 with ⟨hnil, hm⟩ | ⟨g, cap, cur, hsl, _⟩
    · exact .inl ⟨hm, hnil⟩
    · exact .inr ⟨g, cap, hsl⟩
  · have h2 : HeapOK X e w (.abs (vecA (e.hd kv) t esz m row) :: .box kk t0 cells :: r2) := HeapOK.retell hh (fun bs hbs => by
      obtain ⟨h1, xs, h3, h4⟩ := hbs
      exact ⟨by simp [h1, vecA], xs, h3, h4⟩)
    exact HeapOK.cell (y := .v (e.hd kv)) (h2.perm (.swap _ _ _)) hj (fun v hv => by
      simp only [Rep] at hv ⊢
      exact hv.1)
theorem C_cellAbs {Q : Exit → St → Prop} {cd : Code} {s : List (Nat × AV)} {c r1 r2 : List Ch} (b j k : Nat) {kv kk : Nat} {t t0 : TypeId} {esz m : Nat} {row : Nat → List AV} {cells : List AV} (hk : takeCh k c = some (.vec kv t esz m row, r1)) (hb : takeCh b r1 = some (.box kk t0 cells, r2)) (hj : cells[j]? = some (.own k))
    (h : ∀ h, ((m = 0 ∧ h = .slice none 0 0) ∨ ∃ g cc, h = HD g m cc) → SymC X n cd ⟨s, .box kk t0 (cells.set j (.v h)) :: .abs (vecA h t esz m row) :: r2⟩ Q) : SymC X n cd ⟨s, c⟩ Q := fun e a w r => by
  obtain ⟨v, h1, h2⟩ := r.cellAbs hk hb hj
  exact h v h1 e a w h2
end
end Go.Sy

namespace Go.Sy
open Go.RowKit

section
variable {P : Program} {T : Tab} {X : Ctx P T} {n : Nat} {e : Env} {st : St} {a : Act} {w : World} {ops : Array Oper} {K : St → Prop}

theorem X_lenV (q : Nat) {p : Pl} {t tt el sz0 b0 : Nat} {ag0 : Bool} {z0 : List Value} {x : Operand} {h : Value} {m esz : Nat} {row : Nat → List AV} {d : Option Nat} {ty : TypeId} {pos : String} {aft : Array Edge} {gd : Option (Nat × Bool)} {j : Nat} {Si : List (Nat × AV)} {c cr : List Ch}
    (hT : T t = some ⟨sz0, b0, ag0, z0, .slice el⟩) (hg : guardA ops ⟨Si, c⟩ ⟨d, .call ⟨.builtin .len, #[x], #[t]⟩, ty, pos, aft, gd⟩ = some true) (hx : opd Si x = some (.v h)) (hp : nthA q c = some (vecA h tt esz m row, cr)) (hd : dstOK n d = true) :
    StepX X n ops p Si c c j ⟨d, .call ⟨.builtin .len, #[x], #[t]⟩, ty, pos, aft, gd⟩ (I64 (m : Nat)) :=
  StepX.val hg hd (fun e a w S r r' => by
    obtain ⟨⟨xs, g1, g2⟩, _⟩ := r.heap.nth hp
    have hh : ∃ aa cc, h = .slice aa m cc := by
      rcases g1.2 with ⟨hnil, hm⟩ | ⟨g, cap, cur, hsl, _⟩
      · exact ⟨none, 0, by rw [hnil, hm]⟩
      · exact ⟨_, _, hsl⟩
    obtain ⟨aa, cc, rfl⟩ := hh
    have hs : still T ⟨Si, c⟩ (.call ⟨.builtin .len, #[x], #[t]⟩) = some (I64 (m : Nat)) := by
      simp [still, hT, hx]
    obtain ⟨v, h2, h1⟩ := still_sound (o := ⟨d, .call ⟨.builtin .len, #[x], #[t]⟩, ty, pos, aft, gd⟩) r' hs
    exact ⟨v, w, e, h1 w (SameAs.refl w), r, h2⟩)
end
end Go.Sy
