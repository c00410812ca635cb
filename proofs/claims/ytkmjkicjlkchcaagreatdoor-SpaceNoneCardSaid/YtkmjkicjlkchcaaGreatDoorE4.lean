/- Declarations checked. -/
import Derived.Test.YtkmjkicjlkchcaaGreatDoorE3
import Derived.Shelf.Small.Strs
import Derived.Shelf.Strings.Search3
import Derived.Test.YtkmjkicjlkchcaaGreatDoorProg
import Derived.Shelf.Strings.Builder1
import Derived.Shelf.Strings.Builder2
import Derived.Shelf.Strings.OnBuilder
import Derived.Shelf.Strings.BuilderF
import Derived.Shelf.Strings.Builder2Cap
import Derived.Shelf.Strings.Prefix
import Derived.Shelf.Bits.Mul64
import Derived.Shelf.Strings.Repeat
import Derived.Ground.Names2Prog
import Derived.Shelf.Slices.SearchI
import Derived.Shelf.LaysM
import Derived.Shelf.Strings.BuilderCap
set_option linter.unusedSimpArgs false
set_option linter.unusedVariables false
set_option maxRecDepth 100000
namespace Go.Proofs
open Go.E
variable {Kn : IM}
noncomputable def chkO' (b : Nat) (l : Arr De) (es : Es) (ks : Arr Int) : List Ch := .box b [SL 5 deC l, .bp (b + 1) 0] :: tabO (b + 1) (b + 2) es ks
noncomputable def chkO (l : Arr De) (es : Es) (ks : Arr Int) : List Ch := .box 0 [SL 5 deC l, .bp 1 0] :: tabO 1 2 es ks
theorem arity_d (k : Int) : FnD Tryz.prog Kn 504 0 [I64 k] [] 0 (fun r : Int => k = 8 → r = 2) I64 (fun _ => []) := by
  refine go Tryz.func504 ?_
  repeat' (first | refine d1 ?_ | exact dEL _ (fun _ => by omega) rfl rfl | refine d2 ?_ ?_ <;> intro h)
theorem row_int {t : Ty} {i : Nat} (h : i < t.len) : t.row (Int.toNat i) = tyC (t.kid i) := row_eq h
theorem row_zero {t : Ty} (h : 0 < t.len) : t.row (Int.toNat 0) = tyC (t.kid 0) := row_eq h
theorem Ty.sm_len {t : Ty} (h : t.sm) : t.len ≤ 2 := by
  cases t with
  | leaf => exact Nat.zero_le _
  | mk => exact h.1
variable (l : Arr De) (es : Es) (ks : Arr Int) (hk : ∀ q ∈ es, 0 ≤ q.2 ∧ q.2 < ks.n)
include hk
theorem keyed_d (t : Ty) : FnD Tryz.prog Kn 505 3 [.bp 0 0, .agg (tyC t)] (chkO l es ks) 3 (fun _ : Bool => True) B (fun _ => chkO l es ks) := by
  refine go Tryz.func505 ?_
  repeat' (first | refine d1 ?_ | exact dEO _ [0, 1, 2] | (refine dK (nKind_d es ks _ hk) [1, 2] [] ?_; rintro r -) | refine d2 ?_ ?_ <;> intro h)
theorem typ_b (t : Ty) (ht : t.len ≤ 100) (ih : ∀ i, i < t.len → ∀ inner : Bool, FnD Tryz.prog Kn 483 3 [.bp 0 0, .agg (tyC (t.kid i)), B inner] (chkO l es ks) 3 (fun _ : Int => True) I64 (fun _ => chkO l es ks)) (inner : Bool) :
    FnD Tryz.prog Kn 483 3 [.bp 0 0, .agg (tyC t), B inner] (chkO l es ks) 3 (fun _ : Int => True) I64 (fun _ => chkO l es ks) := by
  refine go Tryz.func483 ?_
  iterate 4 refine d1 ?_
  refine dJ (fun b : Bool => ⟨[(28, B b), (4, .bp 4 0), (2, B inner), (0, .bp 0 0)], .box 4 (tyC t) :: chkO l es ks, [4, 0, 1, 2]⟩) (fun b => b = false → t.k = 8 → t.len = 2) ?_ ?_
  · intro b hb
    refine d2 ?_ ?_ <;> intro h
    · repeat refine d1 ?_
      exact dEO _ [0, 1, 2]
    · refine d1 ?_
      refine dJ (fun _ : Unit => ⟨[(4, .bp 4 0), (0, .bp 0 0)], .box 4 (tyC t) :: chkO l es ks, [4, 0, 1, 2]⟩) (fun _ => True) ?_ ?_
      · rintro - -
        repeat refine d1 ?_
        refine dW (fun i : Nat => ⟨[(71, I64 i), (70, I64 t.len), (69, .sl t.len 3 t.row), (0, .bp 0 0)], chkO l es ks, [0, 1, 2]⟩) (fun i => i ≤ t.len) (fun i => t.len - i) 0 (Nat.zero_le _) (Le.g [] [] [0, 1, 2]) ?_
        intro i hi J hJ
        dsimp only at hi ⊢
        repeat' (first | refine d1 ?_ | exact dEO _ [0, 1, 2] | rw [row_int (by omega)] | (refine dK (ih i (by omega) true) [0, 1, 2] [] ?_; rintro r -) | refine d2 ?_ ?_ <;> intro h)
        exact hJ (i + 1) _ (by omega) (by omega) (Le.g [] [] [0, 1, 2])
      · intro J hJ
        repeat' (first | refine d1 ?_ | exact dEO _ [0, 1, 2] | exact hJ () _ trivial (Le.g [] [] [4, 0, 1, 2]) | (refine dK (nKind_d es ks _ hk) [1, 2] [] ?_; rintro r -) | (refine dK (nFind_d es ks _) [1, 2] [] ?_; rintro _ rfl) | refine dG (fun _ => rfl) (by have := hb (by assumption) (by assumption); omega) ?_ | rw [row_zero (by have := hb (by assumption) (by assumption); omega)] | (refine dK (keyed_d l es ks hk (t.kid 0)) [0, 1, 2] [] ?_; rintro r -) | refine d2 ?_ ?_ <;> intro h)
  · intro J hJ
    repeat' (first | refine d1 ?_ | (refine dK (arity_d _) [] [] ?_; intro r hr) | refine d2 ?_ ?_ <;> intro h)
    all_goals refine hJ _ _ ?_ (Le.g [] [] [4, 0, 1, 2])
    all_goals (intro h0 h8; have := hr h8; first | omega | cases h0)
theorem typ_d (t : Ty) (ht : t.sm) : ∀ inner : Bool, FnD Tryz.prog Kn 483 3 [.bp 0 0, .agg (tyC t), B inner] (chkO l es ks) 3 (fun _ : Int => True) I64 (fun _ => chkO l es ks) := by
  induction t with
  | leaf k n => exact typ_b l es ks hk _ (Nat.zero_le _) fun i hi => absurd hi (Nat.not_lt_zero _)
  | mk k n len of ih => exact typ_b l es ks hk _ (Nat.le_trans ht.1 (by decide)) fun i _ => ih i (ht.2 i)
end Go.Proofs

/- Declarations checked: rows. -/
set_option linter.unusedSimpArgs false
set_option linter.unusedVariables false
set_option maxRecDepth 100000
namespace Go.Proofs
open Go.E
variable {Kn : IM}
noncomputable def seO (b : Nat) (tg : List (Int × Int)) (nm : Es) : List Ch := [.box b [.mp (b + 1), .mp (b + 2)], .map (b + 1) (mapT iK I64 tg), .map (b + 2) (mapT sK I64 nm)]
theorem row_d (tg : List (Int × Int)) (nm : Es) (t : Int) (s : List UInt8) (a b : Int) : FnD Tryz.prog Kn 446 3 [.bp 0 0, I64 t, .s s, I64 a, I64 b] (seO 0 tg nm) 3 (fun _ : Int × List (Int × Int) × Es => True) (fun r => I64 r.1) (fun r => seO 0 r.2.1 r.2.2) := by
  refine go Tryz.func446 ?_
  repeat' (first | refine d1 ?_ | refine dm ?_ | exact dEO (_, _, _) [0, 1, 2] | refine d2 ?_ ?_ <;> intro h)
variable (l : Arr De) (es : Es) (ks : Arr Int) (hk : ∀ q ∈ es, 0 ≤ q.2 ∧ q.2 < ks.n)
include hk
theorem field_d (d : De) (f : Fl) (hf : f.ty.sm) : FnD Tryz.prog Kn 447 3 [.bp 0 0, .agg (deC d), .agg (flC f)] (chkO l es ks) 3 (fun _ : Int => True) I64 (fun _ => chkO l es ks) := by
  refine go Tryz.func447 ?_
  repeat' (first | refine d1 ?_ | exact dEO _ [0, 1, 2] | (refine dK (typ_d l es ks hk f.ty hf false) [0, 1, 2] [] ?_; rintro r -) | refine d2 ?_ ?_ <;> intro h)
theorem method_d (m : Me) : FnD Tryz.prog Kn 448 3 [.bp 0 0, .agg (meC m)] (chkO l es ks) 3 (fun _ : Int => True) I64 (fun _ => chkO l es ks) := by
  refine go Tryz.func448 ?_
  repeat refine d1 ?_
  refine dF 13 ?_
  refine dW (fun i : Nat => ⟨[(15, I64 i), (14, I64 2), (13, .sl 2 1 (fun i => [.s (if i = 0 then m.inn else m.out)])), (0, .bp 0 0)], chkO l es ks, [0, 1, 2]⟩) (fun i => i ≤ 2) (fun i => 2 - i) 0 (Nat.zero_le _) (Le.g [] [] [0, 1, 2]) ?_
  intro i hi J hJ
  dsimp only at hi ⊢
  repeat' (first | refine d1 ?_ | exact dEO _ [0, 1, 2] | exact hJ (i + 1) _ (by omega) (by omega) (Le.g [] [] [0, 1, 2]) | (refine dK (nKind_d es ks _ hk) [1, 2] [] ?_; rintro r -) | (refine dK (nFind_d es ks _) [1, 2] [] ?_; rintro _ rfl) | refine d2 ?_ ?_ <;> intro h)
end Go.Proofs

/- Declarations checked: a declaration. -/
set_option linter.unusedSimpArgs false
set_option linter.unusedVariables false
set_option maxRecDepth 100000
namespace Go.Proofs
open Go.E
variable {Kn : IM}
structure DeOK (d : De) : Prop where
  fs : d.fs.n ≤ 2000
  ms : d.ms.n ≤ 2000
  ty : ∀ i, (d.fs.f i).ty.sm
variable (l : Arr De) (hl : l.n ≤ 100) (hd : ∀ i, DeOK (l.f i)) (es : Es) (ks : Arr Int) (hk : ∀ q ∈ es, 0 ≤ q.2 ∧ q.2 < ks.n)
include hl hd hk
theorem decl_d (j : Nat) (hj : j < l.n) : FnD Tryz.prog Kn 383 3 [.bp 0 0, I64 j] (chkO l es ks) 3 (fun _ : Int => True) I64 (fun _ => chkO l es ks) := by
  have _ := hl
  have ho := hd j
  refine go Tryz.func383 ?_
  repeat' (first | refine d1 ?_ | (refine dK (nFind_d es ks _) [1, 2] [] ?_; rintro _ rfl))
  refine d2 ?_ ?_ <;> intro h
  · repeat refine d1 ?_
    exact dEO _ [0, 1, 2]
  iterate 4 refine d1 ?_
  refine dJ (fun q : Int × Int => ⟨[(8, I64 q.1), (9, I64 q.2), (5, .bp 5 0), (0, .bp 0 0)], .box 5 (deC (l.f j)) :: chkO l es ks, [5, 0, 1, 2]⟩) (fun _ => True) ?_ ?_
  · rintro ⟨a, b⟩ -
    repeat refine d1 ?_
    refine dMm iK I64 ?_
    refine dMm sK I64 ?_
    repeat refine d1 ?_
    refine dW (fun q : Nat × List (Int × Int) × Es => ⟨[(54, I64 q.1), (53, I64 (l.f j).fs.n), (52, SL 5 flC (l.f j).fs), (10, .bp 1000 0), (8, I64 a), (9, I64 b), (5, .bp 5 0), (0, .bp 0 0)], .box 5 (deC (l.f j)) :: (seO 1000 q.2.1 q.2.2 ++ chkO l es ks), [5, 1000, 1001, 1002, 0, 1, 2]⟩) (fun q => q.1 ≤ (l.f j).fs.n) (fun q => (l.f j).fs.n - q.1) (0, [], []) (Nat.zero_le _) (Le.g [] [(1000, 50), (1001, 47), (1002, 48)] [5, 50, 47, 48, 0, 1, 2]) ?_
    rintro ⟨i, tg, nm⟩ hi J hJ
    have := ho.fs
    dsimp only at hi ⊢
    repeat' (first | refine d1 ?_ | exact dEO _ [0, 1, 2] | (refine dK (row_d tg nm _ _ a b) [1000, 1001, 1002] [] ?_; rintro ⟨r, tg', nm'⟩ -) | (refine dK (field_d l es ks hk (l.f j) ((l.f j).fs.f i) (ho.ty i)) [0, 1, 2] [] ?_; rintro r -) | exact hJ (i + 1, _, _) _ (by dsimp only; omega) (by dsimp only; omega) (Le.g [] [] [5, 1000, 1001, 1002, 0, 1, 2]) | refine d2 ?_ ?_ <;> intro h)
    refine dW (fun q : Nat × List (Int × Int) × Es => ⟨[(80, I64 q.1), (79, I64 (l.f j).ms.n), (78, SL 5 meC (l.f j).ms), (10, .bp 1000 0), (8, I64 a), (9, I64 b), (5, .bp 5 0), (0, .bp 0 0)], .box 5 (deC (l.f j)) :: (seO 1000 q.2.1 q.2.2 ++ chkO l es ks), [5, 1000, 1001, 1002, 0, 1, 2]⟩) (fun q => q.1 ≤ (l.f j).ms.n) (fun q => (l.f j).ms.n - q.1) (0, _, _) (Nat.zero_le _) (Le.g [] [] [5, 1000, 1001, 1002, 0, 1, 2]) ?_
    rintro ⟨i, tg, nm⟩ hi J hJ
    have := ho.ms
    dsimp only at hi ⊢
    repeat' (first | refine d1 ?_ | exact dEO _ [0, 1, 2] | (refine dK (row_d tg nm _ _ a b) [1000, 1001, 1002] [] ?_; rintro ⟨r, tg', nm'⟩ -) | (refine dK (method_d l es ks hk ((l.f j).ms.f i)) [0, 1, 2] [] ?_; rintro r -) | exact hJ (i + 1, _, _) _ (by dsimp only; omega) (by dsimp only; omega) (Le.g [] [] [5, 1000, 1001, 1002, 0, 1, 2]) | refine d2 ?_ ?_ <;> intro h)
  · intro J hJ
    repeat' (first | refine d1 ?_ | exact dEO _ [0, 1, 2] | exact hJ (_, _) _ trivial (Le.g [] [] [5, 0, 1, 2]) | refine d2 ?_ ?_ <;> intro h)
end Go.Proofs

/- Declarations checked: all of them. -/
set_option linter.unusedSimpArgs false
set_option linter.unusedVariables false
set_option maxRecDepth 100000
namespace Go.Proofs
open Go.E
variable {Kn : IM}
def bC (b : Bool) : List AV := [B b]
section
variable (l : Arr De) (hl : l.n ≤ 100) (hd : ∀ i, DeOK (l.f i)) (es : Es) (ks : Arr Int) (hk : ∀ q ∈ es, 0 ≤ q.2 ∧ q.2 < ks.n) (kn : Arr Bool) (hn : kn.n = ks.n)
include hk hn
theorem fine_d (t : Ty) : FnD Tryz.prog Kn 484 6 [.agg (tyC t), .bp 4 0, .bp 5 0] (chkO l es ks ++ [VEC 3 1 bC kn, .box 4 [.bp 0 0], .box 5 [.own 3 1 0 kn.n]]) 6 (fun _ : Bool => True) B (fun _ => chkO l es ks ++ [VEC 3 1 bC kn, .box 4 [.bp 0 0], .box 5 [.own 3 1 0 kn.n]]) := by
  refine go Tryz.func484 ?_
  repeat' (first | refine d1 ?_ | exact dEO _ [0, 1, 2, 3, 4, 5] | (refine dK (nFind_d es ks _) [1, 2] [] ?_; rintro _ rfl) | (have hh := lk_get (p := fun x : Int => 0 ≤ x ∧ x < ks.n) (d := 0) (k := t.n) hk (by assumption); refine dG (fun _ => rfl) (by dsimp only; omega) ?_) | refine d2 ?_ ?_ <;> intro h)
include hd
theorem finite_d (d : De) (ho : DeOK d) : FnD Tryz.prog Kn 449 4 [.bp 0 0, .agg (deC d), .own 3 1 0 kn.n] (chkO l es ks ++ [VEC 3 1 bC kn]) 4 (fun _ : Bool => True) B (fun _ => chkO l es ks ++ [VEC 3 1 bC kn]) := by
  have _ := hd
  have := ho.fs
  refine go Tryz.func449 ?_
  repeat' (first | refine d1 ?_ | exact dEO _ [0, 1, 2, 3] | refine d2 ?_ ?_ <;> intro h)
  all_goals
    refine dW (fun i : Nat => ⟨[(22, I64 i), (21, I64 d.fs.n), (20, SL 5 flC d.fs), (7, .clo (.func 484) [] [.bp 1004 0, .bp 1005 0]), (4, .bp 1003 0)], .box 1003 (deC d) :: (chkO l es ks ++ [VEC 3 1 bC kn, .box 1004 [.bp 0 0], .box 1005 [.own 3 1 0 kn.n]]), [1003, 0, 1, 2, 3, 1004, 1005]⟩) (fun i => i ≤ d.fs.n) (fun i => d.fs.n - i) 0 (Nat.zero_le _) (Le.g [] [(1003, 4), (1004, 903), (1005, 5)] [4, 0, 1, 2, 3, 903, 5]) ?_
    intro i hi J hJ
    dsimp only at hi ⊢
    repeat' (first | refine d1 ?_ | exact dEO _ [0, 1, 2, 3] | (refine dK (fine_d l es ks hk kn hn (d.fs.f i).ty) [0, 1, 2, 3, 1004, 1005] [] ?_; rintro r -) | exact hJ (i + 1) _ (by omega) (by omega) (Le.g [] [] [1003, 0, 1, 2, 3, 1004, 1005]) | refine d2 ?_ ?_ <;> intro h)
end
end Go.Proofs

/- Declarations checked: Finite, Check. -/
set_option linter.unusedSimpArgs false
set_option linter.unusedVariables false
set_option maxRecDepth 100000
namespace Go.Proofs
open Go.E
variable {Kn : IM}
def cntF (k : Arr Bool) : Nat := ((List.range k.n).filter fun i => !(k.f i)).length
theorem cntF_upd {k : Arr Bool} {i : Nat} (hi : i < k.n) (h : k.f i = false) : cntF (k.upd i true) < cntF k := by
  unfold cntF
  have h1 : ((List.range k.n).filter fun q => !((k.upd i true).f q)) = ((List.range k.n).filter fun q => !(k.f q)).filter fun q => !(decide (q = i)) := by
    rw [List.filter_filter]
    refine List.filter_congr fun q _ => ?_
    simp only [Arr.upd]
    by_cases hq : q = i <;> simp [hq]
  show ((List.range k.n).filter fun q => !((k.upd i true).f q)).length < _
  rw [h1]
  exact List.length_filter_lt_length_iff_exists.2 ⟨i, by simp [hi, h], by simp⟩
theorem Finite_d (l : Arr De) (hl : l.n ≤ 100) (hd : ∀ i, DeOK (l.f i)) : FnD Tryz.prog Kn 384 0 [SL 5 deC l] [] 0 (fun r : Arr Bool => r.n = l.n) (SL 1 bC) (fun _ => []) := by
  refine go Tryz.func384 ?_
  repeat refine d1 ?_
  refine dK (nOf_d l hl) [] [1001, 1002] ?_
  rintro ⟨es, ks⟩ ⟨h1, h2⟩
  dsimp only at h1 h2
  repeat refine d1 ?_
  refine dMs Tryz.tabOK ?_
  repeat refine d1 ?_
  refine dW (fun k : Arr Bool => ⟨[(0, SL 5 deC l), (3, .bp 1000 0), (4, .own 1003 1 0 k.n)], chkO' 1000 l es ks ++ [VEC 1003 1 bC k], [1000, 1001, 1002, 1003]⟩) (fun k => k.n = l.n) cntF ⟨l.n, fun _ => false⟩ rfl (Le.g [] [(1000, 11), (1003, 14)] [11, 1001, 1002, 14]) ?_
  intro k hk J hJ
  repeat refine d1 ?_
  refine dW (fun i : Nat => ⟨[(17, I64 i), (16, I64 l.n), (15, SL 5 deC l), (0, SL 5 deC l), (3, .bp 1000 0), (4, .own 1003 1 0 k.n)], chkO' 1000 l es ks ++ [VEC 1003 1 bC k], [1000, 1001, 1002, 1003]⟩) (fun i => i ≤ l.n) (fun i => l.n - i) 0 (Nat.zero_le _) (Le.g [] [] [1000, 1001, 1002, 1003]) ?_
  intro i hi J2 hJ2
  dsimp only at hi ⊢
  repeat' (first | refine d1 ?_ | (refine dK (finite_d l hd es ks (h1 ▸ h2) k (hk.trans h1.symm) (l.f i) (hd i)) [1000, 1001, 1002, 1003] [] ?_; rintro r -) | exact hJ2 (i + 1) _ (by omega) (by omega) (Le.g [] [] [1000, 1001, 1002, 1003]) | refine d2 ?_ ?_ <;> intro h)
  · exact hJ (k.upd i true) _ hk (cntF_upd (by omega) (by simp_all)) (Le.g [] [] [1000, 1001, 1002, 1003])
  · refine dFe 1003 ?_
    exact dEL k hk rfl rfl
end Go.Proofs

/- Declarations checked: Check. -/
set_option linter.unusedSimpArgs false
set_option linter.unusedVariables false
set_option maxRecDepth 100000
namespace Go.Proofs
open Go.E
variable {Kn : IM}
theorem Check_d (l : Arr De) (hl : l.n ≤ 100) (hd : ∀ i, DeOK (l.f i)) : FnD Tryz.prog Kn 318 0 [SL 5 deC l] [] 0 (fun _ : Int × Int => True) (fun r => .agg [I64 r.1, I64 r.2]) (fun _ => []) := by
  refine go Tryz.func318 ?_
  repeat refine d1 ?_
  refine dK (nOf_d l hl) [] [1001, 1002] ?_
  rintro ⟨es, ks⟩ ⟨h1, h2⟩
  dsimp only at h1 h2
  repeat refine d1 ?_
  refine dW (fun i : Nat => ⟨[(16, I64 i), (15, I64 l.n), (14, SL 5 deC l), (0, SL 5 deC l), (3, .bp 1000 0), (2, .bp 2 0)], .box 2 [I64 0, I64 0] :: chkO' 1000 l es ks, [2, 1000, 1001, 1002]⟩) (fun i => i ≤ l.n) (fun i => l.n - i) 0 (Nat.zero_le _) (Le.g [] [(1000, 13)] [2, 13, 1001, 1002]) ?_
  intro i hi J hJ
  dsimp only at hi ⊢
  repeat' (first | refine d1 ?_ | exact dEL (_, _) trivial rfl rfl | (refine dK (decl_d l hl hd es ks (h1 ▸ h2) i (by omega)) [1000, 1001, 1002] [] ?_; rintro r -) | exact hJ (i + 1) _ (by omega) (by omega) (Le.g [] [] [2, 1000, 1001, 1002]) | (refine dK (Finite_d l hl hd) [] [] ?_; intro k hk) | refine d2 ?_ ?_ <;> intro h)
  refine dW (fun i : Nat => ⟨[(34, I64 i), (33, I64 k.n), (32, SL 1 bC k), (0, SL 5 deC l), (2, .bp 2 0)], [.box 2 [I64 0, I64 0]], [2]⟩) (fun i => i ≤ k.n) (fun i => k.n - i) 0 (Nat.zero_le _) (Le.g [] [] [2]) ?_
  intro i hi J hJ
  dsimp only at hi hk ⊢
  repeat' (first | refine d1 ?_ | exact dEL (_, _) trivial rfl rfl | exact hJ (i + 1) _ (by omega) (by omega) (Le.g [] [] [2]) | refine d2 ?_ ?_ <;> intro h)
end Go.Proofs

/- Copies of declarations. -/
set_option linter.unusedSimpArgs false
set_option linter.unusedVariables false
set_option maxRecDepth 100000
namespace Go.Proofs
open Go.E
variable {Kn : IM}
theorem own_b (t : Ty) (ht : t.len ≤ 100) (ih : ∀ i, i < t.len → FnD Tryz.prog Kn 197 0 [.agg (tyC (t.kid i))] [] 0 (fun _ : Unit => True) (fun _ => .agg (tyC (t.kid i))) (fun _ => [])) :
    FnD Tryz.prog Kn 197 0 [.agg (tyC t)] [] 0 (fun _ : Unit => True) (fun _ => .agg (tyC t)) (fun _ => []) := by
  refine go Tryz.func197 ?_
  repeat refine d1 ?_
  refine dW (fun i : Nat => ⟨[(14, I64 i), (13, I64 t.len), (12, .sl t.len 3 t.row), (3, .bp 3 0), (2, .bp 2 0)], [.box 2 [I64 0, .s [], NIL], .box 3 [I64 t.k, .s t.n, .own 1001 3 0 i], Ch.vec 1001 3 i (fun q => tyC (t.kid q))], [2, 3, 1001]⟩) (fun i => i ≤ t.len) (fun i => t.len - i) 0 (Nat.zero_le _) (Le.g [(1001, 3)] [] [2, 3, 1001]) ?_
  intro i hi J hJ
  dsimp only at hi ⊢
  repeat' (first | refine d1 ?_ | rw [row_int (by omega)] | (refine dK (ih i (by omega)) [] [] ?_; rintro r -) | refine d2 ?_ ?_ <;> intro h)
  · exact hJ (i + 1) _ (by omega) (by omega) (Le.g [] [(1001, 23)] [2, 3, 23])
  · obtain rfl : i = t.len := by omega
    refine dFe 1001 ?_
    refine dT ⟨[(2, .bp 2 0)], [.box 2 (tyC t)], [2]⟩ (Le.g [] [] [2] (hc := by exact ⟨CI.box ⟨RI.refl, RI.refl, RI.sl rfl (fun i hi => (row_eq hi).symm), trivial⟩, trivial⟩)) ?_
    exact dEL () trivial rfl rfl
theorem own_d (t : Ty) (ht : t.sm) : FnD Tryz.prog Kn 197 0 [.agg (tyC t)] [] 0 (fun _ : Unit => True) (fun _ => .agg (tyC t)) (fun _ => []) := by
  induction t with
  | leaf k n => exact own_b _ (Nat.zero_le _) fun i hi => absurd hi (Nat.not_lt_zero _)
  | mk k n len of ih => exact own_b _ (Nat.le_trans ht.1 (by decide)) fun i _ => ih i (ht.2 i)
end Go.Proofs

/- Copies of declarations: fields, declarations. -/
set_option linter.unusedSimpArgs false
set_option linter.unusedVariables false
set_option maxRecDepth 100000
namespace Go.Proofs
open Go.E
variable {Kn : IM}
theorem fields_d (l : Arr Fl) (hl : l.n ≤ 2000) (hf : ∀ i, (l.f i).ty.sm) : FnD Tryz.prog Kn 153 0 [SL 5 flC l] [] 0 (fun _ : Unit => True) (fun _ => SL 5 flC l) (fun _ => []) := by
  refine go Tryz.func153 ?_
  repeat refine d1 ?_
  refine dW (fun i : Nat => ⟨[(8, I64 i), (7, I64 l.n), (6, SL 5 flC l), (3, .own 1001 5 0 i)], [.vec 1001 5 i (fun q => flC (l.f q))], [1001]⟩) (fun i => i ≤ l.n) (fun i => l.n - i) 0 (Nat.zero_le _) (Le.g [(1001, 5)] [] [1001]) ?_
  intro i hi J hJ
  dsimp only at hi ⊢
  repeat' (first | refine d1 ?_ | (refine dK (own_d (l.f i).ty (hf i)) [] [] ?_; rintro r -) | refine d2 ?_ ?_ <;> intro h)
  · exact hJ (i + 1) _ (by omega) (by omega) (Le.g [] [(1001, 19)] [19])
  · obtain rfl : i = l.n := by omega
    refine dFe 1001 ?_
    exact dEL () trivial rfl rfl
theorem nilN {nv : List (Nat × Nat)} {n e : Nat} {row : Nat → List AV} (h : n = 0) : RI nv (.v (.slice none 0 0)) (.sl n e row) := by subst h; exact RI.nil
theorem clone_d (l : Arr Me) (hl : l.n ≤ 2000) : FnD Tryz.prog Kn 154 0 [SL 5 meC l] [] 0 (fun _ : Unit => True) (fun _ => SL 5 meC l) (fun _ => []) := by
  refine go Tryz.func154 ?_
  iterate 5 refine d1 ?_
  refine dNil () fun v hv => ?_
  repeat refine d1 ?_
  refine d2 ?_ ?_ <;> intro h
  · repeat refine d1 ?_
    refine dT ⟨[(2, SL 5 meC l)], [], []⟩ (Le.g [] [] [] (hs := by exact ⟨⟨_, rfl, nilN (hv h)⟩, trivial⟩)) ?_
    exact dEL () rfl rfl rfl
  · repeat refine d1 ?_
    refine dB0 Tryz.tabOK ?_
    repeat refine d1 ?_
    refine dFe 7 ?_
    refine dT ⟨[(2, SL 5 meC l)], [], []⟩ (Le.g [] [] [] (hs := by exact ⟨⟨_, rfl, RI.sl (Nat.zero_add _) (fun i _ => by simp [appRow])⟩, trivial⟩)) ?_
    exact dEL () rfl rfl rfl
theorem decls_d (l : Arr De) (hl : l.n ≤ 100) (hd : ∀ i, DeOK (l.f i)) : FnD Tryz.prog Kn 105 0 [SL 5 deC l] [] 0 (fun _ : Unit => True) (fun _ => SL 5 deC l) (fun _ => []) := by
  refine go Tryz.func105 ?_
  repeat refine d1 ?_
  refine dW (fun i : Nat => ⟨[(8, I64 i), (7, I64 l.n), (6, SL 5 deC l), (3, .own 1001 5 0 i)], [.vec 1001 5 i (fun q => deC (l.f q))], [1001]⟩) (fun i => i ≤ l.n) (fun i => l.n - i) 0 (Nat.zero_le _) (Le.g [(1001, 5)] [] [1001]) ?_
  intro i hi J hJ
  have ho := hd i
  dsimp only at hi ⊢
  repeat' (first | refine d1 ?_ | (refine dK (fields_d (l.f i).fs ho.fs ho.ty) [] [] ?_; rintro r -) | (refine dK (clone_d (l.f i).ms ho.ms) [] [] ?_; rintro r -) | refine d2 ?_ ?_ <;> intro h)
  · exact hJ (i + 1) _ (by omega) (by omega) (Le.g [] [(1001, 23)] [23])
  · obtain rfl : i = l.n := by omega
    refine dFe 1001 ?_
    exact dEL () trivial rfl rfl
end Go.Proofs

/- Descriptors. -/
set_option linter.unusedSimpArgs false
set_option linter.unusedVariables false
set_option maxRecDepth 100000
namespace Go.Proofs
open Go.E
variable {Kn : IM}
theorem Of_d (l : Arr De) (hl : l.n ≤ 100) (hd : ∀ i, DeOK (l.f i)) : FnD Tryz.prog Kn 263 0 [SL 5 deC l] [] 1 (fun r : Option (Int × Int) => ∀ p, r = some p → p.1 ≠ 0)
    (fun r => match r with
      | none => .tup [.bp 0 0, .agg [I64 0, I64 0]]
      | some p => .tup [.v (.pointer none), .agg [I64 p.1, I64 p.2]]) (fun r => match r with
      | none => [.box 0 [SL 5 deC l, .v (.int .u32 0), .v (.int .i32 0), .v (.int .u32 0), .v (.pointer none), .v (.map none)]]
      | some _ => []) := by
  refine go Tryz.func263 ?_
  repeat' (first | refine d1 ?_ | (refine dK (Check_d l hl hd) [] [] ?_; rintro ⟨e, a⟩ -) | (refine dK (decls_d l hl hd) [] [] ?_; rintro r -) | refine d2 ?_ ?_ <;> intro h)
  · exact dEO (some (e, a)) [999] (hp := fun p hp => by cases hp; exact h)
  · exact dEO none [14] (hp := fun p hp => by cases hp)
end Go.Proofs

/- Words. -/
set_option linter.unusedSimpArgs false
set_option linter.unusedVariables false
set_option maxRecDepth 100000
namespace Go.Proofs
open Go.E
variable {Kn : IM}
structure Tk where
  kind : Int
  text : List UInt8
  num : Int
  at_ : Int
def tkC (t : Tk) : List AV := [I64 t.kind, .s t.text, I64 t.num, I64 t.at_]
def letF (c : Int) : Bool := decide (97 ≤ c ∧ c ≤ 122 ∨ 65 ≤ c ∧ c ≤ 90)
def digF (c : Int) : Bool := decide (48 ≤ c ∧ c ≤ 57)
def innF (c : Int) : Bool := letF c || digF c || decide (c = 95)
def nteF (c : Int) : Bool := decide (c ≠ 10)
theorem letter_d (c : Int) : FnD Tryz.prog Kn 439 0 [U8 c] [] 0 (fun r : Bool => r = letF c) B (fun _ => []) := by
  refine go Tryz.func439 ?_
  repeat' (first | refine d1 ?_ | refine d2 ?_ ?_ <;> intro h)
  all_goals exact dEL _ (by simp only [letF]; by_cases 97 ≤ c <;> by_cases c ≤ 122 <;> by_cases 65 ≤ c <;> by_cases c ≤ 90 <;> simp_all <;> omega) rfl rfl
theorem digit_d (c : Int) : FnD Tryz.prog Kn 441 0 [U8 c] [] 0 (fun r : Bool => r = digF c) B (fun _ => []) := by
  refine go Tryz.func441 ?_
  repeat' (first | refine d1 ?_ | refine d2 ?_ ?_ <;> intro h)
  all_goals exact dEL _ (by simp only [digF]; by_cases 48 ≤ c <;> by_cases c ≤ 57 <;> simp_all) rfl rfl
theorem inner_d (c : Int) : FnD Tryz.prog Kn 479 0 [U8 c] [] 0 (fun r : Bool => r = innF c) B (fun _ => []) := by
  refine go Tryz.func479 ?_
  repeat' (first | refine d1 ?_ | (refine dK (letter_d _) [] [] ?_; rintro _ rfl) | (refine dK (digit_d _) [] [] ?_; rintro _ rfl) | refine d2 ?_ ?_ <;> intro h)
  all_goals exact dEL _ (by first | (simp_all [innF, letF, digF]; done) | (unfold innF; rw [show letF c = false from decide_eq_false h]; simp [digF])) rfl rfl
theorem note1_d (c : Int) : FnD Tryz.prog Kn 480 0 [U8 c] [] 0 (fun r : Bool => r = nteF c) B (fun _ => []) := by
  refine go Tryz.func480 ?_
  repeat' (first | refine d1 ?_)
  all_goals exact dEL _ (by simp_all [nteF]) rfl rfl
theorem put_d (s : List UInt8) (at_ : Int) (ts : Arr Tk) (hts : ts.n ≤ 100000) (k n a : Int) (t : List UInt8) : FnD Tryz.prog Kn 372 2 [.bp 0 0, I64 k, .s t, I64 n, I64 a] [.box 0 [.s s, I64 at_, .own 1 4 0 ts.n], VEC 1 4 tkC ts] 3 (fun _ : Unit => True) (fun _ => .tup []) (fun _ => [.box 0 [.s s, I64 at_, .own 2 4 0 (ts.push ⟨k, t, n, a⟩).n], VEC 2 4 tkC (ts.push ⟨k, t, n, a⟩)]) := by
  refine go Tryz.func372 ?_
  repeat refine d1 ?_
  refine dT ⟨[], [.box 0 [.s s, I64 at_, .own 2000 4 0 (ts.push ⟨k, t, n, a⟩).n], VEC 2000 4 tkC (ts.push ⟨k, t, n, a⟩)], [0, 1, 2000]⟩ (Le.g [] [(2000, 21)] [0, 21]) ?_
  exact dEO () [0, 1, 2000]
end Go.Proofs

/- Words: runs of bytes. -/
set_option linter.unusedSimpArgs false
set_option linter.unusedVariables false
set_option maxRecDepth 100000
namespace Go.Proofs
open Go.E
variable {Kn : IM}
def byI (s : List UInt8) (i : Nat) : Int := (s.getD i 0).toNat
/-- Where a run of bytes from i on ends. -/
structure RunTo (p : Int → Bool) (s : List UInt8) (i j : Nat) : Prop where
  le : i ≤ j
  len : j ≤ s.length
  all : ∀ q, i ≤ q → q < j → p (byI s q) = true
  stop : j < s.length → p (byI s j) = false
/-- A lexer's cells. -/
abbrev lxC (s : List UInt8) (i : Nat) (ts : Arr Tk) : List Ch := [.box 0 [.s s, I64 i, .own 1 4 0 ts.n], VEC 1 4 tkC ts]
theorem while_d (f : Nat) (p : Int → Bool) (F : ∀ c : Int, FnD Tryz.prog Kn f 0 [U8 c] [] 0 (fun r : Bool => r = p c) B (fun _ => [])) (s : List UInt8) (i : Nat) (hi : i ≤ s.length) (hs : s.length ≤ 100000) (ts : Arr Tk) :
    FnD Tryz.prog Kn 478 2 [.bp 0 0, .v (.func (.func f) ⟨[]⟩ ⟨[]⟩)] (lxC s i ts) 2 (RunTo p s i) (fun j => .s ((s.drop i).take (j - i))) (fun j => lxC s j ts) := by
  refine go Tryz.func478 ?_
  repeat refine d1 ?_
  refine dW (fun j : Nat => ⟨[(5, I64 i), (0, .bp 0 0), (1, .v (.func (.func f) ⟨[]⟩ ⟨[]⟩))], lxC s j ts, [0, 1]⟩) (fun j => i ≤ j ∧ j ≤ s.length ∧ ∀ q, i ≤ q → q < j → p (byI s q) = true) (fun j => s.length - j) i ⟨Nat.le_refl _, hi, fun q h1 h2 => absurd h1 (by omega)⟩ (Le.g [] [] [0, 1]) ?_
  intro j hj J hJ
  obtain ⟨h1, h2, h3⟩ := hj
  dsimp only
  repeat refine d1 ?_
  refine d2 ?_ ?_ <;> intro h <;> repeat refine d1 ?_
  · refine dK (F _) [] [] ?_ (ha := argsW_of (by rfl))
    rintro _ rfl
    repeat refine d1 ?_
    refine d2 ?_ ?_ <;> intro h <;> repeat refine d1 ?_
    · exact hJ (j + 1) _ ⟨by omega, by omega, fun q q1 q2 => by
        by_cases hq : q = j
        · subst hq; exact h
        · exact h3 q q1 (by omega)⟩ (by omega) (Le.g [] [] [0, 1])
    · exact dEO j [0, 1] (hp := ⟨h1, h2, h3, fun _ => by simpa [byI] using h⟩)
  · exact dEO j [0, 1] (hp := ⟨h1, h2, h3, fun h5 => absurd h5 (by omega)⟩)
end Go.Proofs

/- Words: one after the other. -/
set_option linter.unusedSimpArgs false
set_option linter.unusedVariables false
set_option maxRecDepth 100000
namespace Go.Proofs
open Go.E
variable {Kn : IM}
/-- What a step of the lexer gives: fault, place, whether a token came, which. -/
structure Lx where
  e : Int
  j : Nat
  b : Bool
  t : Tk
def Lx.ts (r : Lx) (ts : Arr Tk) : Arr Tk := match r.b with
  | true => ts.push r.t
  | false => ts
def Lx.C (r : Lx) (s : List UInt8) (ts : Arr Tk) : List Ch := match r.b with
  | true => [.box 0 [.s s, I64 r.j, .own 2 4 0 (ts.push r.t).n], VEC 2 4 tkC (ts.push r.t)]
  | false => lxC s r.j ts
structure Lx.OK (s : List UInt8) (i : Nat) (r : Lx) : Prop where
  le : r.j ≤ s.length
  lt : r.e = 0 → i < r.j
  tx : r.t.text.length ≤ 1024
section
variable (s : List UInt8) (i : Nat) (hi : i < s.length) (hs : s.length ≤ 1024) (ts : Arr Tk) (hts : ts.n ≤ 2000)
include hi hs hts
theorem word_d (h : letF (byI s i) = true) : FnD Tryz.prog Kn 440 2 [.bp 0 0] (lxC s i ts) 3 (Lx.OK s i) (fun r => I64 r.e) (fun r => r.C s ts) := by
  refine go Tryz.func440 ?_
  repeat refine d1 ?_
  refine dK (while_d 479 innF (fun c => inner_d c) s i (by omega) (by omega) ts) [0, 1] [] ?_
  intro j hj
  have h3 : i < j := by
    rcases Nat.lt_or_ge i j with h4 | h4
    · exact h4
    · have h5 := hj.stop (by have := hj.le; omega)
      have h6 := hj.le
      rw [show j = i by omega] at h5
      simp [innF, h] at h5
  have h7 := hj.len
  repeat' (first | refine d1 ?_ | refine d2 ?_ ?_ <;> intro h | (refine dK (put_d s j ts (by omega) _ _ _ _) [0, 1] [1002] ?_; rintro r -))
  · exact dEO ⟨6, j, false, ⟨0, [], 0, 0⟩⟩ [0, 1, 1002] (hp := ⟨h7, fun h => absurd h (by simp), Nat.zero_le _⟩)
  · exact dEO ⟨0, j, true, ⟨1, (s.drop i).take (j - i), 0, i⟩⟩ [0, 1, 1002] (hp := ⟨h7, fun _ => h3, by simp; omega⟩)
theorem number_d (h : digF (byI s i) = true) : FnD Tryz.prog Kn 442 2 [.bp 0 0] (lxC s i ts) 3 (Lx.OK s i) (fun r => I64 r.e) (fun r => r.C s ts) := by
  refine go Tryz.func442 ?_
  repeat refine d1 ?_
  refine dK (while_d 441 digF (fun c => digit_d c) s i (by omega) (by omega) ts) [0, 1] [] ?_
  intro j hj
  have h3 : i < j := by
    rcases Nat.lt_or_ge i j with h4 | h4
    · exact h4
    · have h5 := hj.stop (by have := hj.le; omega)
      have h6 := hj.le
      rw [show j = i by omega] at h5
      rw [h] at h5; cases h5
  have h7 := hj.len
  generalize hw : (s.drop i).take (j - i) = w
  have hwl : w.length ≤ 1024 := by rw [← hw]; simp; omega
  repeat' (first | exact dEO ⟨1, j, false, ⟨0, [], 0, 0⟩⟩ [0, 1, 1002] (hp := ⟨h7, fun h => absurd h (by simp), Nat.zero_le _⟩) | exact dEO ⟨3, j, false, ⟨0, [], 0, 0⟩⟩ [0, 1, 1002] (hp := ⟨h7, fun h => absurd h (by simp), Nat.zero_le _⟩) | refine d1 ?_ | refine d2 ?_ ?_ <;> intro h)
  all_goals
    refine dW (fun q : Nat × Int => ⟨[(28, I64 q.1), (27, I64 w.length), (5, I64 q.2), (4, .s w), (3, I64 i), (0, .bp 0 0)], lxC s j ts, [0, 1]⟩) (fun q => q.1 ≤ w.length) (fun q => w.length - q.1) (0, 0) (Nat.zero_le _) (Le.g [] [] [0, 1]) ?_
    rintro ⟨q, n⟩ hq J hJ
    dsimp only at hq ⊢
    repeat' (first | exact hJ (q + 1, _) _ (by dsimp only; omega) (by dsimp only; omega) (Le.g [] [] [0, 1]) | refine d1 ?_ | (refine dK (put_d s j ts (by omega) _ _ _ _) [0, 1] [1002] ?_; rintro r -) | refine d2 ?_ ?_ <;> intro h)
    all_goals exact dEO ⟨0, j, true, ⟨2, w, n, i⟩⟩ [0, 1, 1002] (hp := ⟨h7, fun _ => h3, hwl⟩)
end
end Go.Proofs

/- The kit's contracts of library functions at this seat, as its tool lay-plain wrote them; remarks are struck. -/
namespace Go.Proofs
open Go.Shelf

def Tryz.lays137_ren : Go.Shelf.Ren := ⟨fun | 137 => 308 | 217 => 370 | 266 => 438 | n => n, fun | 9 => 9 | 5 => 5 | 3 => 3 | n => n, fun | n => n⟩
theorem Tryz.lays137 : Go.Proofs.Lays.n137 Tryz.prog Tryz.lays137_ren := {
  mixed := by kernel_rfl
  f137 := Tryz.func308.trans (congrArg some (by kernel_rfl))
  f217 := Tryz.func370.trans (congrArg some (by kernel_rfl))
  f266 := Tryz.func438.trans (congrArg some (by kernel_rfl))
  t3 := Tryz.underlying3
  a3 := Tryz.isAgg3
  z3 := Tryz.sizeOf3
  v3 := Tryz.zeroValue3
  t5 := Tryz.underlying5
  a5 := Tryz.isAgg5
  z5 := Tryz.sizeOf5
  v5 := Tryz.zeroValue5
  t9 := Tryz.underlying9
  a9 := Tryz.isAgg9
  z9 := Tryz.sizeOf9
  v9 := Tryz.zeroValue9 }
open Go.RowKit in
theorem Tryz.strings_IndexByte (s : ByteArray) (c : Int) (w : World) :
    Calls Tryz.prog 308 #[.string s, .int .u8 c] w fun e w' => e = .returned (.int .i64 (Lib.indexByte s.data.toList c.toNat.toUInt8)) ∧ w' = w := Any.strings_IndexByte Tryz.lays137 s c w

def Tryz.lays144_ren : Go.Shelf.Ren := ⟨fun | 144 => 481 | 143 => 503 | 219 => 515 | 217 => 370 | 225 => 311 | 224 => 310 | 267 => 528 | 266 => 438 | 314 => 537 | n => n, fun | 9 => 9 | 4 => 4 | 3 => 3 | 5 => 5 | 46 => 174 | 146 => 382 | 51 => 203 | n => n, fun | 1 => 5 | n => n⟩
theorem Tryz.lays144 : Go.Proofs.Lays.n144 Tryz.prog Tryz.lays144_ren := {
  mixed := by kernel_rfl
  f143 := Tryz.func503.trans (congrArg some (by kernel_rfl))
  f144 := Tryz.func481.trans (congrArg some (by kernel_rfl))
  f217 := Tryz.func370.trans (congrArg some (by kernel_rfl))
  f219 := Tryz.func515.trans (congrArg some (by kernel_rfl))
  f224 := Tryz.func310.trans (congrArg some (by kernel_rfl))
  f225 := Tryz.func311.trans (congrArg some (by kernel_rfl))
  f266 := Tryz.func438.trans (congrArg some (by kernel_rfl))
  f267 := Tryz.func528.trans (congrArg some (by kernel_rfl))
  f314 := Tryz.func537.trans (congrArg some (by kernel_rfl))
  t3 := Tryz.underlying3
  a3 := Tryz.isAgg3
  z3 := Tryz.sizeOf3
  v3 := Tryz.zeroValue3
  t4 := Tryz.underlying4
  a4 := Tryz.isAgg4
  z4 := Tryz.sizeOf4
  v4 := Tryz.zeroValue4
  t5 := Tryz.underlying5
  a5 := Tryz.isAgg5
  z5 := Tryz.sizeOf5
  v5 := Tryz.zeroValue5
  t9 := Tryz.underlying9
  a9 := Tryz.isAgg9
  z9 := Tryz.sizeOf9
  v9 := Tryz.zeroValue9
  t46 := Tryz.underlying174
  a46 := Tryz.isAgg174
  z46 := Tryz.sizeOf174
  v46 := Tryz.zeroValue174
  t51 := Tryz.underlying203
  a51 := Tryz.isAgg203
  z51 := Tryz.sizeOf203
  v51 := Tryz.zeroValue203
  t146 := Tryz.underlying382
  a146 := Tryz.isAgg382
  z146 := Tryz.sizeOf382
  v146 := Tryz.zeroValue382
  g1 := by kernel_rfl }
open Go.RowKit Go.Lib in
theorem Tryz.strings_Contains (s sub : ByteArray) (m : Int) (w : World) (hs : s.size < 4294967281) (hm : w.cell? ⟨5, 0, none⟩ = some (.int .i64 m)) :
    Calls Tryz.prog 481 #[.string s, .string sub] w fun e w' => e = .returned (.bool (Lib.contains s.data.toList sub.data.toList)) ∧ w' = w := Any.strings_Contains Tryz.lays144 s sub m w hs hm
end Go.Proofs

/- Words: what the library tells of texts; notes; one step. -/
set_option linter.unusedSimpArgs false
set_option linter.unusedVariables false
set_option maxRecDepth 100000
namespace Go.Proofs
open Go.E
variable {Kn : IM}
theorem IndexByte_d (s : List UInt8) (c : Nat) : FnD Tryz.prog Kn 308 0 [.s s, U8 c] [] 0 (fun r : Int => r = Lib.indexByte s c.toUInt8) I64 (fun _ => []) :=
  ⟨_, rfl, FnE.ofCalls (vs := [S s, .int .u8 c]) (v := .int .i64 (Lib.indexByte s c.toUInt8)) ⟨_, Tryz.func308, rfl, by decide⟩ (fun e cargs h => by simpa [RepT, Rep] using h) (fun e => by simp only [Rep]) fun w _ => by
    refine (Tryz.strings_IndexByte ⟨s.toArray⟩ c w).mono ?_
    rintro e w' ⟨rfl, rfl⟩
    exact ⟨rfl, .refl _ _⟩⟩
theorem Contains_d {m : Int} (hm : Kn 5 0 = some (.int .i64 m)) (s t : List UInt8) (hs : s.length < 4294967281) : FnD Tryz.prog Kn 481 0 [.s s, .s t] [] 0 (fun _ : Bool => True) B (fun _ => []) :=
  ⟨Lib.contains s t, trivial, FnE.ofCalls (vs := [S s, S t]) (v := .bool (Lib.contains s t)) ⟨_, Tryz.func481, rfl, by decide⟩ (fun e cargs h => by simpa [RepT, Rep] using h) (fun e => by simp only [Rep]) fun w hw => by
    refine (Tryz.strings_Contains ⟨s.toArray⟩ ⟨t.toArray⟩ m w (by simpa [ByteArray.size] using hs) (hw 5 0 _ hm)).mono ?_
    rintro e w' ⟨rfl, rfl⟩
    exact ⟨rfl, .refl _ _⟩⟩
theorem hasPrefix_d (s t : List UInt8) : FnD Tryz.prog Kn 232 0 [.s s, .s t] [] 0 (fun _ : Bool => True) B (fun _ => []) := goA Tryz.func232
theorem HasPrefix_d (s t : List UInt8) : FnD Tryz.prog Kn 181 0 [.s s, .s t] [] 0 (fun _ : Bool => True) B (fun _ => []) := by
  refine go Tryz.func181 ?_
  repeat' (first | refine d1 ?_ | (refine dK (hasPrefix_d _ _) [] [] ?_; rintro r -) | exact dEL _ trivial rfl rfl)
section
variable (s : List UInt8) (i : Nat) (hi : i < s.length) (hs : s.length ≤ 1024) (ts : Arr Tk) (hts : ts.n ≤ 2000)
include hi hs hts
theorem note_d (h : byI s i ≠ 10) : FnD Tryz.prog Kn 443 2 [.bp 0 0] (lxC s i ts) 2 (fun r : Option Nat => ∀ j, r = some j → i < j ∧ j ≤ s.length) (fun r => B r.isSome) (fun r => match r with
    | some j => lxC s j ts
    | none => lxC s i ts) := by
  have _ := hts
  refine go Tryz.func443 ?_
  repeat' (first | refine d1 ?_ | (refine dK (HasPrefix_d _ _) [] [] ?_; rintro r -))
  refine d2 ?_ ?_ <;> intro h2 <;> repeat refine d1 ?_
  · exact dEO none [0, 1] (hp := fun j hj => by cases hj)
  · refine dK (while_d 480 nteF (fun c => note1_d c) s i (by omega) (by omega) ts) [0, 1] [] ?_
    intro j hj
    repeat refine d1 ?_
    refine dEO (some j) [0, 1] (hp := fun q hq => ?_)
    cases hq
    refine ⟨?_, hj.len⟩
    rcases Nat.lt_or_ge i j with h4 | h4
    · exact h4
    · have h5 := hj.stop (by have := hj.le; omega)
      have h6 := hj.le
      rw [show j = i by omega] at h5
      simp [nteF, h] at h5
theorem one_d : FnD Tryz.prog Kn 371 2 [.bp 0 0] (lxC s i ts) 3 (Lx.OK s i) (fun r => I64 r.e) (fun r => r.C s ts) := by
  refine go Tryz.func371 ?_
  repeat refine d1 ?_
  refine dK (letter_d (byI s i)) [] [] ?_
  rintro r hr
  repeat refine d1 ?_
  cases r with
  | true =>
    repeat refine d1 ?_
    obtain ⟨⟨e, j, _ | _, t⟩, hq, hF⟩ := word_d (Kn := Kn) s i hi hs ts hts hr.symm
    all_goals
      refine dK hF.d [0, 1] [1002] ?_
      rintro r -
      repeat refine d1 ?_
      exact dEO ⟨e, j, _, t⟩ [0, 1, 1002]
  | false =>
    repeat refine d1 ?_
    refine dK (digit_d (byI s i)) [] [] ?_
    rintro r hr2
    repeat refine d1 ?_
    cases r with
    | true =>
      repeat refine d1 ?_
      obtain ⟨⟨e, j, _ | _, t⟩, hq, hF⟩ := number_d (Kn := Kn) s i hi hs ts hts hr2.symm
      all_goals
        refine dK hF.d [0, 1] [1002] ?_
        rintro r -
        repeat refine d1 ?_
        exact dEO ⟨e, j, _, t⟩ [0, 1, 1002]
    | false =>
      have hE : Lx.OK s i ⟨0, i + 1, false, ⟨0, [], 0, 0⟩⟩ := ⟨hi, fun _ => Nat.lt_succ_self _, Nat.zero_le _⟩
      have hF : Lx.OK s i ⟨5, i, false, ⟨0, [], 0, 0⟩⟩ := ⟨Nat.le_of_lt hi, fun h => absurd h (by simp), Nat.zero_le _⟩
      repeat refine d1 ?_
      refine d2 ?_ ?_ <;> intro h3 <;> repeat refine d1 ?_
      · have h' : byI s i = 47 := h3
        obtain ⟨_ | j, hq, hF⟩ := note_d (Kn := Kn) s i hi hs ts hts (by omega)
        all_goals
          refine dK hF.d [0, 1] [] ?_
          rintro r -
          repeat refine d1 ?_
        · exact dEO ⟨5, i, false, ⟨0, [], 0, 0⟩⟩ [0, 1, 1002]
        · have hq := hq j rfl
          exact dEO ⟨0, j, false, ⟨0, [], 0, 0⟩⟩ [0, 1, 1002] (hp := ⟨hq.2, fun _ => hq.1, Nat.zero_le _⟩)
      · repeat' (first | exact dEO ⟨0, i + 1, false, ⟨0, [], 0, 0⟩⟩ [0, 1, 1002] | exact dEO ⟨5, i, false, ⟨0, [], 0, 0⟩⟩ [0, 1, 1002] | refine d1 ?_ | (refine dK (IndexByte_d _ _) [] [] ?_; rintro _ rfl) | (refine dK (put_d s (i + 1) ts (by omega) _ _ _ _) [0, 1] [1002] ?_; rintro r -) | refine d2 ?_ ?_ <;> intro h5)
        have hT : ∀ x a, x.length ≤ 1024 → Lx.OK s i ⟨0, i + 1, true, ⟨3, x, 0, a⟩⟩ := fun x a hx => ⟨hi, fun _ => Nat.lt_succ_self _, hx⟩
        exact dEO ⟨0, i + 1, true, ⟨3, (s.drop ((i : Int) + 1 - 1).toNat).take (((i : Int) + 1).toNat - ((i : Int) + 1 - 1).toNat), 0, (i : Int) + 1 - 1⟩⟩ [0, 1, 1002] (hp := hT _ _ (by simp; omega))
end
end Go.Proofs

/- Words: a text's. -/
set_option linter.unusedSimpArgs false
set_option linter.unusedVariables false
set_option maxRecDepth 100000
namespace Go.Proofs
open Go.E
variable {Kn : IM}
/-- The tokens of a text. -/
structure TksOK (ts : Arr Tk) : Prop where
  pos : 0 < ts.n
  le : ts.n ≤ 1025
  kind : (ts.f (ts.n - 1)).kind = 4
  text : (ts.f (ts.n - 1)).text = []
  len : ∀ i, i < ts.n → (ts.f i).text.length ≤ 1024
theorem Tokens_d (s : List UInt8) : FnD Tryz.prog Kn 313 0 [.s s] [] 0 (fun r : Int × Int ⊕ Arr Tk => match r with
    | .inl p => p.1 ≠ 0
    | .inr ts => TksOK ts) (fun r => match r with
    | .inl p => .tup [NIL, .agg [I64 p.1, I64 p.2]]
    | .inr ts => .tup [SL 4 tkC ts, .agg [I64 0, I64 0]]) (fun _ => []) := by
  refine go Tryz.func313 ?_
  repeat refine d1 ?_
  refine d2 ?_ ?_ <;> intro h <;> repeat refine d1 ?_
  · exact dEL (.inl (3, 0)) (by simp) rfl rfl
  refine dW (fun p : Nat × Arr Tk => ⟨[(4, .bp 1000 0), (0, .s s), (3, .bp 3 0), (2, NIL)], [.box 1000 [.s s, I64 p.1, .own 1001 4 0 p.2.n], VEC 1001 4 tkC p.2, .box 3 [I64 0, I64 0]], [1000, 1001, 3]⟩) (fun p => p.1 ≤ s.length ∧ p.2.n ≤ p.1 ∧ ∀ i, i < p.2.n → (p.2.f i).text.length ≤ 1024) (fun p => s.length - p.1) (0, Arr.nil ⟨0, [], 0, 0⟩) ⟨Nat.zero_le _, Nat.le_refl _, fun i hi => absurd hi (Nat.not_lt_zero _)⟩ (Le.g [(1001, 4)] [(1000, 13)] [13, 1001, 3]) ?_
  rintro ⟨i, ts⟩ ⟨h1, h2, h3⟩ J hJ
  dsimp only at h1 h2 h3 ⊢
  repeat refine d1 ?_
  refine d2 ?_ ?_ <;> intro h4 <;> repeat refine d1 ?_
  · obtain ⟨⟨e, j, _ | _, t⟩, ⟨q1, q2, q3⟩, hF⟩ := one_d (Kn := Kn) s i (by omega) (by omega) ts (by omega)
    all_goals
      dsimp only at q1 q2 q3
      refine dK hF.d [1000, 1001] [1002] ?_
      rintro r -
      repeat refine d1 ?_
      refine d2 ?_ ?_ <;> intro h5 <;> repeat refine d1 ?_
    · exact dEL (.inl (e, i)) h5 rfl rfl
    · have := q2 (by omega)
      exact hJ (j, ts) _ ⟨q1, by dsimp only; omega, h3⟩ (by dsimp only; omega) (Le.g [] [] [1000, 1001, 3])
    · exact dEL (.inl (e, i)) h5 rfl rfl
    · have := q2 (by omega)
      refine hJ (j, ts.push t) _ ⟨q1, by simp only [Arr.push]; omega, fun q hq => ?_⟩ (by dsimp only; omega) (Le.g [] [(1001, 1002)] [1000, 1002, 3])
      simp only [Arr.push] at hq ⊢
      split
      · exact h3 q (by omega)
      · exact q3
  · refine dK (put_d s i ts (by omega) _ _ _ _) [1000, 1001] [1002] ?_
    rintro r -
    repeat refine d1 ?_
    refine dFe 1002 ?_
    refine dEL (.inr (ts.push ⟨4, [], 0, s.length⟩)) ?_ rfl rfl
    refine ⟨Nat.succ_pos _, by simp only [Arr.push]; omega, by simp [Arr.push], by simp [Arr.push], fun q hq => ?_⟩
    simp only [Arr.push] at hq ⊢
    split
    · exact h3 q (by omega)
    · exact Nat.zero_le _
end Go.Proofs

/- Texts of schemas: the parser's first steps. -/
set_option linter.unusedSimpArgs false
set_option linter.unusedVariables false
set_option maxRecDepth 100000
namespace Go.Proofs
open Go.E
variable {Kn : IM}
structure PS where
  i : Nat
  e : Int
  a : Int
abbrev psC (ts : Arr Tk) (p : PS) : Ch := .box 0 [SL 4 tkC ts, I64 p.i, I64 p.e, I64 p.a]
/-- What a step that must come does to the parser. -/
structure Nx (ts : Arr Tk) (p q : PS) : Prop where
  lt : q.i < ts.n
  le : p.i ≤ q.i
  bad : p.e ≠ 0 → q.e ≠ 0
  on : q.e = 0 → p.i < q.i
structure Ad (ts : Arr Tk) (p q : PS) : Prop where
  lt : q.i < ts.n
  le : p.i ≤ q.i
  bad : p.e ≠ 0 → q.e ≠ 0
theorem Nx.ad {ts : Arr Tk} {p q : PS} (h : Nx ts p q) : Ad ts p q := ⟨h.lt, h.le, h.bad⟩
theorem Ad.trans {ts : Arr Tk} {p q r : PS} (h : Ad ts p q) (k : Ad ts q r) : Ad ts p r := ⟨k.lt, Nat.le_trans h.le k.le, fun e => k.bad (h.bad e)⟩
theorem Nx.trans {ts : Arr Tk} {p q r : PS} (h : Nx ts p q) (k : Ad ts q r) : Nx ts p r := ⟨k.lt, Nat.le_trans h.le k.le, fun e => k.bad (h.bad e), fun e => Nat.lt_of_lt_of_le (h.on (by
  by_cases hq : q.e = 0
  · exact hq
  · exact absurd e (k.bad hq))) k.le⟩
theorem Ad.next {ts : Arr Tk} {p q r : PS} (h : Ad ts p q) (k : Nx ts q r) : Nx ts p r := ⟨k.lt, Nat.le_trans h.le k.le, fun e => k.bad (h.bad e), fun e => Nat.lt_of_le_of_lt h.le (k.on e)⟩
theorem well_d (ts : Arr Tk) (p : PS) : FnD Tryz.prog Kn 315 1 [.bp 0 0] [psC ts p] 1 (fun r : Bool => r = decide (p.e = 0)) B (fun _ => [psC ts p]) := by
  refine go Tryz.func315 ?_
  repeat' (first | exact dEO _ [0] | refine d1 ?_)
section
variable (ts : Arr Tk) (hT : TksOK ts) (p : PS) (hi : p.i < ts.n)
include hi
theorem now_d : FnD Tryz.prog Kn 316 1 [.bp 0 0] [psC ts p] 1 (fun _ : Unit => True) (fun _ => .agg (tkC (ts.f p.i))) (fun _ => [psC ts p]) := by
  refine go Tryz.func316 ?_
  repeat' (first | exact dEO () [0] | refine d1 ?_)
theorem fail_d (e : Int) (he : e ≠ 0) : FnD Tryz.prog Kn 317 1 [.bp 0 0, I64 e] [psC ts p] 1 (fun q : PS => q.i = p.i ∧ q.e ≠ 0) (fun _ => .tup []) (fun q => [psC ts q]) := by
  refine go Tryz.func317 ?_
  repeat refine d1 ?_
  refine dK (well_d ts p) [0] [] ?_
  rintro _ rfl
  repeat refine d1 ?_
  refine d2 ?_ ?_ <;> intro h <;> repeat refine d1 ?_
  · refine dK (now_d ts p hi) [0] [] ?_
    rintro r -
    repeat refine d1 ?_
    exact dEO ⟨p.i, e, (ts.f p.i).at_⟩ [0] (hp := ⟨rfl, he⟩)
  · exact dEO p [0] (hp := ⟨rfl, h⟩)
include hT
theorem step_lt (h : (ts.f p.i).kind ≠ 4 ∨ (ts.f p.i).text ≠ []) : p.i + 1 < ts.n := by
  rcases Nat.lt_or_ge (p.i + 1) ts.n with h1 | h1
  · exact h1
  · have : p.i = ts.n - 1 := by omega
    rw [this, hT.kind, hT.text] at h
    simp at h
theorem may_d (s : List UInt8) (hs : s ≠ []) : FnD Tryz.prog Kn 378 1 [.bp 0 0, .s s] [psC ts p] 1 (fun r : Bool × PS => if r.1 then p.e = 0 ∧ r.2 = ⟨p.i + 1, p.e, p.a⟩ ∧ p.i + 1 < ts.n else r.2 = p) (fun r => B r.1) (fun r => [psC ts r.2]) := by
  have hle := hT.le
  refine go Tryz.func378 ?_
  repeat refine d1 ?_
  refine dK (well_d ts p) [0] [] ?_
  rintro _ rfl
  repeat refine d1 ?_
  repeat' (first | exact dEO (false, p) [0] | refine d1 ?_ | (refine dK (now_d ts p hi) [0] [] ?_; rintro r -) | refine d2 ?_ ?_ <;> intro h)
  rename_i hp
  simp only [Bool.false_or, Bool.or_eq_false_iff, Bool.not_eq_false', beq_iff_eq] at h
  exact dEO (true, ⟨p.i + 1, p.e, p.a⟩) [0] (hp := ⟨hp, rfl, step_lt ts hT p hi (.inr (h.1 ▸ hs))⟩)
theorem need_d (s : List UInt8) (hs : s ≠ []) : FnD Tryz.prog Kn 376 1 [.bp 0 0, .s s] [psC ts p] 1 (Nx ts p) (fun _ => .tup []) (fun q => [psC ts q]) := by
  refine go Tryz.func376 ?_
  repeat refine d1 ?_
  refine dK (may_d ts hT p hi s hs) [0] [] ?_
  rintro ⟨_ | _, q⟩ hq <;> simp only [if_true, Bool.false_eq_true, if_false] at hq <;> repeat refine d1 ?_
  · subst hq
    refine dK (fail_d ts q hi 5 (by decide)) [0] [] ?_
    rintro r ⟨h1, h2⟩
    repeat refine d1 ?_
    exact dEO r [0] (hp := ⟨h1 ▸ hi, Nat.le_of_eq h1.symm, fun _ => h2, fun h => absurd h h2⟩)
  · obtain ⟨h1, rfl, h2⟩ := hq
    exact dEO ⟨p.i + 1, p.e, p.a⟩ [0] (hp := ⟨h2, Nat.le_succ _, fun h => h, fun _ => Nat.lt_succ_self _⟩)
theorem number_p : FnD Tryz.prog Kn 374 1 [.bp 0 0] [psC ts p] 1 (fun r : Int × PS => Nx ts p r.2) (fun r => I64 r.1) (fun r => [psC ts r.2]) := by
  have hle := hT.le
  refine go Tryz.func374 ?_
  repeat refine d1 ?_
  refine dK (now_d ts p hi) [0] [] ?_
  rintro r -
  repeat refine d1 ?_
  refine d2 ?_ ?_ <;> intro h <;> repeat refine d1 ?_
  · refine dK (fail_d ts p hi 5 (by decide)) [0] [] ?_
    rintro q ⟨h1, h2⟩
    repeat refine d1 ?_
    refine dK (well_d ts q) [0] [] ?_
    rintro _ rfl
    repeat refine d1 ?_
    refine d2 ?_ ?_ <;> intro h3 <;> repeat refine d1 ?_
    · exact dEO (0, q) [0] (hp := ⟨h1 ▸ hi, Nat.le_of_eq h1.symm, fun _ => h2, fun h => absurd h h2⟩)
    · exact absurd h3 h2
  · refine dK (well_d ts p) [0] [] ?_
    rintro _ rfl
    repeat refine d1 ?_
    refine d2 ?_ ?_ <;> intro h3 <;> repeat refine d1 ?_
    · exact dEO (0, p) [0] (hp := ⟨hi, Nat.le_refl _, fun h => h, fun h => absurd h h3⟩)
    · exact dEO ((ts.f p.i).num, ⟨p.i + 1, p.e, p.a⟩) [0] (hp := ⟨step_lt ts hT p hi (.inl (by omega)), Nat.le_succ _, fun h => h, fun _ => Nat.lt_succ_self _⟩)
end
end Go.Proofs

/- Texts of schemas: names and types. -/
set_option linter.unusedSimpArgs false
set_option linter.unusedVariables false
set_option maxRecDepth 100000
namespace Go.Proofs
open Go.E
variable {Kn : IM} {m : Int}
section
variable (hm : Kn 5 0 = some (.int .i64 m))
include hm
theorem Word_d (s : List UInt8) (hs : s.length ≤ 2000) : FnD Tryz.prog Kn 444 0 [.s s] [] 0 (fun _ : Bool => True) B (fun _ => []) := by
  refine go Tryz.func444 ?_
  repeat' (first | refine d1 ?_ | exact dEL _ trivial rfl rfl | refine dG (fun _ => rfl) (by simp; omega) ?_ | (refine dK (Contains_d hm _ _ ?hl) [] [] ?_; (case hl => first | omega | decide); rintro r -) | refine d2 ?_ ?_ <;> intro h)
section
variable (ts : Arr Tk) (hT : TksOK ts) (p : PS) (hi : p.i < ts.n)
include hi hT
theorem name_d : FnD Tryz.prog Kn 375 1 [.bp 0 0] [psC ts p] 1 (fun r : List UInt8 × PS => Nx ts p r.2) (fun r => .s r.1) (fun r => [psC ts r.2]) := by
  have hle := hT.le
  have hln := hT.len p.i hi
  refine go Tryz.func375 ?_
  repeat refine d1 ?_
  refine dK (now_d ts p hi) [0] [] ?_
  rintro r -
  repeat refine d1 ?_
  have bad : ∀ q : PS, q.i = p.i → q.e ≠ 0 → Nx ts p q := fun q h1 h2 => ⟨h1 ▸ hi, Nat.le_of_eq h1.symm, fun _ => h2, fun h => absurd h h2⟩
  have good : (ts.f p.i).kind = 1 → Nx ts p ⟨p.i + 1, p.e, p.a⟩ := fun h => ⟨step_lt ts hT p hi (.inl (by omega)), Nat.le_succ _, fun h => h, fun _ => Nat.lt_succ_self _⟩
  refine d2 ?_ ?_ <;> intro h0 <;> repeat refine d1 ?_
  · refine dK (fail_d ts p hi 5 (by decide)) [0] [] ?_
    rintro q ⟨h1, h2⟩
    repeat refine d1 ?_
    refine dK (well_d ts q) [0] [] ?_
    rintro _ rfl
    repeat refine d1 ?_
    refine d2 ?_ ?_ <;> intro h3 <;> repeat refine d1 ?_
    · exact dEO ([], q) [0] (hp := bad q h1 h2)
    · exact absurd h3 h2
  · refine dK (Word_d hm _ ?_) [] [] ?_
    · omega
    rintro r -
    repeat refine d1 ?_
    refine d2 ?_ ?_ <;> intro h4 <;> repeat refine d1 ?_
    · refine dK (fail_d ts p hi 5 (by decide)) [0] [] ?_
      rintro q ⟨h1, h2⟩
      repeat refine d1 ?_
      refine dK (well_d ts q) [0] [] ?_
      rintro _ rfl
      repeat refine d1 ?_
      refine d2 ?_ ?_ <;> intro h3 <;> repeat refine d1 ?_
      · exact dEO ([], q) [0] (hp := bad q h1 h2)
      · exact absurd h3 h2
    · refine dK (well_d ts p) [0] [] ?_
      rintro _ rfl
      repeat refine d1 ?_
      refine d2 ?_ ?_ <;> intro h3 <;> repeat refine d1 ?_
      · exact dEO ([], p) [0] (hp := ⟨hi, Nat.le_refl _, fun h => h, fun h => absurd h h3⟩)
      · exact dEO ((ts.f p.i).text, ⟨p.i + 1, p.e, p.a⟩) [0] (hp := good (by omega))
end
end
theorem plain_d (s : List UInt8) : FnD Tryz.prog Kn 482 0 [.s s] [] 0 (fun r : Int => 0 < r → s ≠ []) I64 (fun _ => []) := by
  refine go Tryz.func482 ?_
  repeat' (first | refine d1 ?_ | refine d2 ?_ ?_ <;> intro h)
  all_goals first | exact dEL 0 (fun h0 => absurd h0 (by decide)) rfl rfl | exact dEL _ (fun _ => by rintro rfl; simp at h) rfl rfl
end Go.Proofs

/- Texts of schemas: types. -/
set_option linter.unusedSimpArgs false
set_option linter.unusedVariables false
set_option maxRecDepth 100000
namespace Go.Proofs
open Go.E
variable {Kn : IM} {m : Int}
section
variable (hm : Kn 5 0 = some (.int .i64 m)) (ts : Arr Tk) (hT : TksOK ts)
include hT
theorem ptyp_b (deep : Nat) (hd : deep ≤ 9) (bs : deep ≤ 8 → ∀ p : PS, p.i < ts.n → FnD Tryz.prog Kn 445 1 [.bp 0 0, I64 deep] [psC ts p] 1 (fun r : Ty × PS => r.1.sm ∧ Nx ts p r.2) (fun r => .agg (tyC r.1)) (fun r => [psC ts r.2])) (p : PS) (hi : p.i < ts.n) :
    FnD Tryz.prog Kn 377 1 [.bp 0 0, I64 deep] [psC ts p] 1 (fun r : Ty × PS => r.1.sm ∧ Nx ts p r.2) (fun r => .agg (tyC r.1)) (fun r => [psC ts r.2]) := by
  refine go Tryz.func377 ?_
  repeat refine d1 ?_
  refine d2 ?_ ?_ <;> intro h <;> repeat refine d1 ?_
  · refine dK (fail_d ts p hi 10 (by decide)) [0] [] ?_
    rintro q ⟨h1, h2⟩
    repeat refine d1 ?_
    refine dK (well_d ts q) [0] [] ?_
    rintro _ rfl
    repeat refine d1 ?_
    refine d2 ?_ ?_ <;> intro h3 <;> repeat refine d1 ?_
    · refine dT ⟨[(4, .bp 4 0)], [psC ts q, .box 4 (tyC (.leaf 0 []))], [0, 4]⟩ (Le.g [] [] [0, 4]) ?_
      exact dEO (.leaf 0 [], q) [0] (hp := by exact ⟨trivial, h1 ▸ hi, Nat.le_of_eq h1.symm, fun _ => h2, fun h => absurd h h2⟩)
    · exact absurd h3 h2
  · refine dK (well_d ts p) [0] [] ?_
    rintro _ rfl
    repeat refine d1 ?_
    refine d2 ?_ ?_ <;> intro h3 <;> repeat refine d1 ?_
    · refine dT ⟨[(4, .bp 4 0)], [psC ts p, .box 4 (tyC (.leaf 0 []))], [0, 4]⟩ (Le.g [] [] [0, 4]) ?_
      exact dEO (.leaf 0 [], p) [0] (hp := by exact ⟨trivial, hi, Nat.le_refl _, fun h => h, fun h => absurd h h3⟩)
    refine dK (bs (by omega) p hi) [0] [] ?_
    rintro ⟨x, q⟩ ⟨hx, n1⟩
    repeat refine d1 ?_
    refine dK (may_d ts hT q n1.lt _ ?hs) [0] [] ?_
    case hs => decide
    rintro ⟨_ | _, q1⟩ hq <;> simp only [if_true, Bool.false_eq_true, if_false] at hq <;> repeat refine d1 ?_
    · subst hq
      exact dEO (x, q1) [0] (hp := by exact ⟨hx, n1⟩)
    · obtain ⟨h1, rfl, h2⟩ := hq
      refine dFe 20 ?_
      refine dT ⟨[(4, .bp 4 0)], [psC ts ⟨q.i + 1, q.e, q.a⟩, .box 4 (tyC (.mk 9 [] 1 fun _ => x))], [0, 4]⟩ (Le.g [] [] [0, 4] (hc := by exact ⟨CI.refl, CI.box ⟨RI.refl, RI.refl, RI.sl rfl (fun i hi => by
        show _ = TyC _
        rw [TyC_eq]
        obtain rfl : i = 0 := by have hi : i < 1 := hi; omega
        rfl), trivial⟩, trivial⟩)) ?_
      exact dEO (.mk 9 [] 1 fun _ => x, ⟨q.i + 1, q.e, q.a⟩) [0] (hp := by exact ⟨⟨by decide, fun _ => hx⟩, n1.trans ⟨h2, Nat.le_succ _, fun h => h⟩⟩)
include hm
theorem pbase_b (deep : Nat) (hd : deep ≤ 20) (ih : ∀ q : PS, q.i < ts.n → FnD Tryz.prog Kn 377 1 [.bp 0 0, I64 (deep + 1 : Nat)] [psC ts q] 1 (fun r : Ty × PS => r.1.sm ∧ Nx ts q r.2) (fun r => .agg (tyC r.1)) (fun r => [psC ts r.2])) (p : PS) (hi : p.i < ts.n) :
    FnD Tryz.prog Kn 445 1 [.bp 0 0, I64 deep] [psC ts p] 1 (fun r : Ty × PS => r.1.sm ∧ Nx ts p r.2) (fun r => .agg (tyC r.1)) (fun r => [psC ts r.2]) := by
  have hle := hT.le
  refine go Tryz.func445 ?_
  repeat refine d1 ?_
  refine dK (now_d ts p hi) [0] [] ?_
  rintro r -
  repeat refine d1 ?_
  refine dK (plain_d _) [] [] ?_
  intro k hk
  repeat refine d1 ?_
  refine d2 ?_ ?_ <;> intro h <;> repeat refine d1 ?_
  · have hk := hk h
    refine dT ⟨[(4, .bp 4 0)], [psC ts ⟨p.i + 1, p.e, p.a⟩, .box 4 (tyC (.leaf k []))], [0, 4]⟩ (Le.g [] [] [0, 4]) ?_
    exact dEO (.leaf k [], ⟨p.i + 1, p.e, p.a⟩) [0] (hp := by exact ⟨trivial, step_lt ts hT p hi (.inr hk), Nat.le_succ _, fun h => h, fun _ => Nat.lt_succ_self _⟩)
  refine dK (may_d ts hT p hi _ ?hs) [0] [] ?_
  case hs => decide
  rintro ⟨_ | _, q⟩ hq <;> simp only [if_true, Bool.false_eq_true, if_false] at hq <;> repeat refine d1 ?_
  · subst hq
    refine dK (may_d ts hT q hi _ ?hs) [0] [] ?_
    case hs => decide
    rintro ⟨_ | _, q1⟩ hq <;> simp only [if_true, Bool.false_eq_true, if_false] at hq <;> repeat refine d1 ?_
    · subst hq
      refine dK (name_d hm ts hT q1 hi) [0] [] ?_
      rintro ⟨nm, q2⟩ hq
      repeat refine d1 ?_
      refine dT ⟨[(4, .bp 4 0)], [psC ts q2, .box 4 (tyC (.leaf 6 nm))], [0, 4]⟩ (Le.g [] [] [0, 4]) ?_
      exact dEO (.leaf 6 nm, q2) [0] (hp := by exact ⟨trivial, hq⟩)
    · obtain ⟨h1, rfl, h2⟩ := hq
      have n0 : Nx ts q ⟨q.i + 1, q.e, q.a⟩ := ⟨h2, Nat.le_succ _, fun h => h, fun _ => Nat.lt_succ_self _⟩
      refine dK (need_d ts hT ⟨q.i + 1, q.e, q.a⟩ h2 _ ?hs) [0] [] ?_
      case hs => decide
      intro q2 n2
      repeat refine d1 ?_
      refine dK (ih q2 n2.lt) [0] [] ?_
      rintro ⟨x, q3⟩ ⟨hx, n3⟩
      repeat refine d1 ?_
      refine dK (need_d ts hT q3 n3.lt _ ?hs) [0] [] ?_
      case hs => decide
      intro q4 n4
      repeat refine d1 ?_
      refine dK (ih q4 n4.lt) [0] [] ?_
      rintro ⟨y, q5⟩ ⟨hy, n5⟩
      repeat refine d1 ?_
      refine dK (need_d ts hT q5 n5.lt _ ?hs) [0] [] ?_
      case hs => decide
      intro q6 n6
      repeat refine d1 ?_
      refine dFe 59 ?_
      refine dT ⟨[(4, .bp 4 0)], [psC ts q6, .box 4 (tyC (.mk 8 [] 2 fun i => if i = 0 then x else y))], [0, 4]⟩ (Le.g [] [] [0, 4] (hc := by exact ⟨CI.refl, CI.box ⟨RI.refl, RI.refl, RI.sl rfl (fun i hi => by
        show _ = TyC _
        rw [TyC_eq]
        obtain rfl | rfl : i = 0 ∨ i = 1 := by have hi : i < 2 := hi; omega
        all_goals rfl), trivial⟩, trivial⟩)) ?_
      exact dEO (.mk 8 [] 2 fun i => if i = 0 then x else y, q6) [0] (hp := by exact ⟨⟨by decide, fun i => by dsimp only; split <;> assumption⟩, n0.trans (n2.trans (n3.trans (n4.trans (n5.trans n6.ad).ad).ad).ad).ad⟩)
  · obtain ⟨h1, rfl, h2⟩ := hq
    have n0 : Nx ts p ⟨p.i + 1, p.e, p.a⟩ := ⟨h2, Nat.le_succ _, fun h => h, fun _ => Nat.lt_succ_self _⟩
    refine dK (need_d ts hT ⟨p.i + 1, p.e, p.a⟩ h2 _ ?hs) [0] [] ?_
    case hs => decide
    intro q2 n2
    repeat refine d1 ?_
    refine dK (ih q2 n2.lt) [0] [] ?_
    rintro ⟨x, q3⟩ ⟨hx, n3⟩
    repeat refine d1 ?_
    refine dK (need_d ts hT q3 n3.lt _ ?hs) [0] [] ?_
    case hs => decide
    intro q4 n4
    repeat refine d1 ?_
    refine dFe 38 ?_
    refine dT ⟨[(4, .bp 4 0)], [psC ts q4, .box 4 (tyC (.mk 7 [] 1 fun _ => x))], [0, 4]⟩ (Le.g [] [] [0, 4] (hc := by exact ⟨CI.refl, CI.box ⟨RI.refl, RI.refl, RI.sl rfl (fun i hi => by
      show _ = TyC _
      rw [TyC_eq]
      obtain rfl : i = 0 := by have hi : i < 1 := hi; omega
      rfl), trivial⟩, trivial⟩)) ?_
    exact dEO (.mk 7 [] 1 fun _ => x, q4) [0] (hp := by exact ⟨⟨by decide, fun _ => hx⟩, n0.trans (n2.trans (n3.trans n4.ad).ad).ad⟩)
theorem ptyp_d : ∀ (k deep : Nat), deep + k = 9 → ∀ p : PS, p.i < ts.n → FnD Tryz.prog Kn 377 1 [.bp 0 0, I64 deep] [psC ts p] 1 (fun r : Ty × PS => r.1.sm ∧ Nx ts p r.2) (fun r => .agg (tyC r.1)) (fun r => [psC ts r.2])
  | 0, deep, h, p, hi => ptyp_b ts hT deep (by omega) (fun h => absurd h (by omega)) p hi
  | k + 1, deep, h, p, hi => ptyp_b ts hT deep (by omega) (fun _ q hq => pbase_b hm ts hT deep (by omega) (fun q hq => ptyp_d k (deep + 1) (by omega) q hq) q hq) p hi
theorem ptype_d (p : PS) (hi : p.i < ts.n) : FnD Tryz.prog Kn 377 1 [.bp 0 0, I64 0] [psC ts p] 1 (fun r : Ty × PS => r.1.sm ∧ Nx ts p r.2) (fun r => .agg (tyC r.1)) (fun r => [psC ts r.2]) := ptyp_d hm ts hT 9 0 rfl p hi
theorem pmethod_d (p : PS) (hi : p.i < ts.n) : FnD Tryz.prog Kn 381 1 [.bp 0 0] [psC ts p] 1 (fun r : Me × PS => Nx ts p r.2) (fun r => .agg (meC r.1)) (fun r => [psC ts r.2]) := by
  refine go Tryz.func381 ?_
  repeat refine d1 ?_
  obtain ⟨⟨b, p1⟩, hq, hF⟩ := may_d (Kn := Kn) ts hT p hi [111, 110, 101, 119, 97, 121] (by decide)
  have a0 : Ad ts p p1 := by
    cases b <;> simp only [if_true, Bool.false_eq_true, if_false] at hq
    · subst hq; exact ⟨hi, Nat.le_refl _, fun h => h⟩
    · obtain ⟨h1, rfl, h2⟩ := hq; exact ⟨h2, Nat.le_succ _, fun h => h⟩
  refine dK hF.d [0] [] ?_
  rintro r -
  repeat refine d1 ?_
  refine dK (number_p ts hT p1 a0.lt) [0] [] ?_
  rintro ⟨tag, p2⟩ n2
  repeat refine d1 ?_
  refine dK (name_d hm ts hT p2 n2.lt) [0] [] ?_
  rintro ⟨nm, p3⟩ n3
  repeat refine d1 ?_
  refine dK (need_d ts hT p3 n3.lt _ ?hs) [0] [] ?_
  case hs => decide
  intro p4 n4
  repeat refine d1 ?_
  refine dK (name_d hm ts hT p4 n4.lt) [0] [] ?_
  rintro ⟨inn, p5⟩ n5
  repeat refine d1 ?_
  refine dK (need_d ts hT p5 n5.lt _ ?hs) [0] [] ?_
  case hs => decide
  intro p6 n6
  repeat refine d1 ?_
  refine dK (need_d ts hT p6 n6.lt _ ?hs) [0] [] ?_
  case hs => decide
  intro p7 n7
  repeat refine d1 ?_
  refine dK (name_d hm ts hT p7 n7.lt) [0] [] ?_
  rintro ⟨out, p8⟩ n8
  repeat refine d1 ?_
  exact dEO (⟨tag, nm, inn, out, b⟩, p8) [0] (hp := by exact (a0.next n2).trans (n3.trans (n4.trans (n5.trans (n6.trans (n7.trans n8.ad).ad).ad).ad).ad).ad)
end
end Go.Proofs

/- Texts of schemas: rows. -/
set_option linter.unusedSimpArgs false
set_option linter.unusedVariables false
set_option maxRecDepth 100000
namespace Go.Proofs
open Go.E
variable {Kn : IM} {m : Int}
/-- A row: a field or a method. -/
abbrev Rw := Fl × Me
def rwC : Nat → Rw → List AV
  | 2, r => meC r.2
  | _, r => flC r.1
def rwCap : Nat → List AV
  | 0 => [.bp 1 0, .bp 2 0]
  | _ => [.bp 2 0, .bp 1 0]
def rwFn : Nat → Nat
  | 0 => 373
  | 1 => 379
  | _ => 380
def rwD (k : Int) (nm : List UInt8) (at_ : Int) (j : Nat) (x : AV) : Nat → Ch
  | 2 => .box j [I64 k, .s nm, NIL, x, I64 at_]
  | _ => .box j [I64 k, .s nm, x, NIL, I64 at_]
section
variable (hm : Kn 5 0 = some (.int .i64 m)) (ts : Arr Tk) (hT : TksOK ts) (k : Int) (nm : List UInt8) (at_ : Int)
abbrev rwS (ts : Arr Tk) (k : Int) (nm : List UInt8) (at_ : Int) (w j : Nat) (p : PS) (fs : Arr Rw) : List Ch := [psC ts p, .box 1 [.bp 0 0], rwD k nm at_ 2 (.own j 5 0 fs.n) w, VEC j 5 (rwC w) fs]
include hm hT
theorem row0_d (p : PS) (hi : p.i < ts.n) (fs : Arr Rw) (hf : fs.n ≤ 2000) : FnD Tryz.prog Kn 373 4 [.bp 1 0, .bp 2 0] (rwS ts k nm at_ 0 3 p fs) 5 (fun r : Rw × PS => Nx ts p r.2 ∧ r.1.1.ty.sm) (fun _ => .tup []) (fun r => rwS ts k nm at_ 0 4 r.2 (fs.push r.1)) := by
  refine go Tryz.func373 ?_
  repeat refine d1 ?_
  refine dK (number_p ts hT p hi) [0] [] ?_
  rintro ⟨tag, p2⟩ n2
  repeat refine d1 ?_
  refine dK (name_d hm ts hT p2 n2.lt) [0] [] ?_
  rintro ⟨fn, p3⟩ n3
  repeat refine d1 ?_
  refine dK (need_d ts hT p3 n3.lt _ ?hs) [0] [] ?_
  case hs => decide
  intro p4 n4
  repeat refine d1 ?_
  refine dK (ptype_d hm ts hT p4 n4.lt) [0] [] ?_
  rintro ⟨t, p5⟩ ⟨ht, n5⟩
  repeat refine d1 ?_
  refine dT ⟨[], [psC ts p5, .box 1 [.bp 0 0], rwD k nm at_ 2 (.own 2000 5 0 (fs.push (⟨tag, fn, t⟩, ⟨0, [], [], [], false⟩)).n) 0, VEC 2000 5 (rwC 0) (fs.push (⟨tag, fn, t⟩, ⟨0, [], [], [], false⟩))], [0, 1, 2, 3, 2000]⟩ (Le.g [] [(2000, 17)] [0, 1, 2, 17]) ?_
  exact dEO ((⟨tag, fn, t⟩, ⟨0, [], [], [], false⟩), p5) [0, 1, 2, 3, 2000] (hp := by exact ⟨n2.trans (n3.trans (n4.trans n5.ad).ad).ad, ht⟩)
theorem row1_d (p : PS) (hi : p.i < ts.n) (fs : Arr Rw) (hf : fs.n ≤ 2000) : FnD Tryz.prog Kn 379 4 [.bp 2 0, .bp 1 0] (rwS ts k nm at_ 1 3 p fs) 5 (fun r : Rw × PS => Nx ts p r.2 ∧ r.1.1.ty.sm) (fun _ => .tup []) (fun r => rwS ts k nm at_ 1 4 r.2 (fs.push r.1)) := by
  refine go Tryz.func379 ?_
  repeat refine d1 ?_
  refine dK (number_p ts hT p hi) [0] [] ?_
  rintro ⟨tag, p2⟩ n2
  repeat refine d1 ?_
  refine dK (name_d hm ts hT p2 n2.lt) [0] [] ?_
  rintro ⟨fn, p3⟩ n3
  repeat refine d1 ?_
  refine dT ⟨[], [psC ts p3, .box 1 [.bp 0 0], rwD k nm at_ 2 (.own 2000 5 0 (fs.push (⟨tag, fn, .leaf 0 []⟩, ⟨0, [], [], [], false⟩)).n) 1, VEC 2000 5 (rwC 1) (fs.push (⟨tag, fn, .leaf 0 []⟩, ⟨0, [], [], [], false⟩))], [0, 1, 2, 3, 2000]⟩ (Le.g [] [(2000, 10)] [0, 1, 2, 10] (hc := by exact ⟨CI.refl, CI.refl, CI.refl, CI.vecR rfl (app_rowR ⟨RI.refl, RI.refl, RI.refl, RI.refl, RI.nil, trivial⟩), trivial⟩)) ?_
  exact dEO ((⟨tag, fn, .leaf 0 []⟩, ⟨0, [], [], [], false⟩), p3) [0, 1, 2, 3, 2000] (hp := by exact ⟨n2.trans n3.ad, trivial⟩)
theorem row2_d (p : PS) (hi : p.i < ts.n) (fs : Arr Rw) (hf : fs.n ≤ 2000) : FnD Tryz.prog Kn 380 4 [.bp 2 0, .bp 1 0] (rwS ts k nm at_ 2 3 p fs) 5 (fun r : Rw × PS => Nx ts p r.2 ∧ r.1.1.ty.sm) (fun _ => .tup []) (fun r => rwS ts k nm at_ 2 4 r.2 (fs.push r.1)) := by
  refine go Tryz.func380 ?_
  repeat refine d1 ?_
  refine dK (pmethod_d hm ts hT p hi) [0] [] ?_
  rintro ⟨x, p2⟩ n2
  repeat refine d1 ?_
  refine dT ⟨[], [psC ts p2, .box 1 [.bp 0 0], rwD k nm at_ 2 (.own 2000 5 0 (fs.push (⟨0, [], .leaf 0 []⟩, x)).n) 2, VEC 2000 5 (rwC 2) (fs.push (⟨0, [], .leaf 0 []⟩, x))], [0, 1, 2, 3, 2000]⟩ (Le.g [] [(2000, 7)] [0, 1, 2, 7]) ?_
  exact dEO ((⟨0, [], .leaf 0 []⟩, x), p2) [0, 1, 2, 3, 2000] (hp := by exact ⟨n2, trivial⟩)
end
end Go.Proofs

/- Texts of schemas: all rows. -/
set_option linter.unusedSimpArgs false
set_option linter.unusedVariables false
set_option maxRecDepth 100000
namespace Go.Proofs
open Go.E
variable {Kn : IM} {m : Int}
/-- What a loop over rows knows: how many rows were begun, which there are, the parser. -/
abbrev RwX := Nat × Arr Rw × PS
structure RwI (ts : Arr Tk) (p : PS) (x : RwX) : Prop where
  ad : Ad ts p x.2.2
  le : x.1 + p.i ≤ x.2.2.i + (if x.2.2.e = 0 then 0 else 1)
  n : x.2.1.n ≤ x.1
  sm : ∀ i, (x.2.1.f i).1.ty.sm
def rwM (ts : Arr Tk) (x : RwX) : Nat := if x.2.2.e = 0 then ts.n - x.2.2.i + 1 else 0
theorem RwI.bad {ts : Arr Tk} {p q q2 : PS} {n : Nat} {fs : Arr Rw} (h : RwI ts p (n, fs, q)) (h0 : q.e = 0) (g : q2.i = q.i ∧ q2.e ≠ 0) : RwI ts p (n + 1, fs, q2) ∧ rwM ts (n + 1, fs, q2) < rwM ts (n, fs, q) := by
  obtain ⟨h1, h2, h3, h4⟩ := h
  dsimp only at h1 h2 h3 h4
  have := h1.lt
  rw [if_pos h0] at h2
  refine ⟨⟨⟨g.1 ▸ h1.lt, g.1 ▸ h1.le, fun _ => g.2⟩, ?_, ?_, h4⟩, ?_⟩
  · dsimp only; rw [if_neg g.2]; omega
  · dsimp only; omega
  · unfold rwM; dsimp only; rw [if_neg g.2, if_pos h0]; omega
theorem RwI.nxt {ts : Arr Tk} {p q q3 q4 : PS} {n : Nat} {fs : Arr Rw} (h : RwI ts p (n, fs, q)) (h0 : q.e = 0) {x : Rw} (hx : x.1.ty.sm) (n3 : Nx ts q q3) (n4 : Nx ts q3 q4) : RwI ts p (n + 1, fs.push x, q4) ∧ rwM ts (n + 1, fs.push x, q4) < rwM ts (n, fs, q) := by
  obtain ⟨h1, h2, h3, h4⟩ := h
  dsimp only at h1 h2 h3 h4
  have := h1.lt
  rw [if_pos h0] at h2
  have e1 := n3.le; have e2 := n4.le; have e3 := n4.lt; have e4 := n4.on
  refine ⟨⟨h1.trans (n3.trans n4.ad).ad, ?_, ?_, Arr.push_all (p := fun r : Rw => r.1.ty.sm) h4 hx⟩, ?_⟩
  · dsimp only; split
    · rename_i h; have := e4 h; omega
    · omega
  · simp only [Arr.push]; omega
  · unfold rwM; dsimp only; rw [if_pos h0]; split
    · rename_i h; have := e4 h; omega
    · omega
section
variable (hm : Kn 5 0 = some (.int .i64 m)) (ts : Arr Tk) (hT : TksOK ts) (k : Int) (nm : List UInt8) (at_ : Int)
include hm hT
theorem prow_d (w : Nat) (hw : w = 0 ∨ w = 1 ∨ w = 2) (p : PS) (hi : p.i < ts.n) (fs : Arr Rw) (hf : fs.n ≤ 2000) : FnD Tryz.prog Kn (rwFn w) 4 (rwCap w) (rwS ts k nm at_ w 3 p fs) 5 (fun r : Rw × PS => Nx ts p r.2 ∧ r.1.1.ty.sm) (fun _ => .tup []) (fun r => rwS ts k nm at_ w 4 r.2 (fs.push r.1)) := by
  rcases hw with rfl | rfl | rfl
  · exact row0_d hm ts hT k nm at_ p hi fs hf
  · exact row1_d hm ts hT k nm at_ p hi fs hf
  · exact row2_d hm ts hT k nm at_ p hi fs hf
theorem prows_d (w : Nat) (hw : w = 0 ∨ w = 1 ∨ w = 2) (p : PS) (hi : p.i < ts.n) : FnD Tryz.prog Kn 382 3 [.bp 0 0, .clo (.func (rwFn w)) [] (rwCap w)] [psC ts p, .box 1 [.bp 0 0], rwD k nm at_ 2 NIL w] 4 (fun r : Arr Rw × PS => Nx ts p r.2 ∧ r.1.n ≤ 2000 ∧ ∀ i, (r.1.f i).1.ty.sm) (fun _ => .tup []) (fun r => rwS ts k nm at_ w 3 r.2 r.1) := by
  have hle := hT.le
  rcases hw with rfl | rfl | rfl
  all_goals
    refine go Tryz.func382 ?_
    repeat refine d1 ?_
    refine dK (need_d ts hT p hi _ ?hs) [0] [] ?_
    case hs => decide
    intro p1 n1
    repeat refine d1 ?_
  · refine dW (fun x : RwX => ⟨[(4, I64 x.1), (0, .bp 0 0), (1, .clo (.func 373) [] [.bp 1 0, .bp 2 0])], rwS ts k nm at_ 0 1003 x.2.2 x.2.1, [0, 1, 2, 1003]⟩) (RwI ts p1) (rwM ts) (0, Arr.nil (⟨0, [], .leaf 0 []⟩, ⟨0, [], [], [], false⟩), p1) ⟨⟨n1.lt, Nat.le_refl _, fun h => h⟩, by dsimp only; omega, Nat.le_refl _, fun _ => trivial⟩ (Le.g [(1003, 5)] [] [0, 1, 2, 1003]) ?_
    rintro ⟨n, fs, q⟩ hI J hJ
    dsimp only
    have hq1 : q.i < ts.n := hI.ad.lt
    have hb : n ≤ 1100 := by have h2 := hI.le; dsimp only at h2; split at h2 <;> omega
    have hf : fs.n ≤ 1100 := Nat.le_trans hI.n hb
    repeat refine d1 ?_
    refine dK (well_d ts q) [0] [] ?_
    rintro _ rfl
    repeat refine d1 ?_
    refine d2 ?_ ?_ <;> intro hw <;> repeat refine d1 ?_
    · refine dK (may_d ts hT q hq1 _ ?hs) [0] [] ?_
      case hs => decide
      rintro ⟨_ | _, q1⟩ hq <;> simp only [if_true, Bool.false_eq_true, if_false] at hq <;> repeat refine d1 ?_
      · subst hq
        refine d2 ?_ ?_ <;> intro h16 <;> repeat refine d1 ?_
        all_goals try (refine dK (now_d ts q1 hq1) [0] [] ?_; rintro r -; (repeat refine d1 ?_); refine d2 ?_ ?_ <;> intro hkd <;> repeat refine d1 ?_)
        all_goals try
          refine dK (fail_d ts q1 hq1 3 (by decide)) [0] [] ?_
          intro q2 g
          repeat refine d1 ?_
          refine dK (well_d ts q2) [0] [] ?_
          rintro _ rfl
          repeat refine d1 ?_
          refine d2 ?_ ?_ <;> intro hw2 <;> repeat refine d1 ?_
          · exact absurd hw2 g.2
          · exact hJ (n + 1, fs, q2) _ (hI.bad hw g).1 (hI.bad hw g).2 (Le.g [] [] [0, 1, 2, 1003])
        all_goals
          refine dK (well_d ts q1) [0] [] ?_
          rintro _ rfl
          repeat refine d1 ?_
          refine d2 ?_ ?_ <;> intro hw2 <;> repeat refine d1 ?_
          · refine dK (prow_d hm ts hT k nm at_ 0 (by simp) q1 hq1 fs (by omega)) [0, 1, 2, 1003] [1004] ?_
            rintro ⟨x, q3⟩ ⟨n3, hx⟩
            repeat refine d1 ?_
            refine dK (need_d ts hT q3 n3.lt _ ?hs) [0] [] ?_
            case hs => decide
            intro q4 n4
            repeat refine d1 ?_
            exact hJ (n + 1, fs.push x, q4) _ (hI.nxt hw hx n3 n4).1 (hI.nxt hw hx n3 n4).2 (Le.g [] [(1003, 1004)] [0, 1, 2, 1004])
          · exact absurd hw hw2
      · obtain ⟨g1, rfl, g2⟩ := hq
        exact dEO (fs, ⟨q.i + 1, q.e, q.a⟩) [0, 1, 2, 1003] (hp := by exact ⟨n1.trans (hI.ad.trans ⟨g2, Nat.le_succ _, fun h => h⟩), by dsimp only; omega, hI.sm⟩)
    · exact dEO (fs, q) [0, 1, 2, 1003] (hp := by exact ⟨n1.trans hI.ad, by dsimp only; omega, hI.sm⟩)
  · refine dW (fun x : RwX => ⟨[(4, I64 x.1), (0, .bp 0 0), (1, .clo (.func 379) [] [.bp 2 0, .bp 1 0])], rwS ts k nm at_ 1 1003 x.2.2 x.2.1, [0, 1, 2, 1003]⟩) (RwI ts p1) (rwM ts) (0, Arr.nil (⟨0, [], .leaf 0 []⟩, ⟨0, [], [], [], false⟩), p1) ⟨⟨n1.lt, Nat.le_refl _, fun h => h⟩, by dsimp only; omega, Nat.le_refl _, fun _ => trivial⟩ (Le.g [(1003, 5)] [] [0, 1, 2, 1003]) ?_
    rintro ⟨n, fs, q⟩ hI J hJ
    dsimp only
    have hq1 : q.i < ts.n := hI.ad.lt
    have hb : n ≤ 1100 := by have h2 := hI.le; dsimp only at h2; split at h2 <;> omega
    have hf : fs.n ≤ 1100 := Nat.le_trans hI.n hb
    repeat refine d1 ?_
    refine dK (well_d ts q) [0] [] ?_
    rintro _ rfl
    repeat refine d1 ?_
    refine d2 ?_ ?_ <;> intro hw <;> repeat refine d1 ?_
    · refine dK (may_d ts hT q hq1 _ ?hs) [0] [] ?_
      case hs => decide
      rintro ⟨_ | _, q1⟩ hq <;> simp only [if_true, Bool.false_eq_true, if_false] at hq <;> repeat refine d1 ?_
      · subst hq
        refine d2 ?_ ?_ <;> intro h16 <;> repeat refine d1 ?_
        all_goals try (refine dK (now_d ts q1 hq1) [0] [] ?_; rintro r -; (repeat refine d1 ?_); refine d2 ?_ ?_ <;> intro hkd <;> repeat refine d1 ?_)
        all_goals try
          refine dK (fail_d ts q1 hq1 3 (by decide)) [0] [] ?_
          intro q2 g
          repeat refine d1 ?_
          refine dK (well_d ts q2) [0] [] ?_
          rintro _ rfl
          repeat refine d1 ?_
          refine d2 ?_ ?_ <;> intro hw2 <;> repeat refine d1 ?_
          · exact absurd hw2 g.2
          · exact hJ (n + 1, fs, q2) _ (hI.bad hw g).1 (hI.bad hw g).2 (Le.g [] [] [0, 1, 2, 1003])
        all_goals
          refine dK (well_d ts q1) [0] [] ?_
          rintro _ rfl
          repeat refine d1 ?_
          refine d2 ?_ ?_ <;> intro hw2 <;> repeat refine d1 ?_
          · refine dK (prow_d hm ts hT k nm at_ 1 (by simp) q1 hq1 fs (by omega)) [0, 1, 2, 1003] [1004] ?_
            rintro ⟨x, q3⟩ ⟨n3, hx⟩
            repeat refine d1 ?_
            refine dK (need_d ts hT q3 n3.lt _ ?hs) [0] [] ?_
            case hs => decide
            intro q4 n4
            repeat refine d1 ?_
            exact hJ (n + 1, fs.push x, q4) _ (hI.nxt hw hx n3 n4).1 (hI.nxt hw hx n3 n4).2 (Le.g [] [(1003, 1004)] [0, 1, 2, 1004])
          · exact absurd hw hw2
      · obtain ⟨g1, rfl, g2⟩ := hq
        exact dEO (fs, ⟨q.i + 1, q.e, q.a⟩) [0, 1, 2, 1003] (hp := by exact ⟨n1.trans (hI.ad.trans ⟨g2, Nat.le_succ _, fun h => h⟩), by dsimp only; omega, hI.sm⟩)
    · exact dEO (fs, q) [0, 1, 2, 1003] (hp := by exact ⟨n1.trans hI.ad, by dsimp only; omega, hI.sm⟩)
  · refine dW (fun x : RwX => ⟨[(4, I64 x.1), (0, .bp 0 0), (1, .clo (.func 380) [] [.bp 2 0, .bp 1 0])], rwS ts k nm at_ 2 1003 x.2.2 x.2.1, [0, 1, 2, 1003]⟩) (RwI ts p1) (rwM ts) (0, Arr.nil (⟨0, [], .leaf 0 []⟩, ⟨0, [], [], [], false⟩), p1) ⟨⟨n1.lt, Nat.le_refl _, fun h => h⟩, by dsimp only; omega, Nat.le_refl _, fun _ => trivial⟩ (Le.g [(1003, 5)] [] [0, 1, 2, 1003]) ?_
    rintro ⟨n, fs, q⟩ hI J hJ
    dsimp only
    have hq1 : q.i < ts.n := hI.ad.lt
    have hb : n ≤ 1100 := by have h2 := hI.le; dsimp only at h2; split at h2 <;> omega
    have hf : fs.n ≤ 1100 := Nat.le_trans hI.n hb
    repeat refine d1 ?_
    refine dK (well_d ts q) [0] [] ?_
    rintro _ rfl
    repeat refine d1 ?_
    refine d2 ?_ ?_ <;> intro hw <;> repeat refine d1 ?_
    · refine dK (may_d ts hT q hq1 _ ?hs) [0] [] ?_
      case hs => decide
      rintro ⟨_ | _, q1⟩ hq <;> simp only [if_true, Bool.false_eq_true, if_false] at hq <;> repeat refine d1 ?_
      · subst hq
        refine d2 ?_ ?_ <;> intro h16 <;> repeat refine d1 ?_
        all_goals try (refine dK (now_d ts q1 hq1) [0] [] ?_; rintro r -; (repeat refine d1 ?_); refine d2 ?_ ?_ <;> intro hkd <;> repeat refine d1 ?_)
        all_goals try
          refine dK (fail_d ts q1 hq1 3 (by decide)) [0] [] ?_
          intro q2 g
          repeat refine d1 ?_
          refine dK (well_d ts q2) [0] [] ?_
          rintro _ rfl
          repeat refine d1 ?_
          refine d2 ?_ ?_ <;> intro hw2 <;> repeat refine d1 ?_
          · exact absurd hw2 g.2
          · exact hJ (n + 1, fs, q2) _ (hI.bad hw g).1 (hI.bad hw g).2 (Le.g [] [] [0, 1, 2, 1003])
        all_goals
          refine dK (well_d ts q1) [0] [] ?_
          rintro _ rfl
          repeat refine d1 ?_
          refine d2 ?_ ?_ <;> intro hw2 <;> repeat refine d1 ?_
          · refine dK (prow_d hm ts hT k nm at_ 2 (by simp) q1 hq1 fs (by omega)) [0, 1, 2, 1003] [1004] ?_
            rintro ⟨x, q3⟩ ⟨n3, hx⟩
            repeat refine d1 ?_
            refine dK (need_d ts hT q3 n3.lt _ ?hs) [0] [] ?_
            case hs => decide
            intro q4 n4
            repeat refine d1 ?_
            exact hJ (n + 1, fs.push x, q4) _ (hI.nxt hw hx n3 n4).1 (hI.nxt hw hx n3 n4).2 (Le.g [] [(1003, 1004)] [0, 1, 2, 1004])
          · exact absurd hw hw2
      · obtain ⟨g1, rfl, g2⟩ := hq
        exact dEO (fs, ⟨q.i + 1, q.e, q.a⟩) [0, 1, 2, 1003] (hp := by exact ⟨n1.trans (hI.ad.trans ⟨g2, Nat.le_succ _, fun h => h⟩), by dsimp only; omega, hI.sm⟩)
    · exact dEO (fs, q) [0, 1, 2, 1003] (hp := by exact ⟨n1.trans hI.ad, by dsimp only; omega, hI.sm⟩)
end
end Go.Proofs

/- Texts of schemas: declarations. -/
set_option linter.unusedSimpArgs false
set_option linter.unusedVariables false
set_option maxRecDepth 100000
namespace Go.Proofs
open Go.E
variable {Kn : IM} {m : Int}
def amap {α β : Type} (f : α → β) (a : Arr α) : Arr β := ⟨a.n, fun i => f (a.f i)⟩
section
variable (hm : Kn 5 0 = some (.int .i64 m)) (ts : Arr Tk) (hT : TksOK ts)
include hm hT
theorem pdecl_d (p : PS) (hi : p.i < ts.n) : FnD Tryz.prog Kn 314 1 [.bp 0 0] [psC ts p] 1 (fun r : De × PS => Nx ts p r.2 ∧ DeOK r.1) (fun r => .agg (deC r.1)) (fun r => [psC ts r.2]) := by
  refine go Tryz.func314 ?_
  repeat refine d1 ?_
  refine dK (now_d ts p hi) [0] [] ?_
  rintro r -
  repeat refine d1 ?_
  have a0 : Ad ts p p := ⟨hi, Nat.le_refl _, fun h => h⟩
  have am : ∀ {b : Bool} {q : PS}, (if b then p.e = 0 ∧ q = ⟨p.i + 1, p.e, p.a⟩ ∧ p.i + 1 < ts.n else q = p) → Ad ts p q := fun {b q} h => by
    cases b <;> simp only [if_true, Bool.false_eq_true, if_false] at h
    · exact h ▸ a0
    · obtain ⟨h1, rfl, h2⟩ := h; exact ⟨h2, Nat.le_succ _, fun h => h⟩
  refine dK (may_d ts hT p hi _ ?hs) [0] [] ?_; (case hs => decide); rintro ⟨_ | _, p1⟩ hq <;> have ad := am hq <;> (try (change p1 = p at hq; replace hq := Eq.symm hq; subst hq)) <;> repeat refine d1 ?_
  all_goals try (refine dK (may_d ts hT p hi _ ?hs) [0] [] ?_; (case hs => decide); rintro ⟨_ | _, p1⟩ hq <;> have ad := am hq <;> (try (change p1 = p at hq; replace hq := Eq.symm hq; subst hq)) <;> repeat refine d1 ?_)
  all_goals try (refine dK (may_d ts hT p hi _ ?hs) [0] [] ?_; (case hs => decide); rintro ⟨_ | _, p1⟩ hq <;> have ad := am hq <;> (try (change p1 = p at hq; replace hq := Eq.symm hq; subst hq)) <;> repeat refine d1 ?_)
  all_goals try (refine dK (may_d ts hT p hi _ ?hs) [0] [] ?_; (case hs => decide); rintro ⟨_ | _, p1⟩ hq <;> have ad := am hq <;> (try (change p1 = p at hq; replace hq := Eq.symm hq; subst hq)) <;> repeat refine d1 ?_)
  all_goals try (refine dK (fail_d ts p hi 5 (by decide)) [0] [] ?_; rintro p2 ⟨g1, g2⟩; clear ad; have ad : Ad ts p p2 := ⟨g1 ▸ hi, Nat.le_of_eq g1.symm, fun _ => g2⟩; repeat refine d1 ?_)
  all_goals
    refine dK (name_d hm ts hT _ ad.lt) [0] [] ?_
    rintro ⟨nm, p3⟩ n3
    repeat refine d1 ?_
    first
      | refine dK (prows_d hm ts hT _ nm _ 0 (by simp) p3 n3.lt) [0, 1, 3] [1004] ?_
      | refine dK (prows_d hm ts hT _ nm _ 1 (by simp) p3 n3.lt) [0, 1, 3] [1004] ?_
      | refine dK (prows_d hm ts hT _ nm _ 2 (by simp) p3 n3.lt) [0, 1, 3] [1004] ?_
    rintro ⟨fs, p4⟩ ⟨n4, hn, hs⟩
    repeat refine d1 ?_
    refine dFe 1004 ?_
    have nx := ad.next (n3.trans n4.ad)
  · refine dT ⟨[(2, .bp 2 0)], [psC ts p4, .box 2 (deC ⟨0, nm, amap Prod.fst fs, Arr.nil ⟨0, [], [], [], false⟩, (ts.f p.i).at_⟩)], [0, 2]⟩ (Le.g [] [] [0, 2]) ?_
    exact dEO (⟨0, nm, amap Prod.fst fs, Arr.nil ⟨0, [], [], [], false⟩, (ts.f p.i).at_⟩, p4) [0] (hp := by exact ⟨nx, hn, Nat.zero_le _, hs⟩)
  · refine dT ⟨[(2, .bp 2 0)], [psC ts p4, .box 2 (deC ⟨4, nm, Arr.nil ⟨0, [], .leaf 0 []⟩, amap Prod.snd fs, (ts.f p.i).at_⟩)], [0, 2]⟩ (Le.g [] [] [0, 2]) ?_
    exact dEO (⟨4, nm, Arr.nil ⟨0, [], .leaf 0 []⟩, amap Prod.snd fs, (ts.f p.i).at_⟩, p4) [0] (hp := by exact ⟨nx, Nat.zero_le _, hn, fun _ => trivial⟩)
  · refine dT ⟨[(2, .bp 2 0)], [psC ts p4, .box 2 (deC ⟨3, nm, amap Prod.fst fs, Arr.nil ⟨0, [], [], [], false⟩, (ts.f p.i).at_⟩)], [0, 2]⟩ (Le.g [] [] [0, 2]) ?_
    exact dEO (⟨3, nm, amap Prod.fst fs, Arr.nil ⟨0, [], [], [], false⟩, (ts.f p.i).at_⟩, p4) [0] (hp := by exact ⟨nx, hn, Nat.zero_le _, hs⟩)
  · refine dT ⟨[(2, .bp 2 0)], [psC ts p4, .box 2 (deC ⟨2, nm, amap Prod.fst fs, Arr.nil ⟨0, [], [], [], false⟩, (ts.f p.i).at_⟩)], [0, 2]⟩ (Le.g [] [] [0, 2]) ?_
    exact dEO (⟨2, nm, amap Prod.fst fs, Arr.nil ⟨0, [], [], [], false⟩, (ts.f p.i).at_⟩, p4) [0] (hp := by exact ⟨nx, hn, Nat.zero_le _, hs⟩)
  · refine dT ⟨[(2, .bp 2 0)], [psC ts p4, .box 2 (deC ⟨1, nm, amap Prod.fst fs, Arr.nil ⟨0, [], [], [], false⟩, (ts.f p.i).at_⟩)], [0, 2]⟩ (Le.g [] [] [0, 2]) ?_
    exact dEO (⟨1, nm, amap Prod.fst fs, Arr.nil ⟨0, [], [], [], false⟩, (ts.f p.i).at_⟩, p4) [0] (hp := by exact ⟨nx, hn, Nat.zero_le _, hs⟩)
end
end Go.Proofs

/- Texts of schemas: all of it. -/
set_option linter.unusedSimpArgs false
set_option linter.unusedVariables false
set_option maxRecDepth 100000
namespace Go.Proofs
open Go.E
variable {Kn : IM} {m : Int}
section
variable (hm : Kn 5 0 = some (.int .i64 m))
include hm
theorem Parse_d (s : List UInt8) : FnD Tryz.prog Kn 262 0 [.s s] [] 0 (fun r : Int × Int ⊕ Arr De => match r with
    | .inl p => p.1 ≠ 0
    | .inr l => l.n ≤ 16 ∧ ∀ i, DeOK (l.f i)) (fun r => match r with
    | .inl p => .tup [NIL, .agg [I64 p.1, I64 p.2]]
    | .inr l => .tup [SL 5 deC l, .agg [I64 0, I64 0]]) (fun _ => []) := by
  refine go Tryz.func262 ?_
  repeat refine d1 ?_
  obtain ⟨⟨e, a⟩ | ts, hT, hF⟩ := Tokens_d (Kn := Kn) s
  all_goals
    dsimp only at hT
    refine dK hF.d [] [] ?_
    rintro r -
    repeat refine d1 ?_
  · refine d2 ?_ ?_ <;> intro h <;> repeat refine d1 ?_
    · exact dEL (.inl (e, a)) hT rfl rfl
    · exact absurd h hT
  refine dW (fun x : Arr De × PS => ⟨[(6, .bp 1000 0), (7, .clo (.func 314) [.bp 1000 0] []), (8, .own 1001 5 0 x.1.n), (3, .bp 3 0)], [.box 1000 [SL 4 tkC ts, I64 x.2.i, I64 x.2.e, I64 x.2.a], VEC 1001 5 deC x.1, .box 3 [I64 0, I64 0]], [1000, 1001, 3]⟩) (fun x => x.2.i < ts.n ∧ x.1.n ≤ 16 ∧ ∀ i, DeOK (x.1.f i)) (fun x => if x.2.e = 0 then ts.n - x.2.i + 1 else 0) (Arr.nil ⟨0, [], Arr.nil ⟨0, [], .leaf 0 []⟩, Arr.nil ⟨0, [], [], [], false⟩, 0⟩, ⟨0, 0, 0⟩) ⟨hT.pos, Nat.zero_le _, fun _ => ⟨Nat.zero_le _, Nat.zero_le _, fun _ => trivial⟩⟩ (Le.g [(1001, 5)] [(1000, 20)] [20, 1001, 3]) ?_
  rintro ⟨l, q⟩ ⟨h1, h2, h3⟩ J hJ
  dsimp only at h1 h2 h3 ⊢
  repeat refine d1 ?_
  refine dK (well_d ts q) [1000] [] ?_
  rintro _ rfl
  repeat refine d1 ?_
  refine d2 ?_ ?_ <;> intro hw <;> repeat refine d1 ?_
  · refine dK (now_d ts q h1) [1000] [] ?_
    rintro r -
    repeat refine d1 ?_
    refine d2 ?_ ?_ <;> intro hk <;> repeat refine d1 ?_
    · refine d2 ?_ ?_ <;> intro h16 <;> repeat refine d1 ?_
      · refine dK (fail_d ts q h1 3 (by decide)) [1000] [] ?_
        rintro q2 ⟨g1, g2⟩
        repeat refine d1 ?_
        refine dK (well_d ts q2) [1000] [] ?_
        rintro _ rfl
        repeat refine d1 ?_
        refine d2 ?_ ?_ <;> intro hw2 <;> repeat refine d1 ?_
        · exact dEL (.inl (q2.e, q2.a)) hw2 rfl rfl
        · refine dFe 1001 ?_
          refine dT ⟨[(2, SL 5 deC l), (3, .bp 3 0)], [.box 3 [I64 0, I64 0]], [3]⟩ (Le.g [] [] [3]) ?_
          exact dEL (.inr l) ⟨h2, h3⟩ rfl rfl
      · refine dK (pdecl_d hm ts hT q h1) [1000] [] ?_
        rintro ⟨d, q2⟩ ⟨n1, hd⟩
        dsimp only at n1 hd
        repeat refine d1 ?_
        have e1 := n1.lt; have e2 := n1.on; have e3 := n1.le
        exact hJ (l.push d, q2) _ ⟨e1, by simp only [Arr.push]; omega, Arr.push_all h3 hd⟩ (by
          dsimp only; rw [if_pos hw]; split
          · rename_i h; have := e2 h; omega
          · omega) (Le.g [] [(1001, 40)] [1000, 40, 3])
    · refine dK (well_d ts q) [1000] [] ?_
      rintro _ rfl
      repeat refine d1 ?_
      refine d2 ?_ ?_ <;> intro hw2 <;> repeat refine d1 ?_
      · exact dEL (.inl (q.e, q.a)) hw2 rfl rfl
      · refine dFe 1001 ?_
        refine dT ⟨[(2, SL 5 deC l), (3, .bp 3 0)], [.box 3 [I64 0, I64 0]], [3]⟩ (Le.g [] [] [3]) ?_
        exact dEL (.inr l) ⟨h2, h3⟩ rfl rfl
  · refine dK (well_d ts q) [1000] [] ?_
    rintro _ rfl
    repeat refine d1 ?_
    refine d2 ?_ ?_ <;> intro hw2 <;> repeat refine d1 ?_
    · exact dEL (.inl (q.e, q.a)) hw2 rfl rfl
    · refine dFe 1001 ?_
      refine dT ⟨[(2, SL 5 deC l), (3, .bp 3 0)], [.box 3 [I64 0, I64 0]], [3]⟩ (Le.g [] [] [3]) ?_
      exact dEL (.inr l) ⟨h2, h3⟩ rfl rfl
/-- What desc.Read gives: a fault or a descriptor. -/
theorem Read_d (s : List UInt8) : FnD Tryz.prog Kn 219 0 [.s s] [] 1 (fun r : Int × Int ⊕ Arr De => match r with
    | .inl p => p.1 ≠ 0
    | .inr l => l.n ≤ 16 ∧ ∀ i, DeOK (l.f i)) (fun r => match r with
    | .inl p => .tup [.v (.pointer none), .agg [I64 p.1, I64 p.2]]
    | .inr _ => .tup [.bp 0 0, .agg [I64 0, I64 0]]) (fun r => match r with
    | .inl _ => []
    | .inr l => [.box 0 [SL 5 deC l, .v (.int .u32 0), .v (.int .i32 0), .v (.int .u32 0), .v (.pointer none), .v (.map none)]]) := by
  refine go Tryz.func219 ?_
  repeat refine d1 ?_
  obtain ⟨⟨e, a⟩ | l, hT, hF⟩ := Parse_d hm s
  all_goals
    dsimp only at hT
    refine dK hF.d [] [] ?_
    rintro r -
    repeat refine d1 ?_
  · refine d2 ?_ ?_ <;> intro h <;> repeat refine d1 ?_
    · exact dEO (.inl (e, a)) [999] (hp := hT)
    · exact absurd h hT
  obtain ⟨_ | ⟨e, a⟩, hO, hF⟩ := Of_d (Kn := Kn) l (Nat.le_trans hT.1 (by decide)) hT.2
  all_goals
    refine dK hF.d [] [1000] ?_
    rintro r -
    repeat refine d1 ?_
  · exact dEO (.inr l) [1000] (hp := hT)
  · exact dEO (.inl (e, a)) [1000] (hp := hO _ rfl)
end
end Go.Proofs

/- Numbers as bytes: taken and put. -/
set_option linter.unusedSimpArgs false
set_option linter.unusedVariables false
set_option maxRecDepth 100000
namespace Go.Proofs
open Go.E
variable {Kn : IM}
theorem wrapU (x : Int) : 0 ≤ IntKind.u64.wrap x := by
  simp only [IntKind.wrap, IntKind.bits, IntKind.signed, Bool.false_and]
  simp
  omega
theorem wrapV (x : Int) : IntKind.u64.wrap x < 18446744073709551616 := by
  simp only [IntKind.wrap, IntKind.bits, IntKind.signed, Bool.false_and]
  simp
  omega
/-- What is taken of bytes: the value, how many bytes it has, or why there is none. -/
structure VtOK (l : List UInt8) (r : Int × Nat × Int) : Prop where
  v : 0 ≤ r.1
  u : r.1 < 18446744073709551616
  n : r.2.1 ≤ l.length
  b : r.2.1 ≤ 10
  p : r.2.2 = 0 → 1 ≤ r.2.1
  one : ∀ (x : UInt8) t, l = x :: t → (x = 5 ∨ x = 0) → r = ((x.toNat : Int), 1, 0)
theorem vTake_d (l : List UInt8) : FnD Tryz.prog Kn 115 0 [.s l] [] 0 (VtOK l) (fun r => .tup [U64 r.1, I64 r.2.1, I64 r.2.2]) (fun _ => []) := by
  refine go Tryz.func115 ?_
  repeat refine d1 ?_
  refine dW (fun q : Nat × Int => ⟨[(0, .s l), (10, I64 (min (l.length : Int) 10)), (11, I64 q.1), (5, U64 q.2)], [], []⟩) (fun q => q.1 ≤ 10 ∧ q.1 ≤ l.length ∧ 0 ≤ q.2 ∧ (0 < q.1 → 128 ≤ byI l 0) ∧ (q.1 = 0 → q.2 = 0)) (fun q => 10 - q.1) (0, 0) (by simp) (Le.g [] [] []) ?_
  rintro ⟨i, m⟩ ⟨h1, h2, h3, h4, h5⟩ J hJ
  dsimp only at h1 h2 h3 h4 h5 ⊢
  have bad : ∀ e : Int, e ≠ 0 → (∀ (x : UInt8) t, l = x :: t → (x = 5 ∨ x = 0) → False) → VtOK l ((0 : Int), (0 : Nat), e) := fun e he h => ⟨Int.le_refl _, (by decide : (0 : Int) < _), Nat.zero_le _, Nat.zero_le _, fun h => absurd h he, fun x t h6 h7 => (h x t h6 h7).elim⟩
  have low : ∀ (x : UInt8) t, l = x :: t → (x = 5 ∨ x = 0) → byI l 0 < 128 := fun x t h6 h7 => by
    subst h6; rcases h7 with rfl | rfl <;> simp [byI] <;> decide
  repeat refine d1 ?_
  refine d2 ?_ ?_ <;> intro h6
  · have hi0 : ∀ (x : UInt8) t, l = x :: t → (x = 5 ∨ x = 0) → i = 0 := fun x t h7 h8 => by
      have := low x t h7 h8
      rcases Nat.eq_zero_or_pos i with h9 | h9
      · exact h9
      · have := h4 h9; omega
    repeat' (first | refine d1 ?_ | refine d2 ?_ ?_ <;> intro h)
    · exact dEL ((0 : Int), (0 : Nat), (1 : Int)) (bad 1 (by decide) fun x t h7 h8 => by have := hi0 x t h7 h8; simp_all) rfl rfl
    · exact dEL ((0 : Int), (0 : Nat), (1 : Int)) (bad 1 (by decide) fun x t h7 h8 => by have := hi0 x t h7 h8; simp_all) rfl rfl
    · refine dEL (_, i + 1, (0 : Int)) ⟨wrapU _, wrapV _, by dsimp only; omega, by dsimp only; omega, fun _ => by dsimp only; omega, fun x t h7 h8 => ?_⟩ rfl rfl
      have h9 := hi0 x t h7 h8
      subst h9
      have h9 := h5 rfl
      subst h9 h7
      rcases h8 with rfl | rfl <;> (apply Eq.symm; apply Eq.symm; kernel_rfl)
    · refine hJ (i + 1, _) _ ⟨by dsimp only; omega, by dsimp only; omega, wrapU _, fun _ => ?_, fun h => absurd h (Nat.succ_ne_zero _)⟩ (by dsimp only; omega) (Le.g [] [] [])
      rcases Nat.eq_zero_or_pos i with h9 | h9
      · subst h9; have h' : ¬ byI l 0 < 128 := h; omega
      · exact h4 h9
  · repeat refine d1 ?_
    exact dEL ((0 : Int), (0 : Nat), (2 : Int)) (bad 2 (by decide) fun x t h7 h8 => by
      have := low x t h7 h8
      subst h7
      simp only [List.length_cons] at h2 h6
      have := h4 (by omega)
      omega) rfl rfl
/-- Bytes as cells. -/
def u8C (x : Int) : List AV := [U8 x]
def aList (a : Arr Int) : List Int := (List.range a.n).map a.f
theorem aList_get {a : Arr Int} {q : Nat} (h : q < a.n) : (aList a).getD q 0 = a.f q := by simp [aList, List.getD, h]
theorem shr_lt {m : Int} {j : Nat} (h0 : 0 ≤ m) (h : m < 2 ^ (70 - 7 * j)) (h1 : 128 ≤ m) : j ≤ 8 ∧ m / 128 < 2 ^ (70 - 7 * (j + 1)) := by
  have hj : j ≤ 8 := by
    rcases Nat.lt_or_ge j 9 with h2 | h2
    · omega
    · have h3 : (2 : Int) ^ (70 - 7 * j) ≤ 2 ^ 7 := by
        have := Nat.pow_le_pow_right (n := 2) (by decide) (show 70 - 7 * j ≤ 7 by omega)
        exact_mod_cast this
      omega
  refine ⟨hj, ?_⟩
  rw [show 70 - 7 * j = 70 - 7 * (j + 1) + 7 by omega, Int.pow_add] at h
  omega
theorem vPut_d (n : Int) (hn : 0 ≤ n) (hn2 : n < 18446744073709551616) : FnD Tryz.prog Kn 40 0 [U64 n] [] 0 (fun r : List UInt8 => r.length ≤ 100 ∧ (n < 128 → r = [UInt8.ofNat n.toNat])) .s (fun _ => []) := by
  refine go Tryz.func40 ?_
  repeat refine d1 ?_
  refine dW (fun x : Int × Arr Int => ⟨[(3, .own 1000 1 0 x.2.n), (0, U64 x.1)], [VEC 1000 1 u8C x.2], [1000]⟩) (fun x => 0 ≤ x.1 ∧ x.1 < 2 ^ (70 - 7 * x.2.n) ∧ x.2.n ≤ 20 ∧ (n < 128 → x.2.n = 0 ∧ x.1 = n)) (fun x => x.1.toNat) (n, Arr.nil 0) ⟨hn, by simp only [Arr.nil]; omega, Nat.zero_le _, fun _ => ⟨rfl, rfl⟩⟩ (Le.g [(1000, 1)] [] [1000]) ?_
  rintro ⟨m, a⟩ ⟨h1, h2, h3, h4⟩ J hJ
  dsimp only at h1 h2 h3 h4 ⊢
  repeat refine d1 ?_
  refine d2 ?_ ?_ <;> intro h <;> repeat refine d1 ?_
  · refine dBt (aList (a.push m)) Tryz.tabOK ?_ (hl := by simp [aList, Arr.push]) (him := by omega) (hr := fun q hq => by
      have := app_row (a := a) (x := m) (cells := u8C) (row2 := fun q => chunkRow 1 [U8 m] (0 + q)) rfl q hq
      rw [Nat.zero_add, aList_get hq]
      exact this)
    repeat refine d1 ?_
    refine dEL (txt (aList (a.push m))) ⟨by simp [txt, aList, Arr.push]; omega, fun h5 => ?_⟩ rfl rfl
    obtain ⟨h6, h7⟩ := h4 h5
    subst h7
    simp [txt, aList, Arr.push, h6]
  · obtain ⟨h5, h6⟩ := shr_lt h1 h2 (by omega)
    have h7 : m.fdiv (2 ^ min (Int.toNat 7) 64) = m / 128 := by rw [Int.fdiv_eq_ediv_of_nonneg _ (by decide)]; rfl
    refine hJ (m.fdiv (2 ^ min (Int.toNat 7) 64), a.push _) _ ⟨?_, ?_, ?_, fun h8 => absurd (h4 h8).2 (by omega)⟩ ?_ (Le.g [] [(1000, 16)] [16])
    · dsimp only; rw [h7]; omega
    · dsimp only; rw [h7]; exact h6
    · simp only [Arr.push]; omega
    · dsimp only; rw [h7]; omega
end Go.Proofs

/- Bytes read piece by piece. -/
set_option linter.unusedSimpArgs false
set_option linter.unusedVariables false
set_option maxRecDepth 100000
namespace Go.Proofs
open Go.E
variable {Kn : IM}
structure RS where
  i : Nat
  e : Int
abbrev rsC (b : List UInt8) (s : RS) : Ch := .box 0 [.s b, I64 s.i, I64 s.e]
/-- What a step of a reader gives: V tells what the bytes that are left give. -/
structure RdOK {α : Type} (z : α) (V : List UInt8 → α × Nat × Int → Prop) (b : List UInt8) (s : RS) (r : α × RS) : Prop where
  le : r.2.i ≤ b.length
  bad : s.e ≠ 0 → r = (z, s)
  on : s.e = 0 → ∃ q, V (b.drop s.i) q ∧ (q.2.2 ≠ 0 → r = (z, ⟨s.i, q.2.2⟩)) ∧ (q.2.2 = 0 → r = (q.1, ⟨s.i + q.2.1, s.e⟩))
structure IntOK (l : List UInt8) (r : Int × Nat × Int) : Prop where
  n : r.2.1 ≤ l.length
  zero : ∀ t, l = 0 :: t → r = (0, 1, 0)
structure TxtOK (l : List UInt8) (r : List UInt8 × Nat × Int) : Prop where
  n : r.2.1 ≤ l.length
  t : r.1.length ≤ l.length
structure RestOK (l : List UInt8) (r : List UInt8 × Nat × Int) : Prop where
  n : r.2.1 ≤ l.length
  eq : r = (l, l.length, 0)
theorem intClo_d (l : List UInt8) (lim : Nat) (hl : lim ≤ 2000000) : FnD Tryz.prog Kn 114 1 [.s l, .bp 0 0] [.box 0 [I64 lim]] 1 (IntOK l) (fun r => .tup [I64 r.1, I64 r.2.1, I64 r.2.2]) (fun _ => [.box 0 [I64 lim]]) := by
  refine go Tryz.func114 ?_
  repeat refine d1 ?_
  obtain ⟨⟨v, n, e⟩, hv, hF⟩ := vTake_d (Kn := Kn) l
  dsimp only at hv hF
  refine dK hF.d [] [] ?_
  rintro r -
  repeat refine d1 ?_
  have h0 := hv.v
  have h1 := hv.one
  dsimp only at h0 h1
  repeat' (first | refine d1 ?_ | refine d2 ?_ ?_ <;> intro h)
  all_goals
    refine dEO (_, n, _) [0] (hp := ?_)
    refine ⟨hv.n, fun t ht => ?_⟩
    have h3 := h1 0 t ht (.inr rfl)
    simp only [Prod.mk.injEq] at h3
    obtain ⟨rfl, rfl, rfl⟩ := h3
    first | rfl | (exfalso; simp at *; omega)
theorem restClo_d (l : List UInt8) : FnD Tryz.prog Kn 118 0 [.s l] [] 0 (RestOK l) (fun r => .tup [.s r.1, I64 r.2.1, I64 r.2.2]) (fun _ => []) := by
  refine go Tryz.func118 ?_
  repeat refine d1 ?_
  exact dEL (l, l.length, 0) ⟨Nat.le_refl _, rfl⟩ rfl rfl
theorem sTake_d (l : List UInt8) (lim : Nat) (hl : lim ≤ 2000000) (hb : l.length ≤ 9223372036854775807) : FnD Tryz.prog Kn 121 0 [.s l, I64 lim] [] 0 (TxtOK l) (fun r => .tup [.s r.1, I64 r.2.1, I64 r.2.2]) (fun _ => []) := by
  refine go Tryz.func121 ?_
  repeat refine d1 ?_
  obtain ⟨⟨v, n, e⟩, hv, hF⟩ := vTake_d (Kn := Kn) l
  dsimp only at hv hF
  refine dK hF.d [] [] ?_
  rintro r -
  repeat refine d1 ?_
  have h0 := hv.v
  have h1 := hv.n
  have h2 := hv.b
  dsimp only at h0 h1 h2
  obtain ⟨vn, rfl⟩ := Int.eq_ofNat_of_zero_le h0
  repeat' (first | exact dEL ([], 0, 2) ⟨Nat.zero_le _, Nat.zero_le _⟩ rfl rfl | exact dEL ([], 0, 3) ⟨Nat.zero_le _, Nat.zero_le _⟩ rfl rfl | exact dEL ([], 0, e) ⟨Nat.zero_le _, Nat.zero_le _⟩ rfl rfl | refine d1 ?_ | refine d2 ?_ ?_ <;> intro h)
  exact dEL (_, n + vn, 0) ⟨by dsimp only; omega, by simp; omega⟩ rfl rfl
section
variable (b : List UInt8) (hb : b.length ≤ 9223372036854775807) (s : RS) (hs : s.i ≤ b.length)
include hb hs
theorem takeU_d : FnD Tryz.prog Kn 116 1 [.bp 0 0, .v (.func (.func 115) ⟨[]⟩ ⟨[]⟩)] [rsC b s] 1 (RdOK (0 : Int) VtOK b s) (fun r => U64 r.1) (fun r => [rsC b r.2]) := by
  refine go Tryz.func116 ?_
  repeat refine d1 ?_
  refine d2 ?_ ?_ <;> intro h <;> repeat refine d1 ?_
  · exact dEO ((0 : Int), s) [0] (hp := by exact ⟨hs, fun _ => rfl, fun h0 => absurd h0 (by simpa using h)⟩)
  · have h : s.e = 0 := by simpa using h
    obtain ⟨⟨v, n, er⟩, hv, hF⟩ := vTake_d (Kn := Kn) (b.drop s.i)
    dsimp only at hv hF
    refine dK hF.d [] [] ?_
    rintro r -
    have hn : s.i + n ≤ b.length := by have := hv.n; simp only [List.length_drop] at this; omega
    repeat refine d1 ?_
    refine d2 ?_ ?_ <;> intro h2 <;> repeat refine d1 ?_
    · exact dEO ((0 : Int), ⟨s.i, er⟩) [0] (hp := by exact ⟨hs, fun h0 => absurd h h0, fun _ => ⟨_, hv, fun _ => rfl, fun h0 => absurd h0 h2⟩⟩)
    · exact dEO (v, ⟨s.i + n, s.e⟩) [0] (hp := by exact ⟨hn, fun h0 => absurd h h0, fun _ => ⟨_, hv, fun h0 => absurd h0 (by simpa using h2), fun _ => rfl⟩⟩)
theorem takeR_d : FnD Tryz.prog Kn 117 1 [.bp 0 0, .v (.func (.func 118) ⟨[]⟩ ⟨[]⟩)] [rsC b s] 1 (RdOK ([] : List UInt8) RestOK b s) (fun r => .s r.1) (fun r => [rsC b r.2]) := by
  refine go Tryz.func117 ?_
  repeat refine d1 ?_
  refine d2 ?_ ?_ <;> intro h <;> repeat refine d1 ?_
  · exact dEO (([] : List UInt8), s) [0] (hp := by exact ⟨hs, fun _ => rfl, fun h0 => absurd h0 (by simpa using h)⟩)
  · have h : s.e = 0 := by simpa using h
    obtain ⟨⟨v, n, er⟩, hv, hF⟩ := restClo_d (Kn := Kn) (b.drop s.i)
    dsimp only at hv hF
    refine dK hF.d [] [] ?_
    rintro r -
    have hn : s.i + n ≤ b.length := by have := hv.n; simp only [List.length_drop] at this; omega
    repeat refine d1 ?_
    refine d2 ?_ ?_ <;> intro h2 <;> repeat refine d1 ?_
    · exact dEO (([] : List UInt8), ⟨s.i, er⟩) [0] (hp := by exact ⟨hs, fun h0 => absurd h h0, fun _ => ⟨_, hv, fun _ => rfl, fun h0 => absurd h0 h2⟩⟩)
    · exact dEO (v, ⟨s.i + n, s.e⟩) [0] (hp := by exact ⟨hn, fun h0 => absurd h h0, fun _ => ⟨_, hv, fun h0 => absurd h0 (by simpa using h2), fun _ => rfl⟩⟩)
theorem takeI_d (lim : Nat) (hl : lim ≤ 2000000) : FnD Tryz.prog Kn 113 2 [.bp 0 0, .clo (.func 114) [] [.bp 1 0]] [rsC b s, .box 1 [I64 lim]] 2 (RdOK (0 : Int) IntOK b s) (fun r => I64 r.1) (fun r => [rsC b r.2, .box 1 [I64 lim]]) := by
  refine go Tryz.func113 ?_
  repeat refine d1 ?_
  refine d2 ?_ ?_ <;> intro h <;> repeat refine d1 ?_
  · exact dEO ((0 : Int), s) [0, 1] (hp := by exact ⟨hs, fun _ => rfl, fun h0 => absurd h0 (by simpa using h)⟩)
  · have h : s.e = 0 := by simpa using h
    obtain ⟨⟨v, n, er⟩, hv, hF⟩ := intClo_d (Kn := Kn) (b.drop s.i) lim hl
    dsimp only at hv hF
    refine dK hF.d [1] [] ?_
    rintro r -
    have hn : s.i + n ≤ b.length := by have := hv.n; simp only [List.length_drop] at this; omega
    repeat refine d1 ?_
    refine d2 ?_ ?_ <;> intro h2 <;> repeat refine d1 ?_
    · exact dEO ((0 : Int), ⟨s.i, er⟩) [0, 1] (hp := by exact ⟨hs, fun h0 => absurd h h0, fun _ => ⟨_, hv, fun _ => rfl, fun h0 => absurd h0 h2⟩⟩)
    · exact dEO (v, ⟨s.i + n, s.e⟩) [0, 1] (hp := by exact ⟨hn, fun h0 => absurd h h0, fun _ => ⟨_, hv, fun h0 => absurd h0 (by simpa using h2), fun _ => rfl⟩⟩)
end
end Go.Proofs

/- Bytes read piece by piece: the reader; frames' bodies. -/
set_option linter.unusedSimpArgs false
set_option linter.unusedVariables false
set_option maxRecDepth 100000
namespace Go.Proofs
open Go.E
variable {Kn : IM}
theorem rdNew_d (b : List UInt8) : FnD Tryz.prog Kn 52 0 [.s b] [] 1 (fun _ : Unit => True) (fun _ => .bp 0 0) (fun _ => [rsC b ⟨0, 0⟩]) := by
  refine go Tryz.func52 ?_
  repeat refine d1 ?_
  exact dEO () [5]
theorem done_d (b : List UInt8) (s : RS) : FnD Tryz.prog Kn 56 1 [.bp 0 0] [rsC b s] 1 (fun r : Int => r = if s.e ≠ 0 then s.e else if s.i < b.length then 1 else 0) I64 (fun _ => [rsC b s]) := by
  refine go Tryz.func56 ?_
  repeat' (first | refine d1 ?_ | refine d2 ?_ ?_ <;> intro h)
  · exact dEO s.e [0] (hp := by rw [if_pos h])
  · rename_i h0
    exact dEO 1 [0] (hp := by rw [if_neg (by simpa using h0), if_pos (by omega)])
  · rename_i h0
    exact dEO 0 [0] (hp := by rw [if_neg (by simpa using h0), if_neg (by omega)])
theorem textClo_d (l : List UInt8) (lim : Nat) (hl : lim ≤ 2000000) (hb : l.length ≤ 9223372036854775807) : FnD Tryz.prog Kn 120 1 [.s l, .bp 0 0] [.box 0 [I64 lim]] 1 (TxtOK l) (fun r => .tup [.s r.1, I64 r.2.1, I64 r.2.2]) (fun _ => [.box 0 [I64 lim]]) := by
  refine go Tryz.func120 ?_
  repeat refine d1 ?_
  refine dK (sTake_d l lim hl hb) [] [] ?_
  intro r hr
  repeat refine d1 ?_
  exact dEO r [0]
section
variable (b : List UInt8) (hb : b.length ≤ 9223372036854775807) (s : RS) (hs : s.i ≤ b.length)
include hb hs
theorem takeT_d (lim : Nat) (hl : lim ≤ 2000000) : FnD Tryz.prog Kn 117 2 [.bp 0 0, .clo (.func 120) [] [.bp 1 0]] [rsC b s, .box 1 [I64 lim]] 2 (RdOK ([] : List UInt8) TxtOK b s) (fun r => .s r.1) (fun r => [rsC b r.2, .box 1 [I64 lim]]) := by
  refine go Tryz.func117 ?_
  repeat refine d1 ?_
  refine d2 ?_ ?_ <;> intro h <;> repeat refine d1 ?_
  · exact dEO (([] : List UInt8), s) [0, 1] (hp := by exact ⟨hs, fun _ => rfl, fun h0 => absurd h0 (by simpa using h)⟩)
  · have h : s.e = 0 := by simpa using h
    obtain ⟨⟨v, n, er⟩, hv, hF⟩ := textClo_d (Kn := Kn) (b.drop s.i) lim hl (by simp; omega)
    dsimp only at hv hF
    refine dK hF.d [1] [] ?_
    rintro r -
    have hn : s.i + n ≤ b.length := by have := hv.n; simp only [List.length_drop] at this; omega
    repeat refine d1 ?_
    refine d2 ?_ ?_ <;> intro h2 <;> repeat refine d1 ?_
    · exact dEO (([] : List UInt8), ⟨s.i, er⟩) [0, 1] (hp := by exact ⟨hs, fun h0 => absurd h h0, fun _ => ⟨_, hv, fun _ => rfl, fun h0 => absurd h0 h2⟩⟩)
    · exact dEO (v, ⟨s.i + n, s.e⟩) [0, 1] (hp := by exact ⟨hn, fun h0 => absurd h h0, fun _ => ⟨_, hv, fun h0 => absurd h0 (by simpa using h2), fun _ => rfl⟩⟩)
theorem num_d : FnD Tryz.prog Kn 54 1 [.bp 0 0] [rsC b s] 1 (RdOK (0 : Int) VtOK b s) (fun r => U64 r.1) (fun r => [rsC b r.2]) := by
  refine go Tryz.func54 ?_
  repeat refine d1 ?_
  refine dK (takeU_d b hb s hs) [0] [] ?_
  intro r hr
  repeat refine d1 ?_
  exact dEO r [0]
theorem rest_d : FnD Tryz.prog Kn 55 1 [.bp 0 0] [rsC b s] 1 (RdOK ([] : List UInt8) RestOK b s) (fun r => .s r.1) (fun r => [rsC b r.2]) := by
  refine go Tryz.func55 ?_
  repeat refine d1 ?_
  refine dK (takeR_d b hb s hs) [0] [] ?_
  intro r hr
  repeat refine d1 ?_
  exact dEO r [0]
theorem int_d (lim : Nat) (hl : lim ≤ 2000000) : FnD Tryz.prog Kn 53 1 [.bp 0 0, I64 lim] [rsC b s] 1 (RdOK (0 : Int) IntOK b s) (fun r => I64 r.1) (fun r => [rsC b r.2]) := by
  refine go Tryz.func53 ?_
  repeat refine d1 ?_
  refine dK (takeI_d b hb s hs lim hl) [0, 3] [] ?_
  intro r hr
  repeat refine d1 ?_
  exact dEO r [0]
theorem text_d (lim : Nat) (hl : lim ≤ 2000000) : FnD Tryz.prog Kn 58 1 [.bp 0 0, I64 lim] [rsC b s] 1 (RdOK ([] : List UInt8) TxtOK b s) (fun r => .s r.1) (fun r => [rsC b r.2]) := by
  refine go Tryz.func58 ?_
  repeat refine d1 ?_
  refine dK (takeT_d b hb s hs lim hl) [0, 3] [] ?_
  intro r hr
  repeat refine d1 ?_
  exact dEO r [0]
end
theorem RdOK.rng {b : List UInt8} {s : RS} {r : Int × RS} (h : RdOK (0 : Int) VtOK b s r) : 0 ≤ r.1 ∧ r.1 < 18446744073709551616 := by
  by_cases h0 : s.e = 0
  · obtain ⟨q, h1, h2, h3⟩ := h.on h0
    by_cases h4 : q.2.2 = 0
    · rw [h3 h4]; exact ⟨h1.v, h1.u⟩
    · rw [h2 h4]; exact ⟨Int.le_refl _, (by decide : (0 : Int) < _)⟩
  · rw [h.bad h0]; exact ⟨Int.le_refl _, (by decide : (0 : Int) < _)⟩
theorem RdOK.num {b t : List UInt8} {s : RS} {r : Int × RS} (h : RdOK (0 : Int) VtOK b s r) (h0 : s.e = 0) (hb : b.drop s.i = 5 :: t) : r = (5, ⟨s.i + 1, s.e⟩) := by
  obtain ⟨q, h1, _, h3⟩ := h.on h0
  have := h1.one 5 t hb (.inl rfl)
  subst this
  exact h3 rfl
theorem RdOK.int {b t : List UInt8} {s : RS} {r : Int × RS} (h : RdOK (0 : Int) IntOK b s r) (h0 : s.e = 0) (hb : b.drop s.i = 0 :: t) : r = (0, ⟨s.i + 1, s.e⟩) := by
  obtain ⟨q, h1, _, h3⟩ := h.on h0
  have := h1.zero t hb
  subst this
  exact h3 rfl
theorem RdOK.rest {b : List UInt8} {s : RS} {r : List UInt8 × RS} (h : RdOK ([] : List UInt8) RestOK b s r) (h0 : s.e = 0) : r = (b.drop s.i, ⟨s.i + (b.drop s.i).length, s.e⟩) := by
  obtain ⟨q, h1, _, h3⟩ := h.on h0
  have := h1.eq
  subst this
  exact h3 rfl
section
variable (b : List UInt8) (hb : b.length ≤ 9223372036854775807)
include hb
theorem takeCancel_d : FnD Tryz.prog Kn 76 0 [.s b] [] 0 (fun r : Int × Int => (0 ≤ r.1 ∧ r.1 < 18446744073709551616) ∧ (b = [5] → r = (5, 0))) (fun r => .tup [U64 r.1, I64 r.2]) (fun _ => []) := by
  refine go Tryz.func76 ?_
  repeat refine d1 ?_
  refine dK (rdNew_d b) [] [1000] ?_
  rintro r -
  repeat refine d1 ?_
  refine dK (num_d b hb ⟨0, 0⟩ (Nat.zero_le _)) [1000] [] ?_
  rintro ⟨v, s1⟩ hr
  have hf : b = [5] → v = 5 ∧ s1 = ⟨1, 0⟩ := fun h => by subst h; have := hr.num (t := []) rfl rfl; simpa using this
  repeat refine d1 ?_
  refine dK (done_d b s1) [1000] [] ?_
  rintro e he
  repeat refine d1 ?_
  refine d2 ?_ ?_ <;> intro h <;> repeat refine d1 ?_
  · exact dEL (0, 1) ⟨⟨by decide, by decide⟩, fun h5 => by obtain ⟨rfl, rfl⟩ := hf h5; subst h5; simp at he; exact absurd he h⟩ rfl rfl
  · exact dEL (v, 0) ⟨hr.rng, fun h5 => by rw [(hf h5).1]⟩ rfl rfl
theorem takeSchema_d : FnD Tryz.prog Kn 30 0 [.s b] [] 0 (fun r : Int × List UInt8 × Int => 0 ≤ r.1 ∧ r.1 < 18446744073709551616) (fun r => .tup [U64 r.1, .s r.2.1, I64 r.2.2]) (fun _ => []) := by
  refine go Tryz.func30 ?_
  repeat refine d1 ?_
  refine dK (rdNew_d b) [] [1000] ?_
  rintro r -
  repeat refine d1 ?_
  refine dK (num_d b hb ⟨0, 0⟩ (Nat.zero_le _)) [1000] [] ?_
  rintro ⟨v, s1⟩ hr
  repeat refine d1 ?_
  refine dK (rest_d b hb s1 hr.le) [1000] [] ?_
  rintro ⟨t, s2⟩ hr2
  repeat refine d1 ?_
  refine dK (done_d b s2) [1000] [] ?_
  rintro e he
  repeat refine d1 ?_
  refine d2 ?_ ?_ <;> intro h <;> repeat refine d1 ?_
  · exact dEL (0, [], 1) ⟨by decide, by decide⟩ rfl rfl
  · exact dEL (v, t, 0) hr.rng rfl rfl
theorem takeCall_d : FnD Tryz.prog Kn 29 0 [.s b] [] 0 (fun r : (Int × Int × Int × List UInt8) × Int => (0 ≤ r.1.1 ∧ r.1.1 < 18446744073709551616) ∧ (b = [5, 0, 0] → r = ((5, 0, 0, []), 0))) (fun r => .tup [.agg [U64 r.1.1, I64 r.1.2.1, I64 r.1.2.2.1, .s r.1.2.2.2], I64 r.2]) (fun _ => []) := by
  refine go Tryz.func29 ?_
  repeat refine d1 ?_
  refine dK (rdNew_d b) [] [1000] ?_
  rintro r -
  repeat refine d1 ?_
  refine dK (num_d b hb ⟨0, 0⟩ (Nat.zero_le _)) [1000] [] ?_
  rintro ⟨v, s1⟩ h1
  repeat refine d1 ?_
  refine dK (int_d b hb s1 h1.le 1048576 (by decide)) [1000] [] ?_
  rintro ⟨w, s2⟩ h2
  repeat refine d1 ?_
  refine dK (int_d b hb s2 h2.le 1048576 (by decide)) [1000] [] ?_
  rintro ⟨n, s3⟩ h3
  repeat refine d1 ?_
  refine dK (rest_d b hb s3 h3.le) [1000] [] ?_
  rintro ⟨t, s4⟩ h4
  have hf : b = [5, 0, 0] → v = 5 ∧ w = 0 ∧ n = 0 ∧ t = [] ∧ s4 = ⟨3, 0⟩ := fun h => by
    subst h
    have k1 := h1.num (t := [0, 0]) rfl rfl
    simp only [Prod.mk.injEq] at k1
    obtain ⟨rfl, rfl⟩ := k1
    have k2 := h2.int (t := [0]) rfl rfl
    simp only [Prod.mk.injEq] at k2
    obtain ⟨rfl, rfl⟩ := k2
    have k3 := h3.int (t := []) rfl rfl
    simp only [Prod.mk.injEq] at k3
    obtain ⟨rfl, rfl⟩ := k3
    have k4 := h4.rest rfl
    simpa using k4
  repeat refine d1 ?_
  refine dK (done_d b s4) [1000] [] ?_
  rintro e he
  repeat refine d1 ?_
  refine d2 ?_ ?_ <;> intro h <;> repeat refine d1 ?_
  · exact dEL ((0, 0, 0, []), 1) ⟨⟨by decide, by decide⟩, fun h5 => by obtain ⟨rfl, rfl, rfl, rfl, rfl⟩ := hf h5; subst h5; simp at he; exact absurd he h⟩ rfl rfl
  · exact dEL ((v, w, n, t), 0) ⟨h1.rng, fun h5 => by obtain ⟨rfl, rfl, rfl, rfl, rfl⟩ := hf h5; rfl⟩ rfl rfl
theorem takeBind_d : FnD Tryz.prog Kn 31 0 [.s b] [] 0 (fun r : (Int × Int × List UInt8 × List UInt8 × Int) × Int => 0 ≤ r.1.1 ∧ r.1.1 < 18446744073709551616) (fun r => .tup [.agg [U64 r.1.1, I64 r.1.2.1, .s r.1.2.2.1, .s r.1.2.2.2.1, I64 r.1.2.2.2.2], I64 r.2]) (fun _ => []) := by
  refine go Tryz.func31 ?_
  repeat refine d1 ?_
  refine dK (rdNew_d b) [] [1000] ?_
  rintro r -
  repeat refine d1 ?_
  refine dK (num_d b hb ⟨0, 0⟩ (Nat.zero_le _)) [1000] [] ?_
  rintro ⟨v, s1⟩ h1
  repeat refine d1 ?_
  refine dK (int_d b hb s1 h1.le 1048576 (by decide)) [1000] [] ?_
  rintro ⟨w, s2⟩ h2
  repeat refine d1 ?_
  refine dK (text_d b hb s2 h2.le 16 (by decide)) [1000] [] ?_
  rintro ⟨n, s3⟩ h3
  repeat refine d1 ?_
  refine dK (text_d b hb s3 h3.le 16 (by decide)) [1000] [] ?_
  rintro ⟨t, s4⟩ h4
  repeat refine d1 ?_
  refine dK (int_d b hb s4 h4.le 1048576 (by decide)) [1000] [] ?_
  rintro ⟨o, s5⟩ h5
  repeat refine d1 ?_
  refine dK (done_d b s5) [1000] [] ?_
  rintro e he
  repeat refine d1 ?_
  refine d2 ?_ ?_ <;> intro h <;> repeat refine d1 ?_
  · exact dEL ((0, 0, [], [], 0), 1) ⟨by decide, by decide⟩ rfl rfl
  · exact dEL ((v, w, n, t, o), 0) h1.rng rfl rfl
end
end Go.Proofs

/- The kit's contracts of library functions at this seat, as its tool lay-plain wrote them; remarks are struck. -/
namespace Go.Proofs
open Go.Shelf

def Tryz.lays156_ren : Go.Shelf.Ren := ⟨fun | 156 => 139 | 165 => 182 | 166 => 122 | 169 => 123 | 240 => 163 | 241 => 233 | 276 => 202 | 277 => 282 | n => n, fun | 31 => 152 | 9 => 9 | 3 => 3 | 4 => 4 | 0 => 0 | 20 => 20 | 72 => 240 | 76 => 243 | 70 => 238 | 37 => 173 | 75 => 242 | 127 => 296 | 164 => 352 | 5 => 5 | 80 => 39 | n => n, fun | n => n⟩
theorem Tryz.lays156 : Go.Proofs.Lays.n156 Tryz.prog Tryz.lays156_ren := {
  mixed := by kernel_rfl
  f156 := Tryz.func139.trans (congrArg some (by kernel_rfl))
  f165 := Tryz.func182.trans (congrArg some (by kernel_rfl))
  f166 := Tryz.func122.trans (congrArg some (by kernel_rfl))
  f169 := Tryz.func123.trans (congrArg some (by kernel_rfl))
  f240 := Tryz.func163.trans (congrArg some (by kernel_rfl))
  f241 := Tryz.func233.trans (congrArg some (by kernel_rfl))
  f276 := Tryz.func202.trans (congrArg some (by kernel_rfl))
  f277 := Tryz.func282.trans (congrArg some (by kernel_rfl))
  t0 := Tryz.underlying0
  a0 := Tryz.isAgg0
  z0 := Tryz.sizeOf0
  v0 := Tryz.zeroValue0
  t3 := Tryz.underlying3
  a3 := Tryz.isAgg3
  z3 := Tryz.sizeOf3
  v3 := Tryz.zeroValue3
  t4 := Tryz.underlying4
  a4 := Tryz.isAgg4
  z4 := Tryz.sizeOf4
  v4 := Tryz.zeroValue4
  t9 := Tryz.underlying9
  a9 := Tryz.isAgg9
  z9 := Tryz.sizeOf9
  v9 := Tryz.zeroValue9
  t20 := Tryz.underlying20
  a20 := Tryz.isAgg20
  z20 := Tryz.sizeOf20
  v20 := Tryz.zeroValue20
  t31 := Tryz.underlying152
  a31 := Tryz.isAgg152
  z31 := Tryz.sizeOf152
  v31 := Tryz.zeroValue152
  t37 := Tryz.underlying173
  a37 := Tryz.isAgg173
  z37 := Tryz.sizeOf173
  v37 := Tryz.zeroValue173
  t70 := Tryz.underlying238
  a70 := Tryz.isAgg238
  z70 := Tryz.sizeOf238
  v70 := Tryz.zeroValue238
  t72 := Tryz.underlying240
  a72 := Tryz.isAgg240
  z72 := Tryz.sizeOf240
  v72 := Tryz.zeroValue240
  t75 := Tryz.underlying242
  a75 := Tryz.isAgg242
  z75 := Tryz.sizeOf242
  v75 := Tryz.zeroValue242
  t76 := Tryz.underlying243
  a76 := Tryz.isAgg243
  z76 := Tryz.sizeOf243
  v76 := Tryz.zeroValue243
  t127 := Tryz.underlying296
  a127 := Tryz.isAgg296
  z127 := Tryz.sizeOf296
  v127 := Tryz.zeroValue296
  t164 := Tryz.underlying352
  a164 := Tryz.isAgg352
  z164 := Tryz.sizeOf352
  v164 := Tryz.zeroValue352 }
theorem Tryz.Builder_Extra_156 : Builder.Extra Tryz.prog Tryz.lays156_ren := {
  sizeBuilder := by kernel_rfl
  liesBuilder := by kernel_rfl
  t5 := Tryz.underlying5
  a5 := Tryz.isAgg5
  z5 := Tryz.sizeOf5
  v5 := Tryz.zeroValue5
  infoByte := by kernel_rfl
  cellsByte := by kernel_rfl
  sizeByte := by kernel_rfl
  neB5 := by decide }
open Go.RowKit in
theorem Tryz.strings_Join (bk o c : Nat) (xs : List ByteArray) (sep : ByteArray) (w : World) (hcells : ∀ (j : Nat) x, xs[j]? = some x → w.cell? ⟨bk, o + j, none⟩ = some (.string x)) (hbk : bk < w.heap.size) (hN : xs.length ≤ 140737488355328) (hcap : xs.length ≤ c) (hlen : (Lib.join (xs.map (·.data.toList)) sep.data.toList).length ≤ 140737488355328) :
    Calls Tryz.prog 139 #[.slice (some ⟨bk, o, none⟩) xs.length c, .string sep] w fun e w' => e = .returned (.string ⟨(Lib.join (xs.map (·.data.toList)) sep.data.toList).toArray⟩) ∧ Below w.heap.size w w' := Any.strings_Join Tryz.lays156 Tryz.Builder_Extra_156 bk o c xs sep w hcells hbk hN hcap hlen

def Tryz.lays105_ren : Go.Shelf.Ren := ⟨fun | 105 => 138 | 212 => 180 | 99 => 181 | 165 => 182 | 166 => 122 | 170 => 183 | 169 => 123 | 263 => 230 | 264 => 231 | 206 => 232 | 240 => 163 | 241 => 233 | 276 => 202 | 277 => 282 | n => n, fun | 9 => 9 | 3 => 3 | 4 => 4 | 20 => 20 | 0 => 0 | 46 => 174 | 109 => 310 | 5 => 5 | 72 => 240 | 76 => 243 | 51 => 203 | 146 => 382 | 53 => 34 | 148 => 384 | 70 => 238 | 37 => 173 | 75 => 242 | 127 => 296 | 164 => 352 | 80 => 39 | n => n, fun | n => n⟩
theorem Tryz.lays105 : Go.Proofs.Lays.n105 Tryz.prog Tryz.lays105_ren := {
  mixed := by kernel_rfl
  f99 := Tryz.func181.trans (congrArg some (by kernel_rfl))
  f105 := Tryz.func138.trans (congrArg some (by kernel_rfl))
  f165 := Tryz.func182.trans (congrArg some (by kernel_rfl))
  f166 := Tryz.func122.trans (congrArg some (by kernel_rfl))
  f169 := Tryz.func123.trans (congrArg some (by kernel_rfl))
  f170 := Tryz.func183.trans (congrArg some (by kernel_rfl))
  f206 := Tryz.func232.trans (congrArg some (by kernel_rfl))
  f212 := Tryz.func180.trans (congrArg some (by kernel_rfl))
  f240 := Tryz.func163.trans (congrArg some (by kernel_rfl))
  f241 := Tryz.func233.trans (congrArg some (by kernel_rfl))
  f263 := Tryz.func230.trans (congrArg some (by kernel_rfl))
  f264 := Tryz.func231.trans (congrArg some (by kernel_rfl))
  f276 := Tryz.func202.trans (congrArg some (by kernel_rfl))
  f277 := Tryz.func282.trans (congrArg some (by kernel_rfl))
  t0 := Tryz.underlying0
  a0 := Tryz.isAgg0
  z0 := Tryz.sizeOf0
  v0 := Tryz.zeroValue0
  t3 := Tryz.underlying3
  a3 := Tryz.isAgg3
  z3 := Tryz.sizeOf3
  v3 := Tryz.zeroValue3
  t4 := Tryz.underlying4
  a4 := Tryz.isAgg4
  z4 := Tryz.sizeOf4
  v4 := Tryz.zeroValue4
  t5 := Tryz.underlying5
  a5 := Tryz.isAgg5
  z5 := Tryz.sizeOf5
  v5 := Tryz.zeroValue5
  t9 := Tryz.underlying9
  a9 := Tryz.isAgg9
  z9 := Tryz.sizeOf9
  v9 := Tryz.zeroValue9
  t20 := Tryz.underlying20
  a20 := Tryz.isAgg20
  z20 := Tryz.sizeOf20
  v20 := Tryz.zeroValue20
  t37 := Tryz.underlying173
  a37 := Tryz.isAgg173
  z37 := Tryz.sizeOf173
  v37 := Tryz.zeroValue173
  t46 := Tryz.underlying174
  a46 := Tryz.isAgg174
  z46 := Tryz.sizeOf174
  v46 := Tryz.zeroValue174
  t51 := Tryz.underlying203
  a51 := Tryz.isAgg203
  z51 := Tryz.sizeOf203
  v51 := Tryz.zeroValue203
  t53 := Tryz.underlying34
  a53 := Tryz.isAgg34
  z53 := Tryz.sizeOf34
  v53 := Tryz.zeroValue34
  t70 := Tryz.underlying238
  a70 := Tryz.isAgg238
  z70 := Tryz.sizeOf238
  v70 := Tryz.zeroValue238
  t72 := Tryz.underlying240
  a72 := Tryz.isAgg240
  z72 := Tryz.sizeOf240
  v72 := Tryz.zeroValue240
  t75 := Tryz.underlying242
  a75 := Tryz.isAgg242
  z75 := Tryz.sizeOf242
  v75 := Tryz.zeroValue242
  t76 := Tryz.underlying243
  a76 := Tryz.isAgg243
  z76 := Tryz.sizeOf243
  v76 := Tryz.zeroValue243
  t109 := Tryz.underlying310
  a109 := Tryz.isAgg310
  z109 := Tryz.sizeOf310
  v109 := Tryz.zeroValue310
  t127 := Tryz.underlying296
  a127 := Tryz.isAgg296
  z127 := Tryz.sizeOf296
  v127 := Tryz.zeroValue296
  t146 := Tryz.underlying382
  a146 := Tryz.isAgg382
  z146 := Tryz.sizeOf382
  v146 := Tryz.zeroValue382
  t148 := Tryz.underlying384
  a148 := Tryz.isAgg384
  z148 := Tryz.sizeOf384
  v148 := Tryz.zeroValue384
  t164 := Tryz.underlying352
  a164 := Tryz.isAgg352
  z164 := Tryz.sizeOf352
  v164 := Tryz.zeroValue352 }
theorem Tryz.Builder_Extra_105 : Builder.Extra Tryz.prog Tryz.lays105_ren := {
  sizeBuilder := by kernel_rfl
  liesBuilder := by kernel_rfl
  t5 := Tryz.underlying5
  a5 := Tryz.isAgg5
  z5 := Tryz.sizeOf5
  v5 := Tryz.zeroValue5
  infoByte := by kernel_rfl
  cellsByte := by kernel_rfl
  sizeByte := by kernel_rfl
  neB5 := by decide }
open Go.RowKit Go.Lib in
theorem Tryz.strings_Repeat_main (s : ByteArray) (c : Nat) (w : World) (hc2 : 2 ≤ c) (hc : c ≤ 9223372036854775807) (hlen : s.size * c ≤ 140737488355328) (h0 : 0 < s.size) :
    Calls Tryz.prog 138 #[.string s, .int .i64 c] w fun e w' => e = .returned (.string ⟨(Lib.repeatL s.data.toList c).toArray⟩) ∧ Below w.heap.size w w' := Any.strings_Repeat_main Tryz.lays105 Tryz.Builder_Extra_105 s c w hc2 hc hlen h0
open Go.RowKit Go.Lib in
theorem Tryz.strings_Repeat_zero (s : ByteArray) (w : World) :
    Calls Tryz.prog 138 #[.string s, .int .i64 0] w fun e w' => e = .returned (.string ⟨#[]⟩) ∧ w' = w := Any.strings_Repeat_zero Tryz.lays105 s w
open Go.RowKit Go.Lib in
theorem Tryz.strings_Repeat_one (s : ByteArray) (w : World) :
    Calls Tryz.prog 138 #[.string s, .int .i64 1] w fun e w' => e = .returned (.string s) ∧ w' = w := Any.strings_Repeat_one Tryz.lays105 s w
open Go.RowKit Go.Lib in
theorem Tryz.strings_Repeat_empty (s : ByteArray) (c : Nat) (w : World) (hc2 : 2 ≤ c) (hc : c ≤ 9223372036854775807) (h0 : s.size = 0) :
    Calls Tryz.prog 138 #[.string s, .int .i64 c] w fun e w' => e = .returned (.string ⟨#[]⟩) ∧ w' = w := Any.strings_Repeat_empty Tryz.lays105 s c w hc2 hc h0
open Go.RowKit Go.Lib in
theorem Tryz.strings_Repeat (s : ByteArray) (c : Nat) (w : World) (hc : c ≤ 9223372036854775807) (hlen : s.size * c ≤ 140737488355328) :
    Calls Tryz.prog 138 #[.string s, .int .i64 c] w fun e w' => e = .returned (.string ⟨(Lib.repeatL s.data.toList c).toArray⟩) ∧ Below w.heap.size w w' := Any.strings_Repeat Tryz.lays105 Tryz.Builder_Extra_105 s c w hc hlen
end Go.Proofs

/- Replies as bytes. -/
set_option linter.unusedSimpArgs false
set_option linter.unusedVariables false
set_option maxRecDepth 100000
namespace Go.Proofs
open Go.E
variable {Kn : IM}
theorem bounded_d (e : Int) : FnD Tryz.prog Kn 38 0 [I64 e] [] 0 (fun r : Bool => r = decide (0 ≤ e ∧ e ≤ 1048576)) B (fun _ => []) := by
  refine go Tryz.func38 ?_
  repeat' (first | refine d1 ?_ | refine d2 ?_ ?_ <;> intro h)
  all_goals exact dEL _ (by by_cases 0 ≤ e <;> by_cases e ≤ 1048576 <;> simp_all) rfl rfl
theorem known_d (k : Int) : FnD Tryz.prog Kn 140 0 [I64 k] [] 0 (fun _ : Bool => True) B (fun _ => []) := goA Tryz.func140
theorem most_d : FnD Tryz.prog Kn 155 0 [] [] 0 (fun _ : Unit => True) (fun _ => I64 1022) (fun _ => []) := by
  refine go Tryz.func155 ?_
  repeat refine d1 ?_
  exact dEL () trivial rfl rfl
theorem class_d (n : Nat) : FnD Tryz.prog Kn 111 0 [I64 n] [] 0 (fun r : Int × Int => r.2 = 0 → (n : Int) + 2 ≤ r.1 ∧ r.1 ≤ 3000) (fun r => .tup [I64 r.1, I64 r.2]) (fun _ => []) := by
  refine go Tryz.func111 ?_
  repeat' (first | exact dEL (0, 1) (fun h => absurd h (by decide)) rfl rfl | exact dEL (0, 3) (fun h => absurd h (by decide)) rfl rfl | refine d1 ?_ | (refine dK most_d [] [] ?_; rintro r -) | refine d2 ?_ ?_ <;> intro h)
  refine dW (fun c : Nat => ⟨[(4, I64 c), (0, I64 n)], [], []⟩) (fun c => 32 ≤ c ∧ c ≤ 2100) (fun c => 3000 - c) 32 ⟨by decide, by decide⟩ (Le.g [] [] []) ?_
  intro c hc J hJ
  dsimp only at hc ⊢
  repeat' (first | refine d1 ?_ | refine d2 ?_ ?_ <;> intro h2)
  · exact dEL (c, 0) (fun _ => ⟨by omega, by omega⟩) rfl rfl
  · exact hJ (c * 2) _ (by omega) (by omega) (Le.g [] [] [])
theorem framePut_d (k : Int) (b : List UInt8) (hb : b.length ≤ 140737488455328) : FnD Tryz.prog Kn 84 0 [.agg [I64 k, I64 0, .s b]] [] 0 (fun r : List UInt8 × Int => True) (fun r => .tup [.s r.1, I64 r.2]) (fun _ => []) := by
  refine go Tryz.func84 ?_
  repeat' (first | exact dEL ([], 4) trivial rfl rfl | exact dEL ([], 1) trivial rfl rfl | exact dEL ([], 3) trivial rfl rfl | refine d1 ?_ | (refine dK (known_d _) [] [] ?_; rintro r -) | refine d2 ?_ ?_ <;> intro h)
  refine dSa 4 4 Tryz.tabOK ?_
  refine dBa [IntKind.u8.wrap k, 0, IntKind.u8.wrap ((b.length : Int).fdiv (2 ^ min (Int.toNat 8) IntKind.i64.bits)), IntKind.u8.wrap b.length] Tryz.tabOK ?_ (hr := fun q hq => by
    obtain rfl | rfl | rfl | rfl : q = 0 ∨ q = 1 ∨ q = 2 ∨ q = 3 := by omega
    all_goals rfl)
  repeat' (first | refine d1 ?_ | refine dG (fun _ => rfl) (by simp [txt]; omega) ?_)
  exact dEL (_, 0) trivial rfl rfl
theorem Repeat_d (k : Int) (h0 : 0 ≤ k) (hk : k ≤ 4000) : FnD Tryz.prog Kn 138 0 [.s [0], I64 k] [] 0 (fun r : List UInt8 => r.length = k.toNat) .s (fun _ => []) := by
  obtain ⟨k, rfl⟩ := Int.eq_ofNat_of_zero_le h0
  exact ⟨Lib.repeatL [0] k, by
    have : ∀ k, (Lib.repeatL [(0 : UInt8)] k).length = k := fun k => by
      induction k with
      | zero => rfl
      | succ k ih => simp only [Lib.repeatL] at ih ⊢; simp_all [List.replicate_succ]
    exact (this k).trans (Int.toNat_natCast k).symm, FnE.ofCalls (vs := [S [0], .int .i64 k]) (v := S (Lib.repeatL [0] k)) ⟨_, Tryz.func138, rfl, by decide⟩ (fun e cargs h => by simpa [RepT, Rep] using h) (fun e => by simp only [Rep]) fun w _ => by
    have := Tryz.strings_Repeat ⟨#[0]⟩ k w (by omega) (by simp only [ByteArray.size]; simp; omega)
    rwa [show (⟨#[0]⟩ : ByteArray).data.toList = [0] from rfl] at this⟩
abbrev row3 (x y z : List UInt8) : List Ch := [.vec 0 1 3 (chunkRow 1 [.s x, .s y, .s z])]
theorem Join_d (x y z : List UInt8) (h : x.length + y.length + z.length ≤ 140737488355328) : FnD Tryz.prog Kn 139 1 [.own 0 1 0 3, .s []] (row3 x y z) 1 (fun r : List UInt8 => r = x ++ y ++ z) .s (fun _ => []) :=
  ⟨_, rfl, FnE.ofBelow (v := S (x ++ y ++ z)) ⟨_, Tryz.func139, rfl, by decide⟩ (fun e => by simp only [Rep]) fun e w cargs F him _ hr hsep => by
    simp only [RepT, Rep] at hr
    obtain ⟨v0, zs, rfl, ⟨b, β, κ, a, h1, h2, rfl, h3⟩, v1, zs1, rfl, rfl, rfl⟩ := hr
    obtain ⟨F1, F2, ⟨b', β', κ', g1, g2, g3, g4, g5, g6⟩, _⟩ := hsep
    rw [h1] at g1; cases g1
    have ha := h3 (by omega)
    subst ha
    have hcell : ∀ (j : Nat) (u : List UInt8), j < 3 → (chunkRow 1 [AV.s x, AV.s y, AV.s z]) j = [.s u] → w.cell? ⟨b, β + 0 * 1 + j, none⟩ = some (S u) := by
      intro j u hj he
      obtain ⟨r1, r2⟩ := g6 j hj
      obtain ⟨q, q1, q2, _⟩ := r2 0 (.s u) (by rw [he]; rfl)
      simp only [Rep] at q2
      subst q2
      have := q1.cell
      rwa [show β + j * 1 + 0 = β + 0 * 1 + j by omega] at this
    have c0 := hcell 0 x (by omega) rfl
    have hj := Tryz.strings_Join b (β + 0 * 1) (κ - 0) [⟨x.toArray⟩, ⟨y.toArray⟩, ⟨z.toArray⟩] ⟨#[]⟩ w (fun j u hu => by
      match j, hu with
      | 0, hu => simp at hu; subst hu; exact c0
      | 1, hu => simp at hu; subst hu; exact hcell 1 y (by omega) rfl
      | 2, hu => simp at hu; subst hu; exact hcell 2 z (by omega) rfl
      | j + 3, hu => simp at hu) (block_lt_of_cell c0) (by simp only [List.length_cons, List.length_nil]; omega) (by simp only [List.length_cons, List.length_nil]; omega) (by simp [Lib.join]; omega)
    refine (show Calls Tryz.prog 139 _ w _ from hj).mono ?_
    rintro en w' ⟨rfl, hb⟩
    exact ⟨by simp [S, Lib.join], hb⟩⟩
theorem row_d3 (x y z : List UInt8) (h : x.length + y.length + z.length ≤ 140737488355328) : FnD Tryz.prog Kn 83 1 [.own 0 1 0 3] (row3 x y z) 1 (fun r : List UInt8 => r = x ++ y ++ z) .s (fun _ => []) := by
  refine go Tryz.func83 ?_
  repeat refine d1 ?_
  refine dK (Join_d x y z h) [0] [] ?_
  rintro _ rfl
  repeat refine d1 ?_
  exact dEO (x ++ y ++ z) [0]
theorem pad_d (s : List UInt8) (hs : s.length ≤ 140737488355328) : FnD Tryz.prog Kn 82 0 [.s s] [] 0 (fun r : List UInt8 × Int => r.1.length ≤ 140737488455328) (fun r => .tup [.s r.1, I64 r.2]) (fun _ => []) := by
  refine go Tryz.func82 ?_
  repeat refine d1 ?_
  obtain ⟨⟨cl, e⟩, hc, hF⟩ := class_d (Kn := Kn) s.length
  dsimp only at hc hF
  refine dK hF.d [] [] ?_
  rintro r -
  repeat refine d1 ?_
  refine d2 ?_ ?_ <;> intro h <;> repeat refine d1 ?_
  · exact dEL ([], e) (Nat.zero_le _) rfl rfl
  obtain ⟨h1, h2⟩ := hc (by simpa using h)
  refine dBt [IntKind.u8.wrap ((s.length : Int).fdiv (2 ^ min (Int.toNat 8) IntKind.i64.bits)), IntKind.u8.wrap s.length] Tryz.tabOK ?_ (hl := rfl) (him := Nat.le_refl 2) (hr := fun q hq => by
    obtain rfl | rfl : q = 0 ∨ q = 1 := by have hq : q < 2 := hq; omega
    all_goals rfl)
  repeat' (first | refine d1 ?_ | refine dG (fun _ => rfl) (by simp [txt]; omega) ?_)
  refine dK (Repeat_d _ ?ha ?hb) [] [] ?_
  case ha => omega
  case hb => omega
  intro z hz
  repeat' (first | refine d1 ?_ | refine dG (fun _ => rfl) (by simp [txt]; omega) ?_)
  exact dEL (_, 0) (by simp [txt, hz]; omega) rfl rfl
/-- A reply's bytes. -/
theorem replyPut_e (id st : Int) (d : List UInt8) (h0 : 0 ≤ id) (h1 : id < 18446744073709551616) (hd : d.length ≤ 1000000) : FnD Tryz.prog Kn 39 0 [.agg [U64 id, I64 st, .s d]] [] 0 (fun _ : List UInt8 × Int => True) (fun r => .tup [.s r.1, I64 r.2]) (fun _ => []) := by
  refine go Tryz.func39 ?_
  repeat refine d1 ?_
  refine dK (bounded_d st) [] [] ?_
  rintro _ rfl
  repeat refine d1 ?_
  refine d2 ?_ ?_ <;> intro h <;> repeat refine d1 ?_
  · exact dEL ([], 1) trivial rfl rfl
  refine dK (vPut_d st h.1 ?hs) [] [] ?_
  case hs => omega
  rintro x ⟨hx, -⟩
  repeat refine d1 ?_
  refine dK (vPut_d id h0 h1) [] [] ?_
  rintro y ⟨hy, -⟩
  repeat refine d1 ?_
  refine dK (row_d3 x y d (by omega)) [20] [] ?_
  rintro _ rfl
  repeat refine d1 ?_
  obtain ⟨⟨p, e⟩, hp, hF⟩ := pad_d (Kn := Kn) (x ++ y ++ d) (by simp; omega)
  dsimp only at hp hF
  refine dK hF.d [] [] ?_
  rintro r -
  repeat refine d1 ?_
  refine d2 ?_ ?_ <;> intro h2 <;> repeat refine d1 ?_
  · exact dEL ([], 3) trivial rfl rfl
  refine dK (framePut_d 9 p ?hs) [] [] ?_
  case hs => exact hp
  rintro ⟨f, fe⟩ -
  repeat refine d1 ?_
  exact dEL (f, fe) trivial rfl rfl
/-- What reply.Put gives. -/
noncomputable def putF (Kn : IM) (id st : Int) (d : List UInt8) : List UInt8 × Int := Classical.epsilon fun r => FnE Tryz.prog Kn 39 0 [.agg [U64 id, I64 st, .s d]] [] 0 (.tup [.s r.1, I64 r.2]) []
theorem replyPut_d (id st : Int) (d : List UInt8) (h0 : 0 ≤ id) (h1 : id < 18446744073709551616) (hd : d.length ≤ 1000000) : FnD Tryz.prog Kn 39 0 [.agg [U64 id, I64 st, .s d]] [] 0 (fun r : List UInt8 × Int => r = putF Kn id st d) (fun r => .tup [.s r.1, I64 r.2]) (fun _ => []) :=
  ⟨_, rfl, Classical.epsilon_spec (let ⟨r, _, h⟩ := replyPut_e (Kn := Kn) id st d h0 h1 hd; ⟨r, h⟩)⟩
theorem fail_d20 (id e : Int) (h0 : 0 ≤ id) (h1 : id < 18446744073709551616) (he : 0 ≤ e ∧ e ≤ 1048576) : FnD Tryz.prog Kn 20 0 [U64 id, I64 e] [] 0 (fun r : List UInt8 => r = (putF Kn id e []).1) .s (fun _ => []) := by
  refine go Tryz.func20 ?_
  repeat refine d1 ?_
  refine dK (bounded_d e) [] [] ?_
  rintro _ rfl
  repeat refine d1 ?_
  refine d2 ?_ ?_ <;> intro h <;> repeat refine d1 ?_
  · exact absurd he h
  refine dK (replyPut_d id e [] h0 h1 (by decide)) [] [] ?_
  rintro _ rfl
  repeat refine d1 ?_
  exact dEL _ rfl rfl rfl
end Go.Proofs

/- A space: what is kept of responses; cancels. -/
set_option linter.unusedSimpArgs false
set_option linter.unusedVariables false
set_option maxRecDepth 100000
namespace Go.Proofs
open Go.E
variable {Kn : IM}
abbrev NULL : AV := .v (.pointer none)
abbrev NMAP : AV := .v (.map none)
def u64C (x : Int) : List AV := [U64 x]
def dsC (l : Arr De) : List AV := [SL 5 deC l, .v (.int .u32 0), .v (.int .i32 0), .v (.int .u32 0), .v (.pointer none), .v (.map none)]
def nOf : Bool → AV
  | true => I64 1
  | false => I64 0
/-- A space in which nothing is bound: has it a schema; is a response kept, under which id; the cancels. -/
structure Sp where
  h : Bool
  l : Arr De
  k : Bool
  id : Int
  s : List UInt8
  y : Arr Int
def spN : Bool → Nat
  | true => 3
  | false => 2
def spD (h : Bool) (dn : Nat := 2) : AV := match h with
  | true => .bp dn 0
  | false => NULL
def Sp.cells (x : Sp) (d : AV) (yn : Nat := 1) : List AV := [d, NIL, NMAP, I64 0, NMAP, I64 0, NMAP, I64 0, NMAP, I64 0,
  U64 x.id, .s x.s, U64 0, .s [], U64 0, .s [], U64 0, .s [], U64 0, .s [], U64 0, .s [], U64 0, .s [], U64 0, .s [], nOf x.k, nOf x.k, .own yn 1 0 x.y.n]
def spO (x : Sp) (yn : Nat := 1) (dn : Nat := 2) : List Ch := .box 0 (x.cells (spD x.h dn) yn) :: VEC yn 1 u64C x.y :: (match x.h with
  | true => [.box dn (dsC x.l)]
  | false => [])
def spL (h : Bool) (a b c : Nat) : List Nat := match h with
  | true => [a, b, c]
  | false => [a, b]
def kpC (x : Sp) : AV := .sl (match x.k with
  | true => 1
  | false => 0) 2 (fun _ => [U64 x.id, .s x.s])
theorem all_d (x : Sp) : FnD Tryz.prog Kn 59 (spN x.h) [.bp 0 10] (spO x) (spN x.h) (fun _ : Unit => True) (fun _ => kpC x) (fun _ => spO x) := by
  obtain ⟨h, l, k, id, s, y⟩ := x
  cases h <;> cases k
  all_goals
    refine go Tryz.func59 ?_
    repeat refine d1 ?_
    first
      | (refine dSa 0 0 Tryz.tabOK ?_; (repeat refine d1 ?_); refine dSa 0 8 Tryz.tabOK ?_; (repeat refine d1 ?_); refine dAz Tryz.tabOK ?_; repeat refine d1 ?_)
      | (refine dSa 1 1 Tryz.tabOK ?_; (repeat refine d1 ?_); refine dSa 1 8 Tryz.tabOK ?_; (repeat refine d1 ?_); refine dAa 8 Tryz.tabOK ?_; repeat refine d1 ?_)
  · refine dT ⟨[(2, kpC ⟨false, l, false, id, s, y⟩)], spO ⟨false, l, false, id, s, y⟩, [0, 1]⟩ (Le.g [] [] [0, 1] (hs := by exact ⟨⟨_, rfl, RI.sl rfl (fun i hi => absurd hi (Nat.not_lt_zero _))⟩, trivial⟩)) ?_
    exact dEO () [0, 1]
  · refine dFe 27 ?_
    refine dT ⟨[(2, kpC ⟨false, l, true, id, s, y⟩)], spO ⟨false, l, true, id, s, y⟩, [0, 1]⟩ (Le.g [] [] [0, 1] (hs := by exact ⟨⟨_, rfl, RI.sl rfl (fun i hi => by
      obtain rfl : i = 0 := by have hi : i < 1 := hi; omega
      rfl)⟩, trivial⟩)) ?_
    exact dEO () [0, 1]
  · refine dT ⟨[(2, kpC ⟨true, l, false, id, s, y⟩)], spO ⟨true, l, false, id, s, y⟩, [0, 1, 2]⟩ (Le.g [] [] [0, 1, 2] (hs := by exact ⟨⟨_, rfl, RI.sl rfl (fun i hi => absurd hi (Nat.not_lt_zero _))⟩, trivial⟩)) ?_
    exact dEO () [0, 1, 2]
  · refine dFe 27 ?_
    refine dT ⟨[(2, kpC ⟨true, l, true, id, s, y⟩)], spO ⟨true, l, true, id, s, y⟩, [0, 1, 2]⟩ (Le.g [] [] [0, 1, 2] (hs := by exact ⟨⟨_, rfl, RI.sl rfl (fun i hi => by
      obtain rfl : i = 0 := by have hi : i < 1 := hi; omega
      rfl)⟩, trivial⟩)) ?_
    exact dEO () [0, 1, 2]
end Go.Proofs

/- A space: responses looked up and put. -/
set_option linter.unusedSimpArgs false
set_option linter.unusedVariables false
set_option maxRecDepth 100000
namespace Go.Proofs
open Go.E
variable {Kn : IM}
def kpN : Bool → Nat
  | true => 1
  | false => 0
def Sp.get (x : Sp) (q : Int) : List UInt8 × Bool := if x.k = true ∧ x.id = q then (x.s, true) else ([], false)
theorem get_d (x : Sp) (q : Int) : FnD Tryz.prog Kn 77 (spN x.h) [.bp 0 10, U64 q] (spO x) (spN x.h) (fun r : List UInt8 × Bool => r = x.get q) (fun r => .tup [.s r.1, B r.2]) (fun _ => spO x) := by
  obtain ⟨h, l, k, id, s, y⟩ := x
  cases h <;> cases k
  · refine go Tryz.func77 ?_
    repeat refine d1 ?_
    refine dK (all_d ⟨false, l, false, id, s, y⟩) [0, 1] [] ?_
    rintro r -
    repeat refine d1 ?_
    refine dW (fun i : Nat => ⟨[(11, I64 i), (10, I64 (kpN false)), (9, .sl (kpN false) 2 (fun _ => [U64 id, .s s])), (1, U64 q)], spO ⟨false, l, false, id, s, y⟩, [0, 1]⟩) (fun i => i ≤ kpN false ∧ (0 < i → id ≠ q)) (fun i => kpN false - i) 0 ⟨Nat.zero_le _, fun h => absurd h (Nat.lt_irrefl _)⟩ (Le.g [] [] [0, 1] (hs := by exact ⟨⟨_, rfl, RI.refl⟩, ⟨_, rfl, RI.refl⟩, ⟨_, rfl, RI.refl⟩, ⟨_, rfl, RI.refl⟩, trivial⟩)) ?_
    rintro i ⟨h1, h2⟩ J hJ
    dsimp only
    have hk1 : kpN false ≤ 1 := by decide
    repeat refine d1 ?_
    exact dEO ([], false) [0, 1] (hp := by simp [Sp.get])
  · refine go Tryz.func77 ?_
    repeat refine d1 ?_
    refine dK (all_d ⟨false, l, true, id, s, y⟩) [0, 1] [] ?_
    rintro r -
    repeat refine d1 ?_
    refine dW (fun i : Nat => ⟨[(11, I64 i), (10, I64 (kpN true)), (9, .sl (kpN true) 2 (fun _ => [U64 id, .s s])), (1, U64 q)], spO ⟨false, l, true, id, s, y⟩, [0, 1]⟩) (fun i => i ≤ kpN true ∧ (0 < i → id ≠ q)) (fun i => kpN true - i) 0 ⟨Nat.zero_le _, fun h => absurd h (Nat.lt_irrefl _)⟩ (Le.g [] [] [0, 1] (hs := by exact ⟨⟨_, rfl, RI.refl⟩, ⟨_, rfl, RI.refl⟩, ⟨_, rfl, RI.refl⟩, ⟨_, rfl, RI.refl⟩, trivial⟩)) ?_
    rintro i ⟨h1, h2⟩ J hJ
    dsimp only
    have hk1 : kpN true ≤ 1 := by decide
    repeat refine d1 ?_
    have e1 : kpN true = 1 := rfl
    refine d2 ?_ ?_ <;> intro h3 <;> repeat refine d1 ?_
    · refine d2 ?_ ?_ <;> intro h4 <;> repeat refine d1 ?_
      · exact dEO (s, true) [0, 1] (hp := by simp [Sp.get, h4])
      · exact hJ (i + 1) _ ⟨by omega, fun _ => h4⟩ (by omega) (Le.g [] [] [0, 1])
    · exact dEO ([], false) [0, 1] (hp := by simp [Sp.get, h2 (by omega)])
  · refine go Tryz.func77 ?_
    repeat refine d1 ?_
    refine dK (all_d ⟨true, l, false, id, s, y⟩) [0, 1, 2] [] ?_
    rintro r -
    repeat refine d1 ?_
    refine dW (fun i : Nat => ⟨[(11, I64 i), (10, I64 (kpN false)), (9, .sl (kpN false) 2 (fun _ => [U64 id, .s s])), (1, U64 q)], spO ⟨true, l, false, id, s, y⟩, [0, 1, 2]⟩) (fun i => i ≤ kpN false ∧ (0 < i → id ≠ q)) (fun i => kpN false - i) 0 ⟨Nat.zero_le _, fun h => absurd h (Nat.lt_irrefl _)⟩ (Le.g [] [] [0, 1, 2] (hs := by exact ⟨⟨_, rfl, RI.refl⟩, ⟨_, rfl, RI.refl⟩, ⟨_, rfl, RI.refl⟩, ⟨_, rfl, RI.refl⟩, trivial⟩)) ?_
    rintro i ⟨h1, h2⟩ J hJ
    dsimp only
    have hk1 : kpN false ≤ 1 := by decide
    repeat refine d1 ?_
    exact dEO ([], false) [0, 1, 2] (hp := by simp [Sp.get])
  · refine go Tryz.func77 ?_
    repeat refine d1 ?_
    refine dK (all_d ⟨true, l, true, id, s, y⟩) [0, 1, 2] [] ?_
    rintro r -
    repeat refine d1 ?_
    refine dW (fun i : Nat => ⟨[(11, I64 i), (10, I64 (kpN true)), (9, .sl (kpN true) 2 (fun _ => [U64 id, .s s])), (1, U64 q)], spO ⟨true, l, true, id, s, y⟩, [0, 1, 2]⟩) (fun i => i ≤ kpN true ∧ (0 < i → id ≠ q)) (fun i => kpN true - i) 0 ⟨Nat.zero_le _, fun h => absurd h (Nat.lt_irrefl _)⟩ (Le.g [] [] [0, 1, 2] (hs := by exact ⟨⟨_, rfl, RI.refl⟩, ⟨_, rfl, RI.refl⟩, ⟨_, rfl, RI.refl⟩, ⟨_, rfl, RI.refl⟩, trivial⟩)) ?_
    rintro i ⟨h1, h2⟩ J hJ
    dsimp only
    have hk1 : kpN true ≤ 1 := by decide
    repeat refine d1 ?_
    have e1 : kpN true = 1 := rfl
    refine d2 ?_ ?_ <;> intro h3 <;> repeat refine d1 ?_
    · refine d2 ?_ ?_ <;> intro h4 <;> repeat refine d1 ?_
      · exact dEO (s, true) [0, 1, 2] (hp := by simp [Sp.get, h4])
      · exact hJ (i + 1) _ ⟨by omega, fun _ => h4⟩ (by omega) (Le.g [] [] [0, 1, 2])
    · exact dEO ([], false) [0, 1, 2] (hp := by simp [Sp.get, h2 (by omega)])
end Go.Proofs

/- A space: responses put; cancels. -/
set_option linter.unusedSimpArgs false
set_option linter.unusedVariables false
set_option maxRecDepth 100000
namespace Go.Proofs
open Go.E
variable {Kn : IM}
theorem put_d81 (h : Bool) (l : Arr De) (id q : Int) (s t : List UInt8) (y : Arr Int) : FnD Tryz.prog Kn 81 (spN h) [.bp 0 10, U64 q, .s t] (spO ⟨h, l, false, id, s, y⟩) (spN h) (fun _ : Unit => True) (fun _ => I64 0) (fun _ => spO ⟨h, l, true, q, t, y⟩) := by
  cases h
  · refine go Tryz.func81 ?_
    repeat refine d1 ?_
    refine dK (get_d ⟨false, l, false, id, s, y⟩ q) [0, 1] [] ?_
    rintro _ rfl
    repeat refine d1 ?_
    exact dEO () [0, 1]
  · refine go Tryz.func81 ?_
    repeat refine d1 ?_
    refine dK (get_d ⟨true, l, false, id, s, y⟩ q) [0, 1, 2] [] ?_
    rintro _ rfl
    repeat refine d1 ?_
    exact dEO () [0, 1, 2]
theorem index_d (l : Arr Int) (hl : l.n ≤ 1000) (x : Int) : FnD Tryz.prog Kn 172 1 [.own 0 1 0 l.n, U64 x] [VEC 0 1 u64C l] 1 (fun r : Int => 0 ≤ r ↔ ∃ i, i < l.n ∧ l.f i = x) I64 (fun _ => [VEC 0 1 u64C l]) := by
  refine go Tryz.func172 ?_
  repeat refine d1 ?_
  refine dW (fun i : Nat => ⟨[(8, I64 i), (7, I64 l.n), (0, .own 0 1 0 l.n), (1, U64 x)], [VEC 0 1 u64C l], [0]⟩) (fun i => i ≤ l.n ∧ ∀ q, q < i → l.f q ≠ x) (fun i => l.n - i) 0 ⟨Nat.zero_le _, fun q hq => absurd hq (Nat.not_lt_zero _)⟩ (Le.g [] [] [0]) ?_
  rintro i ⟨h1, h2⟩ J hJ
  dsimp only
  repeat refine d1 ?_
  refine d2 ?_ ?_ <;> intro h3 <;> repeat refine d1 ?_
  · refine d2 ?_ ?_ <;> intro h4 <;> repeat refine d1 ?_
    · exact dEO (i : Int) [0] (hp := by exact ⟨fun _ => ⟨i, by omega, by simpa using h4.symm⟩, fun _ => by omega⟩)
    · exact hJ (i + 1) _ ⟨by omega, fun q hq h5 => by
        rcases Nat.lt_or_ge q i with h6 | h6
        · exact h2 q h6 h5
        · obtain rfl : q = i := by omega
          exact h4 (by simpa using h5.symm)⟩ (by omega) (Le.g [] [] [0])
  · exact dEO (-1 : Int) [0] (hp := by exact ⟨fun h => absurd h (by decide), fun ⟨q, hq, h5⟩ => absurd h5 (h2 q (by omega))⟩)
theorem contains_d (l : Arr Int) (hl : l.n ≤ 1000) (x : Int) : FnD Tryz.prog Kn 131 1 [.own 0 1 0 l.n, U64 x] [VEC 0 1 u64C l] 1 (fun r : Bool => r = true ↔ ∃ i, i < l.n ∧ l.f i = x) B (fun _ => [VEC 0 1 u64C l]) := by
  refine go Tryz.func131 ?_
  repeat refine d1 ?_
  refine dK (index_d l hl x) [0] [] ?_
  intro r hr
  repeat refine d1 ?_
  exact dEO (decide (0 ≤ r)) [0] (hp := by simpa using hr)
/-- A cancel is kept. -/
theorem yPut_d (h : Bool) (l : Arr De) (k : Bool) (id q : Int) (s : List UInt8) (y : Arr Int) (hy : y.n ≤ 7) : FnD Tryz.prog Kn 78 (spN h) [.bp 0 28, U64 q] (spO ⟨h, l, k, id, s, y⟩) (spN h + 1) (fun r : Bool => r = true ↔ ¬ ∃ i, i < y.n ∧ y.f i = q) B (fun r => match r with
    | true => spO ⟨h, l, k, id, s, y.push q⟩ (spN h)
    | false => spO ⟨h, l, k, id, s, y⟩) := by
  cases h <;> cases k
  · have hy1 : (Sp.y ⟨false, l, false, id, s, y⟩).n = y.n := rfl
    refine go Tryz.func78 ?_
    repeat refine d1 ?_
    refine dK (contains_d y (by omega) q) [1] [] ?_
    intro r hr
    repeat refine d1 ?_
    cases r with
    | true =>
      repeat refine d1 ?_
      exact dEO false [0, 1, 1009] (hp := by exact ⟨fun h => (by cases h), fun h => absurd (hr.1 rfl) h⟩)
    | false =>
      repeat refine d1 ?_
      refine d2 ?_ ?_ <;> intro h3 <;> repeat refine d1 ?_
      · exact absurd h3 (by omega)
      refine dT ⟨[(4, B true)], spO ⟨false, l, false, id, s, y.push q⟩ 1009, [0, 1009, 1]⟩ (Le.g [] [(1009, 22)] [0, 22]) ?_
      exact dEO true [0, 1, 1009] (hp := by exact ⟨fun _ h => absurd (hr.2 h) (by decide), fun _ => rfl⟩)
  · have hy1 : (Sp.y ⟨false, l, true, id, s, y⟩).n = y.n := rfl
    refine go Tryz.func78 ?_
    repeat refine d1 ?_
    refine dK (contains_d y (by omega) q) [1] [] ?_
    intro r hr
    repeat refine d1 ?_
    cases r with
    | true =>
      repeat refine d1 ?_
      exact dEO false [0, 1, 1009] (hp := by exact ⟨fun h => (by cases h), fun h => absurd (hr.1 rfl) h⟩)
    | false =>
      repeat refine d1 ?_
      refine d2 ?_ ?_ <;> intro h3 <;> repeat refine d1 ?_
      · exact absurd h3 (by omega)
      refine dT ⟨[(4, B true)], spO ⟨false, l, true, id, s, y.push q⟩ 1009, [0, 1009, 1]⟩ (Le.g [] [(1009, 22)] [0, 22]) ?_
      exact dEO true [0, 1, 1009] (hp := by exact ⟨fun _ h => absurd (hr.2 h) (by decide), fun _ => rfl⟩)
  · have hy1 : (Sp.y ⟨true, l, false, id, s, y⟩).n = y.n := rfl
    refine go Tryz.func78 ?_
    repeat refine d1 ?_
    refine dK (contains_d y (by omega) q) [1] [] ?_
    intro r hr
    repeat refine d1 ?_
    cases r with
    | true =>
      repeat refine d1 ?_
      exact dEO false [0, 1, 2, 1009] (hp := by exact ⟨fun h => (by cases h), fun h => absurd (hr.1 rfl) h⟩)
    | false =>
      repeat refine d1 ?_
      refine d2 ?_ ?_ <;> intro h3 <;> repeat refine d1 ?_
      · exact absurd h3 (by omega)
      refine dT ⟨[(4, B true)], spO ⟨true, l, false, id, s, y.push q⟩ 1009, [0, 1009, 1, 2]⟩ (Le.g [] [(1009, 22)] [0, 22, 2]) ?_
      exact dEO true [0, 1, 2, 1009] (hp := by exact ⟨fun _ h => absurd (hr.2 h) (by decide), fun _ => rfl⟩)
  · have hy1 : (Sp.y ⟨true, l, true, id, s, y⟩).n = y.n := rfl
    refine go Tryz.func78 ?_
    repeat refine d1 ?_
    refine dK (contains_d y (by omega) q) [1] [] ?_
    intro r hr
    repeat refine d1 ?_
    cases r with
    | true =>
      repeat refine d1 ?_
      exact dEO false [0, 1, 2, 1009] (hp := by exact ⟨fun h => (by cases h), fun h => absurd (hr.1 rfl) h⟩)
    | false =>
      repeat refine d1 ?_
      refine d2 ?_ ?_ <;> intro h3 <;> repeat refine d1 ?_
      · exact absurd h3 (by omega)
      refine dT ⟨[(4, B true)], spO ⟨true, l, true, id, s, y.push q⟩ 1009, [0, 1009, 1, 2]⟩ (Le.g [] [(1009, 22)] [0, 22, 2]) ?_
      exact dEO true [0, 1, 2, 1009] (hp := by exact ⟨fun _ h => absurd (hr.2 h) (by decide), fun _ => rfl⟩)
end Go.Proofs

/- A space: cancels taken. -/
set_option linter.unusedSimpArgs false
set_option linter.unusedVariables false
set_option maxRecDepth 100000
namespace Go.Proofs
open Go.E
variable {Kn : IM}
theorem eqClo_d (x id : Int) : FnD Tryz.prog Kn 137 1 [U64 x, .bp 0 0] [.box 0 [U64 id]] 1 (fun r : Bool => r = decide (x = id)) B (fun _ => [.box 0 [U64 id]]) := by
  refine go Tryz.func137 ?_
  repeat refine d1 ?_
  exact dEO (decide (x = id)) [0]
theorem indexF_d (l : Arr Int) (hl : l.n ≤ 1000) (id : Int) : FnD Tryz.prog Kn 179 2 [.own 0 1 0 l.n, .clo (.func 137) [] [.bp 1 0]] [VEC 0 1 u64C l, .box 1 [U64 id]] 2 (fun r : Option Nat => match r with
    | none => ∀ i, i < l.n → l.f i ≠ id
    | some j => j < l.n ∧ l.f j = id) (fun r => I64 (match r with
    | none => -1
    | some j => (j : Int))) (fun _ => [VEC 0 1 u64C l, .box 1 [U64 id]]) := by
  refine go Tryz.func179 ?_
  repeat refine d1 ?_
  refine dW (fun i : Nat => ⟨[(8, I64 i), (7, I64 l.n), (0, .own 0 1 0 l.n), (1, .clo (.func 137) [] [.bp 1 0])], [VEC 0 1 u64C l, .box 1 [U64 id]], [0, 1]⟩) (fun i => i ≤ l.n ∧ ∀ q, q < i → l.f q ≠ id) (fun i => l.n - i) 0 ⟨Nat.zero_le _, fun q hq => absurd hq (Nat.not_lt_zero _)⟩ (Le.g [] [] [0, 1]) ?_
  rintro i ⟨h1, h2⟩ J hJ
  dsimp only
  repeat refine d1 ?_
  refine d2 ?_ ?_ <;> intro h3 <;> repeat refine d1 ?_
  · refine dK (eqClo_d _ id) [1] [] ?_
    rintro _ rfl
    repeat refine d1 ?_
    refine d2 ?_ ?_ <;> intro h4 <;> repeat refine d1 ?_
    · exact dEO (some i) [0, 1] (hp := by exact ⟨by omega, by simpa using h4⟩)
    · exact hJ (i + 1) _ ⟨by omega, fun q hq h5 => by
        rcases Nat.lt_or_ge q i with h6 | h6
        · exact h2 q h6 h5
        · obtain rfl : q = i := by omega
          exact h4 (by simpa using h5)⟩ (by omega) (Le.g [] [] [0, 1])
  · exact dEO none [0, 1] (hp := by exact fun q hq h5 => h2 q (by omega) h5)
/-- What slices.DeleteFunc leaves: fewer, if one was there. -/
theorem delF_d (l : Arr Int) (hl : l.n ≤ 1000) (id : Int) : FnD Tryz.prog Kn 136 2 [.own 0 1 0 l.n, .clo (.func 137) [] [.bp 1 0]] [VEC 0 1 u64C l, .box 1 [U64 id]] 2 (fun r : Arr Int => r.n ≤ l.n ∧ (r.n < l.n ↔ ∃ i, i < l.n ∧ l.f i = id) ∧ (r.n = l.n → r = l)) (fun r => .own 0 1 0 r.n) (fun r => [VEC 0 1 u64C r, .box 1 [U64 id]]) := by
  refine go Tryz.func136 ?_
  repeat refine d1 ?_
  obtain ⟨_ | j, hj, hF⟩ := indexF_d (Kn := Kn) l hl id
  all_goals
    dsimp only at hj hF
    refine dK hF.d [0, 1] [] ?_
    rintro r -
    repeat refine d1 ?_
  · exact dEO l [0, 1] (hp := by exact ⟨Nat.le_refl _, ⟨fun h => absurd h (Nat.lt_irrefl _), fun ⟨i, h1, h2⟩ => absurd h2 (hj i h1)⟩, fun _ => rfl⟩)
  refine dW (fun x : Nat × Nat × Arr Int => ⟨[(5, I64 x.1), (6, I64 x.2.1), (0, .own 0 1 0 l.n), (1, .clo (.func 137) [] [.bp 1 0])], [VEC 0 1 u64C x.2.2, .box 1 [U64 id]], [0, 1]⟩) (fun x => x.1 < x.2.1 ∧ x.2.1 ≤ l.n ∧ x.2.2.n = l.n) (fun x => l.n - x.2.1) (j, j + 1, l) ⟨Nat.lt_succ_self _, hj.1, rfl⟩ (Le.g [] [] [0, 1]) ?_
  rintro ⟨p, i, a⟩ ⟨h1, h2, h3⟩ J hJ
  dsimp only at h1 h2 h3 ⊢
  repeat refine d1 ?_
  refine d2 ?_ ?_ <;> intro h4 <;> repeat refine d1 ?_
  · refine dK (eqClo_d _ id) [1] [] ?_
    rintro _ rfl
    repeat refine d1 ?_
    refine d2 ?_ ?_ <;> intro h5 <;> repeat refine d1 ?_
    · exact hJ (p + 1, i + 1, a.upd p (a.f (0 + (i : Int).toNat))) _ ⟨by dsimp only; omega, by dsimp only; omega, h3⟩ (by dsimp only; omega) (Le.g [] [] [0, 1])
    · exact hJ (p, i + 1, a) _ ⟨by dsimp only; omega, by dsimp only; omega, h3⟩ (by dsimp only; omega) (Le.g [] [] [0, 1])
  · refine dClr .u64 Tryz.tabOK ?_ (him := by omega)
    repeat refine d1 ?_
    refine dT ⟨[(4, .own 0 1 0 p)], [VEC 0 1 u64C ⟨p, a.f⟩, .box 1 [U64 id]], [0, 1]⟩ (Le.g [] [] [0, 1] (hc := by exact ⟨CI.vecLe (by dsimp only; omega) (fun q hq => by
      have hq : q < p := hq
      show clrRow _ _ _ _ q = _
      unfold clrRow
      rw [if_neg]
      simp
      omega), CI.refl, trivial⟩)) ?_
    exact dEO ⟨p, a.f⟩ [0, 1] (hp := by exact ⟨by dsimp only; omega, ⟨fun _ => ⟨j, hj⟩, fun _ => by dsimp only; omega⟩, fun h => by dsimp only at h; omega⟩)
end Go.Proofs

/- A space: what is seen of it. -/
set_option linter.unusedSimpArgs false
set_option linter.unusedVariables false
set_option maxRecDepth 100000
namespace Go.Proofs
open Go.E
variable {Kn : IM}
theorem clone85_d (l : Arr Int) (hl : l.n ≤ 1000) : FnD Tryz.prog Kn 85 1 [.own 0 1 0 l.n] [VEC 0 1 u64C l] 1 (fun _ : Unit => True) (fun _ => SL 1 u64C l) (fun _ => [VEC 0 1 u64C l]) := by
  refine go Tryz.func85 ?_
  iterate 5 refine d1 ?_
  refine dNilO () fun v hv => ?_
  repeat refine d1 ?_
  refine d2 ?_ ?_ <;> intro h
  · repeat refine d1 ?_
    refine dT ⟨[(2, SL 1 u64C l)], [VEC 0 1 u64C l], [0]⟩ (Le.g [] [] [0] (hs := by exact ⟨⟨_, rfl, nilN (hv h)⟩, trivial⟩)) ?_
    exact dEO () [0]
  · repeat refine d1 ?_
    refine dB0 Tryz.tabOK ?_
    repeat refine d1 ?_
    refine dFe 7 ?_
    refine dT ⟨[(2, SL 1 u64C l)], [VEC 0 1 u64C l], [0]⟩ (Le.g [] [] [0] (hs := by exact ⟨⟨_, rfl, RI.sl (Nat.zero_add _) (fun i _ => by simp [appRow])⟩, trivial⟩)) ?_
    exact dEO () [0]
theorem ids_d32 (l : Arr De) (id : Int) (s : List UInt8) (y : Arr Int) : FnD Tryz.prog Kn 32 2 [.bp 0 10] (spO ⟨false, l, false, id, s, y⟩) 2 (fun _ : Unit => True) (fun _ => NIL) (fun _ => spO ⟨false, l, false, id, s, y⟩) := by
  refine go Tryz.func32 ?_
  repeat refine d1 ?_
  refine dK (all_d ⟨false, l, false, id, s, y⟩) [0, 1] [] ?_
  rintro r -
  repeat refine d1 ?_
  refine dW (fun _ : Unit => ⟨[(9, I64 0), (8, I64 0), (3, NIL)], spO ⟨false, l, false, id, s, y⟩, [0, 1]⟩) (fun _ => True) (fun _ => 0) () trivial (Le.g [] [] [0, 1]) ?_
  intro i hi J hJ
  dsimp only at hi ⊢
  repeat refine d1 ?_
  exact dEO () [0, 1]
theorem yTake_d (h : Bool) (l : Arr De) (k : Bool) (id q : Int) (s : List UInt8) (y : Arr Int) (hy : y.n ≤ 1000) : FnD Tryz.prog Kn 80 (spN h) [.bp 0 28, U64 q] (spO ⟨h, l, k, id, s, y⟩) (spN h) (fun r : Arr Int => r.n ≤ y.n ∧ (r.n < y.n ↔ ∃ i, i < y.n ∧ y.f i = q) ∧ (r.n = y.n → r = y)) (fun r => B (decide ((r.n : Int) < y.n))) (fun r => spO ⟨h, l, k, id, s, r⟩) := by
  cases h <;> cases k
  · refine go Tryz.func80 ?_
    repeat refine d1 ?_
    refine dK (delF_d y hy q) [1, 3] [] ?_
    intro r hr
    repeat refine d1 ?_
    exact dEO r [0, 1]
  · refine go Tryz.func80 ?_
    repeat refine d1 ?_
    refine dK (delF_d y hy q) [1, 3] [] ?_
    intro r hr
    repeat refine d1 ?_
    exact dEO r [0, 1]
  all_goals
    refine go Tryz.func80 ?_
    repeat refine d1 ?_
    refine dK (delF_d y hy q) [1, 3] [] ?_
    intro r hr
    repeat refine d1 ?_
    exact dEO r [0, 1, 2]
end Go.Proofs

/- A space without bindings: find, take, bind, call; what is read of bodies. -/
set_option linter.unusedSimpArgs false
set_option linter.unusedVariables false
set_option maxRecDepth 100000
namespace Go.Proofs
open Go.E
variable {Kn : IM} {m : Int}
theorem decls0_d : FnD Tryz.prog Kn 48 0 [NULL] [] 0 (fun _ : Unit => True) (fun _ => NIL) (fun _ => []) := by
  refine go Tryz.func48 ?_
  repeat refine d1 ?_
  exact dEL () trivial rfl rfl
theorem compat0_d (l : Arr De) : FnD Tryz.prog Kn 220 1 [NULL, .bp 0 0] [.box 0 (dsC l)] 1 (fun _ : Unit => True) (fun _ => .tup [I64 0, .s []]) (fun _ => [.box 0 (dsC l)]) := by
  refine go Tryz.func220 ?_
  repeat refine d1 ?_
  refine dK decls0_d [] [] ?_
  rintro r -
  repeat refine d1 ?_
  refine dW (fun _ : Unit => ⟨[(13, I64 0), (12, I64 0)], [.box 0 (dsC l)], [0]⟩) (fun _ => True) (fun _ => 0) () trivial (Le.g [] [] [0]) ?_
  intro i hi J hJ
  dsimp only at hi ⊢
  repeat refine d1 ?_
  exact dEO () [0]
theorem bsf_d (x : Int) : FnD Tryz.prog Kn 270 0 [NIL, I64 x, .v (.func (.func 271) ⟨[]⟩ ⟨[]⟩)] [] 0 (fun _ : Unit => True) (fun _ => .tup [I64 0, B false]) (fun _ => []) := by
  refine go Tryz.func270 ?_
  repeat refine d1 ?_
  refine dW (fun _ : Unit => ⟨[(9, I64 0), (10, I64 0), (8, I64 0), (0, NIL), (1, I64 x), (2, .v (.func (.func 271) ⟨[]⟩ ⟨[]⟩))], [], []⟩) (fun _ => True) (fun _ => 0) () trivial (Le.g [] [] []) ?_
  intro i hi J hJ
  dsimp only at hi ⊢
  repeat refine d1 ?_
  exact dEL () trivial rfl rfl
section
variable (x : Int)
theorem find_d (l : Arr De) (id : Int) (s : List UInt8) (y : Arr Int) : FnD Tryz.prog Kn 223 2 [.bp 0 0, I64 x] (spO ⟨false, l, false, id, s, y⟩) 2 (fun _ : Unit => True) (fun _ => .tup [I64 0, B false]) (fun _ => spO ⟨false, l, false, id, s, y⟩) := by
  refine go Tryz.func223 ?_
  repeat refine d1 ?_
  refine dK (bsf_d x) [] [] ?_
  rintro r -
  repeat refine d1 ?_
  exact dEO () [0, 1]
end
variable (hm : Kn 5 0 = some (.int .i64 m))
include hm in
/-- A first schema is taken, or refused. -/
theorem take_d (t : List UInt8) (l : Arr De) (id : Int) (s : List UInt8) (y : Arr Int) : FnD Tryz.prog Kn 174 2 [.bp 0 0, .s t] (spO ⟨false, l, false, id, s, y⟩) 3 (fun r : Int ⊕ Arr De => True) (fun r => match r with
    | .inl e => I64 e
    | .inr _ => I64 0) (fun r => match r with
    | .inl _ => spO ⟨false, l, false, id, s, y⟩
    | .inr l2 => spO ⟨true, l2, false, id, s, y⟩) := by
  refine go Tryz.func174 ?_
  repeat refine d1 ?_
  obtain ⟨⟨e, a⟩ | l2, hr, hF⟩ := Read_d hm t
  all_goals
    dsimp only at hr hF
    refine dK hF.d [] [1000] ?_
    rintro r -
    repeat refine d1 ?_
  · refine d2 ?_ ?_ <;> intro h <;> repeat refine d1 ?_
    · exact dEO (.inl e) [0, 1, 1000]
    · exact absurd h hr
  · refine dK (compat0_d l2) [1000] [] ?_
    rintro r -
    repeat refine d1 ?_
    refine dW (fun _ : Unit => ⟨[(41, I64 0), (40, I64 0), (5, .bp 1000 0), (0, .bp 0 0)], spO ⟨false, l, false, id, s, y⟩ ++ [.box 1000 (dsC l2)], [0, 1, 1000]⟩) (fun _ => True) (fun _ => 0) () trivial (Le.g [] [] [0, 1, 1000]) ?_
    intro i hi J hJ
    dsimp only at hi ⊢
    repeat refine d1 ?_
    exact dEO (.inr l2) [0, 1, 1000]
theorem bind_d (l : Arr De) (id : Int) (s : List UInt8) (y : Arr Int) (i1 n1 o1 : Int) (t1 t2 : List UInt8) : FnD Tryz.prog Kn 176 2 [.bp 0 0, .agg [U64 i1, I64 n1, .s t1, .s t2, I64 o1]] (spO ⟨false, l, false, id, s, y⟩) 2 (fun _ : Unit => True) (fun _ => I64 17) (fun _ => spO ⟨false, l, false, id, s, y⟩) := by
  refine go Tryz.func176 ?_
  repeat refine d1 ?_
  exact dEO () [0, 1]
end Go.Proofs
