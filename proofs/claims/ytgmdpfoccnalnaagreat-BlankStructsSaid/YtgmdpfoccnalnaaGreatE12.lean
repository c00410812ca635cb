/- Contracts of blank: fields. -/
import Derived.Test.YtgmdpfoccnalnaaGreatE11
import Derived.Test.YtgmdpfoccnalnaaGreatE10
import Derived.Test.YtgmdpfoccnalnaaGreatE8
set_option linter.unusedSimpArgs false
set_option linter.unusedVariables false
set_option maxRecDepth 100000
namespace Go.Proofs
open Go.Sy Go.Lib

abbrev zC : List AV := [I64 0, I64 0, .s [], .v (.slice none 0 0), .v (.slice none 0 0)]
def CFf (b : Nat) (l : List Dcl) (tg : List Int) (it : List Val) (f : Fld) (w : Val) (b5 b10 b12 b14 : Bool) : List Ch :=
  [.box 8 70 [I64 9, I64 0, .s [], bif b12 then .own 41 else .own 90, bif b14 then .own 46 else .own 91], .box 11 70 (Val.c w), .box 10 65 (Fld.c f),
   bif b5 then .vec 41 3 1 (tg.length + 1) (fun i => INTc ((tg ++ [f.tag]).getD i default)) else .vec 90 3 1 tg.length (fun i => INTc (tg.getD i default)),
   bif b10 then .vec 46 70 5 (it.length + 1) (Val.rows (it ++ [w])) else .vec 91 70 5 it.length (Val.rows it),
   .box 6 70 zC, .abs (dscS b l)]
def PFf : Pl := ⟨[[], [], [], [], [], [], [], [], [], [], [5], [], [1, 5, 10], [], [7, 5, 10, 12]], [5, 10, 12, 14], [(5, 41), (10, 46)], []⟩

theorem rows_snoc {it : List Val} {w : Val} {i : Nat} (h : i < it.length + 1) : appRow it.length (Val.rows it) (chunkRow 5 (Val.c w)) i = Val.rows (it ++ [w]) i := by
  rw [Val.rows_eq _ _ (by simpa using h)]
  unfold appRow
  by_cases hi : i < it.length
  · rw [if_pos hi, Val.rows_eq _ _ hi, List.getD_eq_getElem?_getD, List.getD_eq_getElem?_getD, List.getElem?_append_left hi]
  · rw [if_neg hi]
    obtain rfl : i = it.length := by omega
    rw [Nat.sub_self, List.getD_eq_getElem?_getD, List.getElem?_append_right (Nat.le_refl _), Nat.sub_self]; rfl
theorem ints_snoc {tg : List Int} {x : Int} {i : Nat} (h : i < tg.length + 1) : appRow tg.length (fun i => INTc (tg.getD i default)) (chunkRow 1 [I64 x]) i = INTc ((tg ++ [x]).getD i default) := by
  unfold appRow
  by_cases hi : i < tg.length
  · rw [if_pos hi]
    show INTc (tg.getD i default) = _
    rw [List.getD_eq_getElem?_getD, List.getD_eq_getElem?_getD, List.getElem?_append_left hi]
  · rw [if_neg hi]
    obtain rfl : i = tg.length := by omega
    rw [Nat.sub_self, List.getD_eq_getElem?_getD, List.getElem?_append_right (Nat.le_refl _), Nat.sub_self]; rfl

theorem chunk1 {e : Nat} {cs : List AV} (h : cs.length = e) (i : Nat) (hi : i < 1) : (chunkRow e cs i).length = e := by
  obtain rfl : i = 0 := by omega
  simp [chunkRow, h]

theorem fields_A (b : Nat) (l : List Dcl) (R : List Fld) (hR : R.length ≤ 1000) (d : Nat) (hd : d ≤ 1000) (g : Ty → Val × Bool)
    (hby : ∀ f, f ∈ R → FnA Tryz.prog 132 [MK b, .agg (Ty.c f.ty), I64 (d : Nat)] [dscS b l] (BR b l (g f.ty))) :
    FnA Tryz.prog 204 [MK b, SL 5 Fld.c R, I64 ((d + 1 : Nat) : Int)] [dscS b l] (BR b l (fldF g R [] [])) := by
  obtain ⟨q, hq⟩ : ∃ q, fldF g R [] [] = q := ⟨_, rfl⟩
  rw [hq]
  refine FnA.intro Tryz.tabOK Tryz.wide_ Tryz.func204 rfl (by decide) rfl (fun X => ?_)
  repeat (first|refine sc rfl ?_|refine so rfl ?_|refine sb rfl ?_)
  refine C_le _ (Le.cellNil 8 3 90 3 1 (fun i => INTc (([] : List Int).getD i default)) rfl rfl rfl rfl) ?_
  refine C_le _ (Le.cellNil 8 4 91 70 5 (Val.rows []) rfl rfl rfl rfl) ?_
  refine C_loop (fun q : Nat × List Int × List Val => ⟨[(0, MK b), (2, I64 ((d + 1 : Nat) : Int)), (6, .bp 6 0), (8, .bp 8 0), (14, SL 5 Fld.c R), (15, I64 (R.length : Nat)), (16, I64 (q.1 : Nat))],
      [.box 8 70 [I64 9, I64 0, .s [], .own 90, .own 91], .vec 90 3 1 q.2.1.length (fun i => INTc (q.2.1.getD i default)), .vec 91 70 5 q.2.2.length (Val.rows q.2.2), .box 6 70 zC, .abs (dscS b l)]⟩)
    (fun p => p.1 ≤ R.length ∧ p.2.1.length ≤ p.1 ∧ p.2.2.length ≤ p.1 ∧ fldF g (R.drop p.1) p.2.1 p.2.2 = q) (fun p => R.length - p.1) (0, [], []) ⟨Nat.zero_le _, Nat.zero_le _, Nat.zero_le _, hq⟩ (Le.pick [0, 1, 0, 0, 0] ⟨rfl, rfl, rfl, rfl, rfl, rfl, rfl, trivial⟩ rfl) ?_
  rintro ⟨i, tg, it⟩ ⟨hi, htg, hit, hF⟩
  simp only [] at hi htg hit hF
  show SymC _ _ _ ⟨[(0, MK b), (2, I64 ((d + 1 : Nat) : Int)), (6, .bp 6 0), (8, .bp 8 0), (14, SL 5 Fld.c R), (15, I64 (R.length : Nat)), (16, I64 (i : Nat))],
      [.box 8 70 [I64 9, I64 0, .s [], .own 90, .own 91], .vec 90 3 1 tg.length (fun i => INTc (tg.getD i default)), .vec 91 70 5 it.length (Val.rows it), .box 6 70 zC, .abs (dscS b l)]⟩ _
  repeat (first|refine sc rfl ?_|refine so rfl ?_|refine sb rfl ?_)
  refine C_if rfl (fun m1 => ?_) (fun m1 => ?_) <;> simp only [pL] at m1
  · have hil : i < R.length := by omega
    have hmem := mem_getDf hil
    have hdrop : R.drop i = R.getD i default :: R.drop (i + 1) := by rw [List.drop_eq_getElem_cons hil, getD_at hil]
    rw [hdrop] at hF
    repeat (first|refine sc rfl ?_|refine so rfl ?_|refine sb rfl ?_)
    refine ⟨by omega, ?_⟩
    rw [Int.toNat_natCast]
    repeat (first|refine sc rfl ?_|refine so rfl ?_|refine sb rfl ?_)
    refine C_if rfl (fun m2 => ?_) (fun m2 => ?_) <;> simp only [pL] at m2
    · simp only [fldF] at hF
      rw [if_pos m2] at hF
      repeat (first|refine sc rfl ?_|refine so rfl ?_|refine sb rfl ?_)
      rw [w64 (x := (i : Int) + 1) (by omega) (by omega)]
      refine ⟨(i + 1, tg, it), ⟨hil, by simp only []; omega, by simp only []; omega, hF⟩, by simp only []; omega, Le.pick [1, 1, 1, 1, 1] ⟨rfl, rfl, rfl, rfl, rfl, rfl, rfl, trivial⟩ rfl⟩
    simp only [fldF] at hF
    rw [if_neg m2] at hF
    repeat (first|refine sc rfl ?_|refine so rfl ?_|refine sb rfl ?_)
    rw [w64 (x := ((d + 1 : Nat) : Int) - 1) (by omega) (by omega), show (((d + 1 : Nat) : Int) - 1) = ((d : Nat) : Int) by omega]
    refine O_callA [5] (hby (R.getD i default) hmem) (by rfl) (by rfl) (by rfl) (by rfl) (by rfl) ?_
    rintro r cs' ⟨rfl, rfl⟩
    obtain ⟨y, hy⟩ : ∃ y, g (R.getD i default).ty = y := ⟨_, rfl⟩
    rw [hy] at hF ⊢
    obtain ⟨w, ok⟩ := y
    cases ok with
    | false =>
      repeat (first|refine sc rfl ?_|refine so rfl ?_|refine sb rfl ?_)
      refine C_true rfl rfl ?_
      repeat (first | refine O_le _ (Le.agg 35 (Val.c zV) rfl (.cons .refl (.cons .refl (.cons .refl (.cons .nil (.cons .nil .nil)))))) ?_ | refine sc rfl ?_ | refine so rfl ?_ | refine sb rfl ?_)
      exact ⟨_, [_], _, rfl, pickA_perm (is := [2]) (As := [_]) rfl, rfl, by rw [← hF, if_neg (fun h => by cases h)]; rfl, rfl⟩
    | true =>
      rw [if_pos rfl] at hF
      repeat (first|refine sc rfl ?_|refine so rfl ?_|refine sb rfl ?_)
      refine C_false rfl rfl ?_
      repeat (first|refine sc rfl ?_|refine so rfl ?_|refine sb rfl ?_)
      refine C_le _ (Le.pick [3, 0, 1, 1, 1, 1, 0] (s2 := [(0, MK b), (2, I64 ((d + 1 : Nat) : Int)), (6, .bp 6 0), (8, .bp 8 0), (14, SL 5 Fld.c R), (15, I64 (R.length : Nat)), (16, I64 (i : Nat)), (10, .bp 10 0), (11, .bp 11 0)]) ⟨rfl, rfl, rfl, rfl, rfl, rfl, rfl, rfl, rfl, trivial⟩ rfl) ?_
      refine C_drawM PFf (fun L => CFf b l tg it (R.getD i default) w (L 5) (L 10) (L 12) (L 14)) rfl (by kernel_rfl) (fun L L' h => by show CFf b l tg it (R.getD i default) w (L 5) (L 10) (L 12) (L 14) = CFf b l tg it (R.getD i default) w (L' 5) (L' 10) (L' 12) (L' 14); rw [h 5 (by decide), h 10 (by decide), h 12 (by decide), h 14 (by decide)]) rfl ?_
      refine sm rfl ⟨trivial, ?_⟩
      refine SM (.own 90) rfl (fun L h1 h2 h3 => ?_) ?_
      · show StepX _ _ _ _ _ (CFf b l tg it (R.getD i default) w (L 5) (L 10) (L 12) (L 14)) (CFf b l tg it (R.getD i default) w (L 5) (L 10) (L 12) (L 14)) _ _ _
        rw [h2 12 (show (1 : Nat) ∈ PFf.anc 12 by decide)]
        exact X_stillX rfl rfl rfl trivial
      refine sm rfl ⟨trivial, ?_⟩
      refine SM (I64 (R.getD i default).tag) rfl (fun L h1 h2 h3 => ?_) ?_
      · show StepX _ _ _ _ _ (CFf b l tg it (R.getD i default) w (L 5) (L 10) (L 12) (L 14)) (CFf b l tg it (R.getD i default) w (L 5) (L 10) (L 12) (L 14)) _ _ _
        exact X_stillX rfl rfl rfl trivial
      refine SM (.sl 1 1 (chunkRow 1 [I64 (R.getD i default).tag])) rfl (fun L h1 h2 h3 => ?_) ?_
      · show StepX _ _ _ _ _ (CFf b l tg it (R.getD i default) w (L 5) (L 10) (L 12) (L 14)) (CFf b l tg it (R.getD i default) w (L 5) (L 10) (L 12) (L 14)) _ _ _
        exact X_bsl rfl rfl rfl
      refine SM (.own 41) rfl (fun L h1 h2 h3 => ?_) ?_
      · show StepX _ _ _ _ _ (CFf b l tg it (R.getD i default) w (L 5) (L 10) (L 12) (L 14)) (CFf b l tg it (R.getD i default) w true (L 10) (L 12) (L 14)) _ _ _
        rw [show L 5 = false from h3, h2 10 (show (5 : Nat) ∈ PFf.anc 10 by decide), h2 12 (show (5 : Nat) ∈ PFf.anc 12 by decide), h2 14 (show (5 : Nat) ∈ PFf.anc 14 by decide)]
        exact (X_appendK (m3 := tg.length + 1) (row3 := fun j => INTc ((tg ++ [(R.getD i default).tag]).getD j default)) rfl rfl rfl rfl rfl rfl rfl (chunk1 (e := 1) rfl) rfl (show ((5, 41) : Nat × Nat) ∈ PFf.cre by decide) rfl rfl (by show (tg.length + 1) * 8 ≤ 140737488355328; omega) (by simp only [maxLen]; omega) rfl (fun j hj => ints_snoc hj)).perm (by exact (List.perm_middle (l₁ := [_, _, _])).symm)
      refine sm rfl ⟨trivial, ?_⟩
      refine SM (.own 91) rfl (fun L h1 h2 h3 => ?_) ?_
      · show StepX _ _ _ _ _ (CFf b l tg it (R.getD i default) w (L 5) (L 10) (L 12) (L 14)) (CFf b l tg it (R.getD i default) w (L 5) (L 10) (L 12) (L 14)) _ _ _
        rw [h2 14 (show (7 : Nat) ∈ PFf.anc 14 by decide)]
        exact X_stillX rfl rfl rfl trivial
      refine SM (.agg (Val.c w)) rfl (fun L h1 h2 h3 => ?_) ?_
      · show StepX _ _ _ _ _ (CFf b l tg it (R.getD i default) w (L 5) (L 10) (L 12) (L 14)) (CFf b l tg it (R.getD i default) w (L 5) (L 10) (L 12) (L 14)) _ _ _
        exact X_stillX rfl rfl rfl trivial
      refine SM (.sl 1 5 (chunkRow 5 (Val.c w))) rfl (fun L h1 h2 h3 => ?_) ?_
      · show StepX _ _ _ _ _ (CFf b l tg it (R.getD i default) w (L 5) (L 10) (L 12) (L 14)) (CFf b l tg it (R.getD i default) w (L 5) (L 10) (L 12) (L 14)) _ _ _
        exact X_bsl rfl rfl rfl
      refine SM (.own 46) rfl (fun L h1 h2 h3 => ?_) ?_
      · show StepX _ _ _ _ _ (CFf b l tg it (R.getD i default) w (L 5) (L 10) (L 12) (L 14)) (CFf b l tg it (R.getD i default) w (L 5) true (L 12) (L 14)) _ _ _
        rw [show L 10 = false from h3, h1 5 (show (5 : Nat) ∈ PFf.anc 10 by decide), h2 12 (show (10 : Nat) ∈ PFf.anc 12 by decide), h2 14 (show (10 : Nat) ∈ PFf.anc 14 by decide)]
        exact (X_appendK (m3 := it.length + 1) (row3 := Val.rows (it ++ [w])) rfl rfl rfl rfl rfl rfl rfl (chunk1 (e := 5) rfl) rfl (show ((10, 46) : Nat × Nat) ∈ PFf.cre by decide) rfl rfl (by show (it.length + 1) * 80 ≤ 140737488355328; omega) (by simp only [maxLen]; omega) rfl (fun j hj => rows_snoc hj)).perm (by exact (List.perm_middle (l₁ := [_, _, _, _])).symm)
      refine sm rfl ⟨trivial, ?_⟩
      refine SM .bad rfl (fun L h1 h2 h3 => ?_) ?_
      · show StepX _ _ _ _ _ (CFf b l tg it (R.getD i default) w (L 5) (L 10) (L 12) (L 14)) (CFf b l tg it (R.getD i default) w (L 5) (L 10) true (L 14)) _ _ _
        rw [show L 12 = false from h3, h1 5 (show (5 : Nat) ∈ PFf.anc 12 by decide), h1 10 (show (10 : Nat) ∈ PFf.anc 12 by decide), h2 14 (show (12 : Nat) ∈ PFf.anc 14 by decide)]
        exact X_storeK rfl rfl rfl rfl rfl rfl rfl rfl rfl
      refine sm rfl ⟨trivial, ?_⟩
      refine SM .bad rfl (fun L h1 h2 h3 => ?_) ?_
      · show StepX _ _ _ _ _ (CFf b l tg it (R.getD i default) w (L 5) (L 10) (L 12) (L 14)) (CFf b l tg it (R.getD i default) w (L 5) (L 10) (L 12) true) _ _ _
        rw [show L 14 = false from h3, h1 5 (show (5 : Nat) ∈ PFf.anc 14 by decide), h1 10 (show (10 : Nat) ∈ PFf.anc 14 by decide), h1 12 (show (12 : Nat) ∈ PFf.anc 14 by decide)]
        exact X_storeK rfl rfl rfl rfl rfl rfl rfl rfl rfl
      refine sm rfl ?_
      show SymC _ _ _ ⟨_, [.box 8 70 [I64 9, I64 0, .s [], .own 41, .own 46], .box 11 70 (Val.c w), .box 10 65 (Fld.c (R.getD i default)), .vec 41 3 1 (tg.length + 1) (fun j => INTc ((tg ++ [(R.getD i default).tag]).getD j default)), .vec 46 70 5 (it.length + 1) (Val.rows (it ++ [w])), .box 6 70 zC, .abs (dscS b l)]⟩ _
      repeat (first|refine sc rfl ?_|refine so rfl ?_|refine sb rfl ?_)
      rw [w64 (x := (i : Int) + 1) (by omega) (by omega)]
      refine ⟨(i + 1, tg ++ [(R.getD i default).tag], it ++ [w]), ⟨hil, by simp; omega, by simp; omega, hF⟩, by simp only []; omega, ?_⟩
      refine Le.trans (Le.cellRename 8 3 41 90 (s2 := [(0, MK b), (2, I64 ((d + 1 : Nat) : Int)), (6, .bp 6 0), (8, .bp 8 0), (14, SL 5 Fld.c R), (15, I64 (R.length : Nat)), (16, I64 ((i + 1 : Nat) : Int))]) rfl rfl rfl ⟨rfl, rfl, rfl, rfl, rfl, rfl, rfl, trivial⟩ rfl rfl) ?_
      refine Le.trans (Le.cellRename 8 4 46 91 (s2 := [(0, MK b), (2, I64 ((d + 1 : Nat) : Int)), (6, .bp 6 0), (8, .bp 8 0), (14, SL 5 Fld.c R), (15, I64 (R.length : Nat)), (16, I64 ((i + 1 : Nat) : Int))]) rfl rfl rfl ⟨rfl, rfl, rfl, rfl, rfl, rfl, rfl, trivial⟩ rfl rfl) ?_
      show Le _ _ _ ⟨_, [.box 8 70 [I64 9, I64 0, .s [], .own 90, .own 91], .vec 90 3 1 (tg ++ [(R.getD i default).tag]).length (fun j => INTc ((tg ++ [(R.getD i default).tag]).getD j default)), .vec 91 70 5 (it ++ [w]).length (Val.rows (it ++ [w])), .box 6 70 zC, .abs (dscS b l)]⟩
      rw [List.length_append, List.length_append]
      exact Le.pick [0, 1, 0, 2, 2] ⟨rfl, rfl, rfl, rfl, rfl, rfl, rfl, trivial⟩ rfl
  · obtain rfl : i = R.length := by omega
    rw [List.drop_length] at hF
    refine C_le _ (Le.cellFreeze 8 3 90 rfl rfl rfl) ?_
    refine C_le _ (Le.cellFreeze 8 4 91 rfl rfl rfl) ?_
    repeat (first|refine sc rfl ?_|refine so rfl ?_|refine sb rfl ?_)
    exact ⟨_, [_], _, rfl, pickA_perm (is := [2]) (As := [_]) rfl, rfl, by rw [← hF]; rfl, rfl⟩
end Go.Proofs

namespace Go.Proofs
open Go.Sy Go.Lib

theorem union_A (b : Nat) (l : List Dcl) (R : List Fld) (hR : R.length ≤ 1000) (d : Nat) (hd : d ≤ 1000) (g : Ty → Val × Bool)
    (hby : ∀ f, f ∈ R → FnA Tryz.prog 132 [MK b, .agg (Ty.c f.ty), I64 (d : Nat)] [dscS b l] (BR b l (g f.ty))) :
    FnA Tryz.prog 205 [MK b, SL 5 Fld.c R, I64 ((d + 1 : Nat) : Int)] [dscS b l] (BR b l (firF g R)) := by
  obtain ⟨q, hq⟩ : ∃ q, firF g R = q := ⟨_, rfl⟩
  rw [hq]
  refine FnA.intro Tryz.tabOK Tryz.wide_ Tryz.func205 rfl (by decide) rfl (fun X => ?_)
  repeat (first|refine sc rfl ?_|refine so rfl ?_|refine sb rfl ?_)
  refine C_loop (fun i : Nat => ⟨[(0, MK b), (2, I64 ((d + 1 : Nat) : Int)), (6, .bp 6 0), (12, SL 5 Fld.c R), (13, I64 (R.length : Nat)), (14, I64 (i : Nat))],
      [.box 6 70 zC, .abs (dscS b l)]⟩)
    (fun i => i ≤ R.length ∧ firF g (R.drop i) = q) (fun i => R.length - i) 0 ⟨Nat.zero_le _, hq⟩ (Le.pick [0, 0] ⟨rfl, rfl, rfl, rfl, rfl, rfl, trivial⟩ rfl) ?_
  rintro i ⟨hi, hF⟩
  repeat (first|refine sc rfl ?_|refine so rfl ?_|refine sb rfl ?_)
  refine C_if rfl (fun m1 => ?_) (fun m1 => ?_) <;> simp only [pL] at m1
  · have hil : i < R.length := by omega
    have hmem := mem_getDf hil
    have hdrop : R.drop i = R.getD i default :: R.drop (i + 1) := by rw [List.drop_eq_getElem_cons hil, getD_at hil]
    rw [hdrop] at hF
    simp only [firF] at hF
    repeat (first|refine sc rfl ?_|refine so rfl ?_|refine sb rfl ?_)
    refine ⟨by omega, ?_⟩
    rw [Int.toNat_natCast]
    repeat (first|refine sc rfl ?_|refine so rfl ?_|refine sb rfl ?_)
    rw [w64 (x := ((d + 1 : Nat) : Int) - 1) (by omega) (by omega), show (((d + 1 : Nat) : Int) - 1) = ((d : Nat) : Int) by omega]
    refine O_callA [2] (hby (R.getD i default) hmem) (by rfl) (by rfl) (by rfl) (by rfl) (by rfl) ?_
    rintro r cs' ⟨rfl, rfl⟩
    obtain ⟨y, hy⟩ : ∃ y, g (R.getD i default).ty = y := ⟨_, rfl⟩
    rw [hy] at hF ⊢
    obtain ⟨w, ok⟩ := y
    cases ok with
    | false =>
      rw [if_neg (fun h => by cases h)] at hF
      repeat (first|refine sc rfl ?_|refine so rfl ?_|refine sb rfl ?_)
      refine C_false rfl rfl ?_
      repeat (first|refine sc rfl ?_|refine so rfl ?_|refine sb rfl ?_)
      rw [w64 (x := (i : Int) + 1) (by omega) (by omega)]
      exact ⟨i + 1, ⟨hil, hF⟩, by omega, Le.pick [3, 1] ⟨rfl, rfl, rfl, rfl, rfl, rfl, trivial⟩ rfl⟩
    | true =>
      rw [if_pos rfl] at hF
      repeat (first|refine sc rfl ?_|refine so rfl ?_|refine sb rfl ?_)
      refine C_true rfl rfl ?_
      have e1 : ∀ j, j < 1 → chunkRow 1 [I64 (R.getD i default).tag] j = INTc ([(R.getD i default).tag].getD j default) := fun j hj => by
        obtain rfl : j = 0 := by omega
        rfl
      have e2 : ∀ j, j < 1 → chunkRow 5 (Val.c w) j = Val.rows [w] j := fun j hj => by
        obtain rfl : j = 0 := by omega
        rw [Val.rows_eq [w] 0 (by simp)]
        rfl
      repeat (first | refine O_le _ (Le.freeze 30 rfl rfl) ?_ | refine O_le _ (Le.freeze 32 rfl rfl) ?_ | refine O_le _ (Le.one 30 (x := .sl 1 1 (chunkRow 1 [I64 (R.getD i default).tag])) (SL 1 INTc [(R.getD i default).tag]) rfl (.row e1)) ?_ | refine O_le _ (Le.one 32 (x := .sl 1 5 (chunkRow 5 (Val.c w))) (.sl 1 5 (Val.rows [w])) rfl (.row e2)) ?_ | refine sc rfl ?_ | refine so rfl ?_ | refine sb rfl ?_)
      exact ⟨_, [_], _, rfl, pickA_perm (is := [2]) (As := [_]) rfl, rfl, by rw [← hF]; rfl, rfl⟩
  · obtain rfl : i = R.length := by omega
    rw [List.drop_length] at hF
    repeat (first | refine O_le _ (Le.agg 35 (Val.c zV) rfl (.cons .refl (.cons .refl (.cons .refl (.cons .nil (.cons .nil .nil)))))) ?_ | refine sc rfl ?_ | refine so rfl ?_ | refine sb rfl ?_)
    first
      | exact ⟨_, [_], _, rfl, pickA_perm (is := [0]) (As := [_]) rfl, rfl, by rw [← hF]; rfl, rfl⟩
      | exact ⟨_, [_], _, rfl, pickA_perm (is := [1]) (As := [_]) rfl, rfl, by rw [← hF]; rfl, rfl⟩
      | exact ⟨_, [_], _, rfl, pickA_perm (is := [2]) (As := [_]) rfl, rfl, by rw [← hF]; rfl, rfl⟩
      | exact ⟨_, [_], _, rfl, pickA_perm (is := [3]) (As := [_]) rfl, rfl, by rw [← hF]; rfl, rfl⟩
      | exact ⟨_, [_], _, rfl, pickA_perm (is := [4]) (As := [_]) rfl, rfl, by rw [← hF]; rfl, rfl⟩

theorem rowsU_ne {l : List Dcl} (hW : WellL l) (hex : ∃ Rs, RowsOK l Rs) {nm : List UInt8} (hk : kindL l nm = 3) : 0 < (rowsU l nm).length := by
  have hne : ∃ f, f ∈ fldsL l nm := by
    unfold fldsL
    unfold kindL at hk
    cases hf : fndL nm l with
    | none => rw [hf] at hk; exact absurd (show (0 : Int) = 3 from hk) (by decide)
    | some j =>
      rw [hf] at hk
      have hd := (hW j (fndL_lt hf)).some_ (.inr hk)
      exact List.exists_mem_of_ne_nil _ hd
  obtain ⟨f, hf⟩ := hne
  have := (rowsU_mem hW hex).2 hf
  exact List.length_pos_of_mem this

theorem by_A (b : Nat) (l : List Dcl) (hP : Prep l) (hW : WellL l) : ∀ (d : Nat), d ≤ 1000 → ∀ (m : Nat) (t : Ty), SizeOf.sizeOf t ≤ m → FewT t →
    FnA Tryz.prog 132 [MK b, .agg (Ty.c t), I64 (d : Nat)] [dscS b l] (fun r cs' => BR b l (byF l d t) r cs' ∧ (1 ≤ d → t.kind = 6 → ∃ Rs, RowsOK l Rs))
  | 0, _, _, t, _, _ => by
    refine FnA.intro Tryz.tabOK Tryz.wide_ Tryz.func132 rfl (by decide) rfl (fun X => ?_)
    repeat (first|refine sc rfl ?_|refine so rfl ?_|refine sb rfl ?_)
    refine C_true rfl rfl ?_
    repeat (first | refine O_le _ (Le.agg 11 (Val.c zV) rfl (.cons .refl (.cons .refl (.cons .refl (.cons .nil (.cons .nil .nil)))))) ?_ | refine sc rfl ?_ | refine so rfl ?_ | refine sb rfl ?_)
    first
      | exact ⟨_, [_], _, rfl, pickA_perm (is := [0]) (As := [_]) rfl, rfl, ⟨rfl, rfl⟩, fun h => absurd h (by decide)⟩
      | exact ⟨_, [_], _, rfl, pickA_perm (is := [1]) (As := [_]) rfl, rfl, ⟨rfl, rfl⟩, fun h => absurd h (by decide)⟩
      | exact ⟨_, [_], _, rfl, pickA_perm (is := [2]) (As := [_]) rfl, rfl, ⟨rfl, rfl⟩, fun h => absurd h (by decide)⟩
      | exact ⟨_, [_], _, rfl, pickA_perm (is := [3]) (As := [_]) rfl, rfl, ⟨rfl, rfl⟩, fun h => absurd h (by decide)⟩
      | exact ⟨_, [_], _, rfl, pickA_perm (is := [4]) (As := [_]) rfl, rfl, ⟨rfl, rfl⟩, fun h => absurd h (by decide)⟩
  | d + 1, hd, 0, t, hm, _ => by cases t; simp at hm
  | d + 1, hd, m + 1, t, hm, ⟨ht1, ht2⟩ => by
    refine FnA.intro Tryz.tabOK Tryz.wide_ Tryz.func132 rfl (by decide) rfl (fun X => ?_)
    repeat (first|refine sc rfl ?_|refine so rfl ?_|refine sb rfl ?_)
    refine C_false rfl (decide_eq_false (by omega)) ?_
    repeat (first|refine sc rfl ?_|refine so rfl ?_|refine sb rfl ?_)
    refine C_if rfl (fun k6 => ?_) (fun k6 => ?_) <;> simp only [pL] at k6
    · repeat (first|refine sc rfl ?_|refine so rfl ?_|refine sb rfl ?_)
      first
        | refine O_callA [0] (plain_A b l t k6 (d + 1) hd (namF l (byF l d)) (fun h => (by_A b l hP hW (d + 1) hd m (t.of.getD 0 default) (by have := of_lt (t := t) (i := 0) h; omega) (ht2 0 h)).mono (fun r c h => h.1))) (by rfl) (by rfl) (by rfl) (by rfl) (by rfl) ?_
        | refine O_callA [1] (plain_A b l t k6 (d + 1) hd (namF l (byF l d)) (fun h => (by_A b l hP hW (d + 1) hd m (t.of.getD 0 default) (by have := of_lt (t := t) (i := 0) h; omega) (ht2 0 h)).mono (fun r c h => h.1))) (by rfl) (by rfl) (by rfl) (by rfl) (by rfl) ?_
        | refine O_callA [2] (plain_A b l t k6 (d + 1) hd (namF l (byF l d)) (fun h => (by_A b l hP hW (d + 1) hd m (t.of.getD 0 default) (by have := of_lt (t := t) (i := 0) h; omega) (ht2 0 h)).mono (fun r c h => h.1))) (by rfl) (by rfl) (by rfl) (by rfl) (by rfl) ?_
        | refine O_callA [3] (plain_A b l t k6 (d + 1) hd (namF l (byF l d)) (fun h => (by_A b l hP hW (d + 1) hd m (t.of.getD 0 default) (by have := of_lt (t := t) (i := 0) h; omega) (ht2 0 h)).mono (fun r c h => h.1))) (by rfl) (by rfl) (by rfl) (by rfl) (by rfl) ?_
        | refine O_callA [4] (plain_A b l t k6 (d + 1) hd (namF l (byF l d)) (fun h => (by_A b l hP hW (d + 1) hd m (t.of.getD 0 default) (by have := of_lt (t := t) (i := 0) h; omega) (ht2 0 h)).mono (fun r c h => h.1))) (by rfl) (by rfl) (by rfl) (by rfl) (by rfl) ?_
      rintro r cs' ⟨rfl, rfl⟩
      repeat (first|refine sc rfl ?_|refine so rfl ?_|refine sb rfl ?_)
      first
        | exact ⟨_, [_], _, rfl, pickA_perm (is := [0]) (As := [_]) rfl, rfl, ⟨rfl, rfl⟩, fun _ h => absurd h k6⟩
        | exact ⟨_, [_], _, rfl, pickA_perm (is := [1]) (As := [_]) rfl, rfl, ⟨rfl, rfl⟩, fun _ h => absurd h k6⟩
        | exact ⟨_, [_], _, rfl, pickA_perm (is := [2]) (As := [_]) rfl, rfl, ⟨rfl, rfl⟩, fun _ h => absurd h k6⟩
        | exact ⟨_, [_], _, rfl, pickA_perm (is := [3]) (As := [_]) rfl, rfl, ⟨rfl, rfl⟩, fun _ h => absurd h k6⟩
        | exact ⟨_, [_], _, rfl, pickA_perm (is := [4]) (As := [_]) rfl, rfl, ⟨rfl, rfl⟩, fun _ h => absurd h k6⟩
    have hbF : byF l (d + 1) t = namF l (byF l d) t.name := by
      simp only [byF]
      rw [plF_eq, if_pos k6]
    obtain ⟨q, hq⟩ : ∃ q, namF l (byF l d) t.name = q := ⟨_, rfl⟩
    rw [hbF, hq]
    unfold namF at hq
    repeat (first|refine sc rfl ?_|refine so rfl ?_|refine sb rfl ?_)
    refine C_le _ (Le.freezebox 4 rfl rfl rfl) ?_
    refine C_drawT 20 6 rfl (by kernel_rfl) (by kernel_rfl) ?_
    repeat (first|refine sd rfl ?_|refine sdb rfl ?_|refine sds rfl ?_)
    repeat (first|refine sc rfl ?_|refine so rfl ?_|refine sb rfl ?_)
    first
      | refine O_callA [0] (DRows_X b l hP hW t.name) (by rfl) (by rfl) (by rfl) (by rfl) (by rfl) ?_
      | refine O_callA [1] (DRows_X b l hP hW t.name) (by rfl) (by rfl) (by rfl) (by rfl) (by rfl) ?_
      | refine O_callA [2] (DRows_X b l hP hW t.name) (by rfl) (by rfl) (by rfl) (by rfl) (by rfl) ?_
      | refine O_callA [3] (DRows_X b l hP hW t.name) (by rfl) (by rfl) (by rfl) (by rfl) (by rfl) ?_
      | refine O_callA [4] (DRows_X b l hP hW t.name) (by rfl) (by rfl) (by rfl) (by rfl) (by rfl) ?_
    rintro r cs' ⟨⟨rfl, hex⟩, rfl⟩
    have hfew := fewU (nm := t.name) hP hW hex
    repeat (first|refine sc rfl ?_|refine so rfl ?_|refine sb rfl ?_)
    refine C_drawT 20 6 rfl (by kernel_rfl) (by kernel_rfl) ?_
    repeat (first|refine sd rfl ?_|refine sdb rfl ?_|refine sds rfl ?_)
    repeat (first|refine sc rfl ?_|refine so rfl ?_|refine sb rfl ?_)
    first
      | refine O_callA [0] (DKind_S b l hP t.name) (by rfl) (by rfl) (by rfl) (by rfl) (by rfl) ?_
      | refine O_callA [1] (DKind_S b l hP t.name) (by rfl) (by rfl) (by rfl) (by rfl) (by rfl) ?_
      | refine O_callA [2] (DKind_S b l hP t.name) (by rfl) (by rfl) (by rfl) (by rfl) (by rfl) ?_
      | refine O_callA [3] (DKind_S b l hP t.name) (by rfl) (by rfl) (by rfl) (by rfl) (by rfl) ?_
      | refine O_callA [4] (DKind_S b l hP t.name) (by rfl) (by rfl) (by rfl) (by rfl) (by rfl) ?_
    rintro r cs' ⟨rfl, rfl⟩
    repeat (first|refine sc rfl ?_|refine so rfl ?_|refine sb rfl ?_)
    refine C_if rfl (fun k3 => ?_) (fun k3 => ?_) <;> simp only [pL] at k3
    · have hne := rowsU_ne hW hex k3
      repeat (first|refine sc rfl ?_|refine so rfl ?_|refine sb rfl ?_)
      refine ⟨by omega, ?_⟩
      repeat (first | refine O_le _ (Le.agg 41 (Val.c ⟨6, ((rowsU l t.name).getD 0 default).tag, [], [], []⟩) rfl (.cons .refl (.cons .refl (.cons .refl (.cons .nil (.cons .nil .nil)))))) ?_ | refine sc rfl ?_ | refine so rfl ?_ | refine sb rfl ?_)
      first
        | exact ⟨_, [_], _, rfl, pickA_perm (is := [0]) (As := [_]) rfl, rfl, ⟨by rw [← hq, if_pos k3]; rfl, rfl⟩, fun _ _ => hex⟩
        | exact ⟨_, [_], _, rfl, pickA_perm (is := [1]) (As := [_]) rfl, rfl, ⟨by rw [← hq, if_pos k3]; rfl, rfl⟩, fun _ _ => hex⟩
        | exact ⟨_, [_], _, rfl, pickA_perm (is := [2]) (As := [_]) rfl, rfl, ⟨by rw [← hq, if_pos k3]; rfl, rfl⟩, fun _ _ => hex⟩
        | exact ⟨_, [_], _, rfl, pickA_perm (is := [3]) (As := [_]) rfl, rfl, ⟨by rw [← hq, if_pos k3]; rfl, rfl⟩, fun _ _ => hex⟩
        | exact ⟨_, [_], _, rfl, pickA_perm (is := [4]) (As := [_]) rfl, rfl, ⟨by rw [← hq, if_pos k3]; rfl, rfl⟩, fun _ _ => hex⟩
    repeat (first|refine sc rfl ?_|refine so rfl ?_|refine sb rfl ?_)
    refine C_if rfl (fun k1 => ?_) (fun k1 => ?_) <;> simp only [pL] at k1
    · repeat (first|refine sc rfl ?_|refine so rfl ?_|refine sb rfl ?_)
      first
        | refine O_callA [0] (fields_A b l (rowsU l t.name) hfew.1 d (by omega) (byF l d) (fun f hf => (by_A b l hP hW d (by omega) _ f.ty (Nat.le_refl _) (hfew.2 f hf)).mono (fun r c h => h.1))) (by rfl) (by rfl) (by rfl) (by rfl) (by rfl) ?_
        | refine O_callA [1] (fields_A b l (rowsU l t.name) hfew.1 d (by omega) (byF l d) (fun f hf => (by_A b l hP hW d (by omega) _ f.ty (Nat.le_refl _) (hfew.2 f hf)).mono (fun r c h => h.1))) (by rfl) (by rfl) (by rfl) (by rfl) (by rfl) ?_
        | refine O_callA [2] (fields_A b l (rowsU l t.name) hfew.1 d (by omega) (byF l d) (fun f hf => (by_A b l hP hW d (by omega) _ f.ty (Nat.le_refl _) (hfew.2 f hf)).mono (fun r c h => h.1))) (by rfl) (by rfl) (by rfl) (by rfl) (by rfl) ?_
        | refine O_callA [3] (fields_A b l (rowsU l t.name) hfew.1 d (by omega) (byF l d) (fun f hf => (by_A b l hP hW d (by omega) _ f.ty (Nat.le_refl _) (hfew.2 f hf)).mono (fun r c h => h.1))) (by rfl) (by rfl) (by rfl) (by rfl) (by rfl) ?_
        | refine O_callA [4] (fields_A b l (rowsU l t.name) hfew.1 d (by omega) (byF l d) (fun f hf => (by_A b l hP hW d (by omega) _ f.ty (Nat.le_refl _) (hfew.2 f hf)).mono (fun r c h => h.1))) (by rfl) (by rfl) (by rfl) (by rfl) (by rfl) ?_
      rintro r cs' ⟨rfl, rfl⟩
      repeat (first|refine sc rfl ?_|refine so rfl ?_|refine sb rfl ?_)
      first
        | exact ⟨_, [_], _, rfl, pickA_perm (is := [0]) (As := [_]) rfl, rfl, ⟨by rw [← hq, if_neg k3, if_pos k1]; rfl, rfl⟩, fun _ _ => hex⟩
        | exact ⟨_, [_], _, rfl, pickA_perm (is := [1]) (As := [_]) rfl, rfl, ⟨by rw [← hq, if_neg k3, if_pos k1]; rfl, rfl⟩, fun _ _ => hex⟩
        | exact ⟨_, [_], _, rfl, pickA_perm (is := [2]) (As := [_]) rfl, rfl, ⟨by rw [← hq, if_neg k3, if_pos k1]; rfl, rfl⟩, fun _ _ => hex⟩
        | exact ⟨_, [_], _, rfl, pickA_perm (is := [3]) (As := [_]) rfl, rfl, ⟨by rw [← hq, if_neg k3, if_pos k1]; rfl, rfl⟩, fun _ _ => hex⟩
        | exact ⟨_, [_], _, rfl, pickA_perm (is := [4]) (As := [_]) rfl, rfl, ⟨by rw [← hq, if_neg k3, if_pos k1]; rfl, rfl⟩, fun _ _ => hex⟩
    repeat (first|refine sc rfl ?_|refine so rfl ?_|refine sb rfl ?_)
    refine C_if rfl (fun k2 => ?_) (fun k2 => ?_) <;> simp only [pL] at k2
    · repeat (first|refine sc rfl ?_|refine so rfl ?_|refine sb rfl ?_)
      first
        | refine O_callA [0] (union_A b l (rowsU l t.name) hfew.1 d (by omega) (byF l d) (fun f hf => (by_A b l hP hW d (by omega) _ f.ty (Nat.le_refl _) (hfew.2 f hf)).mono (fun r c h => h.1))) (by rfl) (by rfl) (by rfl) (by rfl) (by rfl) ?_
        | refine O_callA [1] (union_A b l (rowsU l t.name) hfew.1 d (by omega) (byF l d) (fun f hf => (by_A b l hP hW d (by omega) _ f.ty (Nat.le_refl _) (hfew.2 f hf)).mono (fun r c h => h.1))) (by rfl) (by rfl) (by rfl) (by rfl) (by rfl) ?_
        | refine O_callA [2] (union_A b l (rowsU l t.name) hfew.1 d (by omega) (byF l d) (fun f hf => (by_A b l hP hW d (by omega) _ f.ty (Nat.le_refl _) (hfew.2 f hf)).mono (fun r c h => h.1))) (by rfl) (by rfl) (by rfl) (by rfl) (by rfl) ?_
        | refine O_callA [3] (union_A b l (rowsU l t.name) hfew.1 d (by omega) (byF l d) (fun f hf => (by_A b l hP hW d (by omega) _ f.ty (Nat.le_refl _) (hfew.2 f hf)).mono (fun r c h => h.1))) (by rfl) (by rfl) (by rfl) (by rfl) (by rfl) ?_
        | refine O_callA [4] (union_A b l (rowsU l t.name) hfew.1 d (by omega) (byF l d) (fun f hf => (by_A b l hP hW d (by omega) _ f.ty (Nat.le_refl _) (hfew.2 f hf)).mono (fun r c h => h.1))) (by rfl) (by rfl) (by rfl) (by rfl) (by rfl) ?_
      rintro r cs' ⟨rfl, rfl⟩
      repeat (first|refine sc rfl ?_|refine so rfl ?_|refine sb rfl ?_)
      first
        | exact ⟨_, [_], _, rfl, pickA_perm (is := [0]) (As := [_]) rfl, rfl, ⟨by rw [← hq, if_neg k3, if_neg k1, if_pos k2]; rfl, rfl⟩, fun _ _ => hex⟩
        | exact ⟨_, [_], _, rfl, pickA_perm (is := [1]) (As := [_]) rfl, rfl, ⟨by rw [← hq, if_neg k3, if_neg k1, if_pos k2]; rfl, rfl⟩, fun _ _ => hex⟩
        | exact ⟨_, [_], _, rfl, pickA_perm (is := [2]) (As := [_]) rfl, rfl, ⟨by rw [← hq, if_neg k3, if_neg k1, if_pos k2]; rfl, rfl⟩, fun _ _ => hex⟩
        | exact ⟨_, [_], _, rfl, pickA_perm (is := [3]) (As := [_]) rfl, rfl, ⟨by rw [← hq, if_neg k3, if_neg k1, if_pos k2]; rfl, rfl⟩, fun _ _ => hex⟩
        | exact ⟨_, [_], _, rfl, pickA_perm (is := [4]) (As := [_]) rfl, rfl, ⟨by rw [← hq, if_neg k3, if_neg k1, if_pos k2]; rfl, rfl⟩, fun _ _ => hex⟩
    repeat (first | refine O_le _ (Le.agg 58 (Val.c zV) rfl (.cons .refl (.cons .refl (.cons .refl (.cons .nil (.cons .nil .nil)))))) ?_ | refine sc rfl ?_ | refine so rfl ?_ | refine sb rfl ?_)
    first
      | exact ⟨_, [_], _, rfl, pickA_perm (is := [0]) (As := [_]) rfl, rfl, ⟨by rw [← hq, if_neg k3, if_neg k1, if_neg k2]; rfl, rfl⟩, fun _ _ => hex⟩
      | exact ⟨_, [_], _, rfl, pickA_perm (is := [1]) (As := [_]) rfl, rfl, ⟨by rw [← hq, if_neg k3, if_neg k1, if_neg k2]; rfl, rfl⟩, fun _ _ => hex⟩
      | exact ⟨_, [_], _, rfl, pickA_perm (is := [2]) (As := [_]) rfl, rfl, ⟨by rw [← hq, if_neg k3, if_neg k1, if_neg k2]; rfl, rfl⟩, fun _ _ => hex⟩
      | exact ⟨_, [_], _, rfl, pickA_perm (is := [3]) (As := [_]) rfl, rfl, ⟨by rw [← hq, if_neg k3, if_neg k1, if_neg k2]; rfl, rfl⟩, fun _ _ => hex⟩
      | exact ⟨_, [_], _, rfl, pickA_perm (is := [4]) (As := [_]) rfl, rfl, ⟨by rw [← hq, if_neg k3, if_neg k1, if_neg k2]; rfl, rfl⟩, fun _ _ => hex⟩
end Go.Proofs

namespace Go.Proofs
open Go.Sy Go.Lib

theorem typG_step (l : List Dcl) (t : Ty) (k n : Nat) : typG l t (k + 1) n = if (byF l (n + 1) t).2 = true then ((byF l (n + 1) t).1, ((n + 1 : Nat) : Int)) else typG l t k (n + 1) := rfl

theorem BType_A (b : Nat) (l : List Dcl) (hP : Prep l) (hW : WellL l) (t : Ty) (ht : FewT t) : FnA Tryz.prog 83 [PT b 0, .agg (Ty.c t)] [dscS b l]
    (fun r cs' => (r = .tup [.agg (Val.c (typG l t 8 0).1), I64 (typG l t 8 0).2] ∧ cs' = [dscS b l]) ∧ (t.kind = 6 → ∃ Rs, RowsOK l Rs)) := by
  obtain ⟨q, hq⟩ : ∃ q, typG l t 8 0 = q := ⟨_, rfl⟩
  rw [hq]
  refine FnA.intro Tryz.tabOK Tryz.wide_ Tryz.func83 rfl (by decide) rfl (fun X => ?_)
  repeat (first|refine sc rfl ?_|refine so rfl ?_|refine sb rfl ?_)
  refine C_le _ (Le.freezebox 6 rfl rfl rfl) ?_
  refine C_loop (fun i : Nat => ⟨[(0, PT b 0), (3, .bp 3 0), (4, .bp 4 0), (6, MK b), (13, I64 (i : Nat))], [.box 3 63 (Ty.c t), .box 4 70 zC, .abs (dscS b l)]⟩)
    (fun i => i ≤ 8 ∧ typG l t (8 - i) i = q ∧ (0 < i → t.kind = 6 → ∃ Rs, RowsOK l Rs)) (fun i => 8 - i) 0 ⟨Nat.zero_le _, hq, fun h => absurd h (by decide)⟩ (Le.pick [1, 0, 0] ⟨rfl, rfl, rfl, rfl, rfl, trivial⟩ rfl) ?_
  rintro i ⟨hi, hF, hx⟩
  repeat (first|refine sc rfl ?_|refine so rfl ?_|refine sb rfl ?_)
  refine C_if rfl (fun m1 => ?_) (fun m1 => ?_) <;> simp only [pL] at m1
  · have hil : i < 8 := by omega
    rw [show 8 - i = (8 - (i + 1)) + 1 by omega, typG_step] at hF
    repeat (first|refine sc rfl ?_|refine so rfl ?_|refine sb rfl ?_)
    rw [w64 (x := (i : Int) + 1) (by omega) (by omega), show ((i : Int) + 1) = ((i + 1 : Nat) : Int) by omega]
    first
      | refine O_callA [0] (by_A b l hP hW (i + 1) (by omega) _ t (Nat.le_refl _) ht) (by rfl) (by rfl) (by rfl) (by rfl) (by rfl) ?_
      | refine O_callA [1] (by_A b l hP hW (i + 1) (by omega) _ t (Nat.le_refl _) ht) (by rfl) (by rfl) (by rfl) (by rfl) (by rfl) ?_
      | refine O_callA [2] (by_A b l hP hW (i + 1) (by omega) _ t (Nat.le_refl _) ht) (by rfl) (by rfl) (by rfl) (by rfl) (by rfl) ?_
      | refine O_callA [3] (by_A b l hP hW (i + 1) (by omega) _ t (Nat.le_refl _) ht) (by rfl) (by rfl) (by rfl) (by rfl) (by rfl) ?_
      | refine O_callA [4] (by_A b l hP hW (i + 1) (by omega) _ t (Nat.le_refl _) ht) (by rfl) (by rfl) (by rfl) (by rfl) (by rfl) ?_
    rintro r cs' ⟨⟨rfl, rfl⟩, hex⟩
    have hx' : t.kind = 6 → ∃ Rs, RowsOK l Rs := hex (by omega)
    obtain ⟨y, hy⟩ : ∃ y, byF l (i + 1) t = y := ⟨_, rfl⟩
    rw [hy] at hF ⊢
    obtain ⟨w, ok⟩ := y
    cases ok with
    | true =>
      rw [if_pos rfl] at hF
      repeat (first|refine sc rfl ?_|refine so rfl ?_|refine sb rfl ?_)
      refine C_true rfl rfl ?_
      repeat (first|refine sc rfl ?_|refine so rfl ?_|refine sb rfl ?_)
      rw [w64 (x := (i : Int) + 1) (by omega) (by omega)]
      repeat (first|refine sc rfl ?_|refine so rfl ?_|refine sb rfl ?_)
      first
        | exact ⟨_, [_], _, rfl, pickA_perm (is := [0]) (As := [_]) rfl, rfl, ⟨by rw [← hF]; rfl, rfl⟩, hx'⟩
        | exact ⟨_, [_], _, rfl, pickA_perm (is := [1]) (As := [_]) rfl, rfl, ⟨by rw [← hF]; rfl, rfl⟩, hx'⟩
        | exact ⟨_, [_], _, rfl, pickA_perm (is := [2]) (As := [_]) rfl, rfl, ⟨by rw [← hF]; rfl, rfl⟩, hx'⟩
        | exact ⟨_, [_], _, rfl, pickA_perm (is := [3]) (As := [_]) rfl, rfl, ⟨by rw [← hF]; rfl, rfl⟩, hx'⟩
        | exact ⟨_, [_], _, rfl, pickA_perm (is := [4]) (As := [_]) rfl, rfl, ⟨by rw [← hF]; rfl, rfl⟩, hx'⟩
    | false =>
      rw [if_neg (fun h => by cases h)] at hF
      repeat (first|refine sc rfl ?_|refine so rfl ?_|refine sb rfl ?_)
      refine C_false rfl rfl ?_
      repeat (first|refine sc rfl ?_|refine so rfl ?_|refine sb rfl ?_)
      rw [w64 (x := (i : Int) + 1) (by omega) (by omega)]
      exact ⟨i + 1, ⟨hil, hF, fun _ => hx'⟩, by omega, Le.pick [2, 2, 1] ⟨rfl, rfl, rfl, rfl, rfl, trivial⟩ rfl⟩
  · obtain rfl : i = 8 := by omega
    repeat (first | refine O_le _ (Le.agg 29 (Val.c zV) rfl (.cons .refl (.cons .refl (.cons .refl (.cons .nil (.cons .nil .nil)))))) ?_ | refine sc rfl ?_ | refine so rfl ?_ | refine sb rfl ?_)
    first
      | exact ⟨_, [_], _, rfl, pickA_perm (is := [0]) (As := [_]) rfl, rfl, ⟨by rw [← hF]; rfl, rfl⟩, hx (by decide)⟩
      | exact ⟨_, [_], _, rfl, pickA_perm (is := [1]) (As := [_]) rfl, rfl, ⟨by rw [← hF]; rfl, rfl⟩, hx (by decide)⟩
      | exact ⟨_, [_], _, rfl, pickA_perm (is := [2]) (As := [_]) rfl, rfl, ⟨by rw [← hF]; rfl, rfl⟩, hx (by decide)⟩
      | exact ⟨_, [_], _, rfl, pickA_perm (is := [3]) (As := [_]) rfl, rfl, ⟨by rw [← hF]; rfl, rfl⟩, hx (by decide)⟩
      | exact ⟨_, [_], _, rfl, pickA_perm (is := [4]) (As := [_]) rfl, rfl, ⟨by rw [← hF]; rfl, rfl⟩, hx (by decide)⟩

theorem BStruct_A (b : Nat) (l : List Dcl) (hP : Prep l) (hW : WellL l) (nm : List UInt8) : FnA Tryz.prog 32 [PT b 0, .s nm] [dscS b l]
    (fun r cs' => (r = .tup [.agg (Val.c (strF l nm).1), I64 (strF l nm).2] ∧ cs' = [dscS b l]) ∧ (kindL l nm = 1 → ∃ Rs, RowsOK l Rs)) := by
  obtain ⟨q, hq⟩ : ∃ q, strF l nm = q := ⟨_, rfl⟩
  rw [hq]
  unfold strF at hq
  refine FnA.intro Tryz.tabOK Tryz.wide_ Tryz.func32 rfl (by decide) rfl (fun X => ?_)
  repeat (first|refine sc rfl ?_|refine so rfl ?_|refine sb rfl ?_)
  first
    | refine O_callA [0] (DKind_S b l hP nm) (by rfl) (by rfl) (by rfl) (by rfl) (by rfl) ?_
    | refine O_callA [1] (DKind_S b l hP nm) (by rfl) (by rfl) (by rfl) (by rfl) (by rfl) ?_
    | refine O_callA [2] (DKind_S b l hP nm) (by rfl) (by rfl) (by rfl) (by rfl) (by rfl) ?_
    | refine O_callA [3] (DKind_S b l hP nm) (by rfl) (by rfl) (by rfl) (by rfl) (by rfl) ?_
    | refine O_callA [4] (DKind_S b l hP nm) (by rfl) (by rfl) (by rfl) (by rfl) (by rfl) ?_
  rintro r cs' ⟨rfl, rfl⟩
  repeat (first|refine sc rfl ?_|refine so rfl ?_|refine sb rfl ?_)
  refine C_if rfl (fun c => ?_) (fun c => ?_) <;> simp only [pL] at c
  · rw [if_neg c] at hq
    repeat (first | refine O_le _ (Le.agg 10 (Val.c zV) rfl (.cons .refl (.cons .refl (.cons .refl (.cons .nil (.cons .nil .nil)))))) ?_ | refine sc rfl ?_ | refine so rfl ?_ | refine sb rfl ?_)
    first
      | exact ⟨_, [_], _, rfl, pickA_perm (is := [0]) (As := [_]) rfl, rfl, ⟨by rw [← hq]; rfl, rfl⟩, fun h => absurd h c⟩
      | exact ⟨_, [_], _, rfl, pickA_perm (is := [1]) (As := [_]) rfl, rfl, ⟨by rw [← hq]; rfl, rfl⟩, fun h => absurd h c⟩
      | exact ⟨_, [_], _, rfl, pickA_perm (is := [2]) (As := [_]) rfl, rfl, ⟨by rw [← hq]; rfl, rfl⟩, fun h => absurd h c⟩
      | exact ⟨_, [_], _, rfl, pickA_perm (is := [3]) (As := [_]) rfl, rfl, ⟨by rw [← hq]; rfl, rfl⟩, fun h => absurd h c⟩
      | exact ⟨_, [_], _, rfl, pickA_perm (is := [4]) (As := [_]) rfl, rfl, ⟨by rw [← hq]; rfl, rfl⟩, fun h => absurd h c⟩
  · rw [if_pos c] at hq
    repeat (first | refine O_le _ (Le.agg 13 (Ty.c ⟨6, nm, []⟩) rfl (.cons .refl (.cons .refl (.cons .nil .nil)))) ?_ | refine sc rfl ?_ | refine so rfl ?_ | refine sb rfl ?_)
    first
      | refine O_callA [0] (BType_A b l hP hW ⟨6, nm, []⟩ ⟨Nat.zero_le _, fun i hi => absurd hi (Nat.not_lt_zero _)⟩) (by rfl) (by rfl) (by rfl) (by rfl) (by rfl) ?_
      | refine O_callA [1] (BType_A b l hP hW ⟨6, nm, []⟩ ⟨Nat.zero_le _, fun i hi => absurd hi (Nat.not_lt_zero _)⟩) (by rfl) (by rfl) (by rfl) (by rfl) (by rfl) ?_
      | refine O_callA [2] (BType_A b l hP hW ⟨6, nm, []⟩ ⟨Nat.zero_le _, fun i hi => absurd hi (Nat.not_lt_zero _)⟩) (by rfl) (by rfl) (by rfl) (by rfl) (by rfl) ?_
      | refine O_callA [3] (BType_A b l hP hW ⟨6, nm, []⟩ ⟨Nat.zero_le _, fun i hi => absurd hi (Nat.not_lt_zero _)⟩) (by rfl) (by rfl) (by rfl) (by rfl) (by rfl) ?_
      | refine O_callA [4] (BType_A b l hP hW ⟨6, nm, []⟩ ⟨Nat.zero_le _, fun i hi => absurd hi (Nat.not_lt_zero _)⟩) (by rfl) (by rfl) (by rfl) (by rfl) (by rfl) ?_
    rintro r cs' ⟨⟨rfl, rfl⟩, hex⟩
    rw [hq]
    repeat (first|refine sc rfl ?_|refine so rfl ?_|refine sb rfl ?_)
    first
      | exact ⟨_, [_], _, rfl, pickA_perm (is := [0]) (As := [_]) rfl, rfl, ⟨rfl, rfl⟩, fun _ => hex rfl⟩
      | exact ⟨_, [_], _, rfl, pickA_perm (is := [1]) (As := [_]) rfl, rfl, ⟨rfl, rfl⟩, fun _ => hex rfl⟩
      | exact ⟨_, [_], _, rfl, pickA_perm (is := [2]) (As := [_]) rfl, rfl, ⟨rfl, rfl⟩, fun _ => hex rfl⟩
      | exact ⟨_, [_], _, rfl, pickA_perm (is := [3]) (As := [_]) rfl, rfl, ⟨rfl, rfl⟩, fun _ => hex rfl⟩
      | exact ⟨_, [_], _, rfl, pickA_perm (is := [4]) (As := [_]) rfl, rfl, ⟨rfl, rfl⟩, fun _ => hex rfl⟩
end Go.Proofs

namespace Go.Proofs
open Go.Sy Go.Lib

theorem Of_B (l : List Dcl) (hl : FewL l) : FnA Tryz.prog 24 [SL 5 Dcl.c l] [] (fun r cs' => (∃ f : Flt, r = .tup [.v (.pointer none), .agg (Flt.c f)] ∧ f.err ≠ 0 ∧ cs' = []) ∨
    (∃ b, r = .tup [PT b 0, .agg (Flt.c ⟨0, 0⟩)] ∧ (WellL l ∧ FinL l) ∧ cs' = [boxA b 165 [SL 5 Dcl.c l, .v (.int .u32 0), .v (.int .i32 0), .v (.int .u32 0), .v (.pointer none), .v (.map none)]])) := by
  refine FnA.intro Tryz.tabOK Tryz.wide_ Tryz.func24 rfl (by decide) rfl (fun X => ?_)
  repeat (first|refine sc rfl ?_|refine so rfl ?_|refine sb rfl ?_)
  refine O_call (Check_c l hl.toFew) (by rfl) (by rfl) (by rfl) (by rfl) (fun r hr => ?_)
  obtain ⟨f, rfl, hf, hf2⟩ := hr
  repeat (first|refine sc rfl ?_|refine so rfl ?_|refine sb rfl ?_)
  refine C_if rfl (fun m1 => ?_) (fun m1 => ?_) <;> simp only [pL] at m1
  · repeat (first|refine sc rfl ?_|refine so rfl ?_|refine sb rfl ?_)
    refine C_drawU 20 2 rfl (by kernel_rfl) (by kernel_rfl) (by kernel_rfl) ?_
    repeat (first|refine sd rfl ?_|refine sdb rfl ?_|refine sds rfl ?_)
    repeat (first|refine sc rfl ?_|refine so rfl ?_|refine sb rfl ?_)
    exact ⟨_, [], _, rfl, .refl _, rfl, .inl ⟨f, rfl, m1, rfl⟩⟩
  · repeat (first|refine sc rfl ?_|refine so rfl ?_|refine sb rfl ?_)
    refine O_call (decls_c l hl) (by rfl) (by rfl) (by rfl) (by rfl) (fun r hr => ?_)
    subst hr
    iterate 6 (first|refine sc rfl ?_|refine so rfl ?_|refine sb rfl ?_)
    refine C_absb 2 rfl rfl rfl (fun b => ?_)
    repeat (first|refine sc rfl ?_|refine so rfl ?_|refine sb rfl ?_)
    exact ⟨_, [_], _, rfl, .refl _, rfl, .inr ⟨b, rfl, hf.1 m1, rfl⟩⟩

theorem MadeZ_A (l : List Dcl) (hl : FewL l) : FnA Tryz.prog 30 [SL 5 Dcl.c l] [] (fun r cs' => (r = .tup [.v (.pointer none), .v (.slice none 0 0)] ∧ cs' = []) ∨
    (∃ b, r = .tup [PT b 0, SL 5 Dcl.c l] ∧ (WellL l ∧ FinL l) ∧ cs' = [dscS b l])) := by
  refine FnA.intro Tryz.tabOK Tryz.wide_ Tryz.func30 rfl (by decide) rfl (fun X => ?_)
  repeat (first|refine sc rfl ?_|refine so rfl ?_|refine sb rfl ?_)
  refine O_callA [] (Of_B l hl) (by rfl) (by rfl) (by rfl) (by rfl) (by rfl) ?_
  rintro r cs' (⟨f, rfl, hn, rfl⟩ | ⟨b, rfl, hW, rfl⟩)
  · repeat (first|refine sc rfl ?_|refine so rfl ?_|refine sb rfl ?_)
    refine C_true rfl (by simpa using hn) ?_
    repeat (first|refine sc rfl ?_|refine so rfl ?_|refine sb rfl ?_)
    exact ⟨_, [], _, rfl, .refl _, rfl, .inl ⟨rfl, rfl⟩⟩
  · refine O_le _ (Le.absPerm (As := [dsc b l none]) (As' := [dscS b l]) (pickA_perm (is := [0]) rfl) (.refl _) (fun G w h A hA => ?_)) ?_
    · simp only [List.mem_singleton] at hA
      subst hA
      exact ⟨none, (fun _ h => by cases h), h _ (by simp)⟩
    repeat (first|refine sc rfl ?_|refine so rfl ?_|refine sb rfl ?_)
    refine C_false rfl rfl ?_
    repeat (first|refine sc rfl ?_|refine so rfl ?_|refine sb rfl ?_)
    first
      | exact ⟨_, [_], _, rfl, pickA_perm (is := [0]) (As := [_]) rfl, rfl, .inr ⟨b, rfl, hW, rfl⟩⟩
      | exact ⟨_, [_], _, rfl, pickA_perm (is := [1]) (As := [_]) rfl, rfl, .inr ⟨b, rfl, hW, rfl⟩⟩
      | exact ⟨_, [_], _, rfl, pickA_perm (is := [2]) (As := [_]) rfl, rfl, .inr ⟨b, rfl, hW, rfl⟩⟩
      | exact ⟨_, [_], _, rfl, pickA_perm (is := [3]) (As := [_]) rfl, rfl, .inr ⟨b, rfl, hW, rfl⟩⟩
      | exact ⟨_, [_], _, rfl, pickA_perm (is := [4]) (As := [_]) rfl, rfl, .inr ⟨b, rfl, hW, rfl⟩⟩

def tx4 : List UInt8 := [115, 116, 114, 117, 99, 116, 32, 80, 32, 123, 32, 49, 32, 97, 58, 32, 116, 101, 120, 116, 59, 32, 50, 32, 98, 58, 32, 80, 63, 59, 32, 125]
def hA : Fld := ⟨1, [97], ⟨4, [], []⟩⟩
def hB : Fld := ⟨2, [98], ⟨9, [], [⟨6, [80], []⟩]⟩⟩
def sc4 : List Dcl := [⟨1, [80], [hA, hB], [], 0⟩]
theorem par4 : parseF tx4 = (sc4, 0, 0) := by rfl
theorem fewL4 : FewL sc4 := by
  have h := parse_fewL (s := tx4) (by rw [par4])
  rw [par4] at h; exact h
theorem tyOK96 : TyOK sc4 false ⟨9, [], [⟨6, [80], []⟩]⟩ := by
  refine .mk rfl (fun _ => rfl) (fun h => absurd h (by decide)) (fun _ => rfl) (fun h => absurd h (by decide)) (fun i hi => ?_)
  obtain rfl : i = 0 := by have : i < 1 := hi; omega
  exact .mk rfl (fun h => absurd rfl h) (fun _ => .inl (by decide)) (fun h => absurd h (by decide)) (fun h => absurd h (by decide)) (fun i hi => absurd hi (Nat.not_lt_zero _))
theorem well4 : WellL sc4 := fun i hi => by
  obtain rfl : i = 0 := by have : i < 1 := hi; omega
  have hm : ∀ f : Fld, f ∈ [hA, hB] → f = hA ∨ f = hB := fun f hf => by simpa using hf
  refine ⟨rfl, .inl rfl, ⟨fun f hf => ?_, fun f hf _ => ?_⟩, ⟨(fun m hm => by cases hm), (fun m hm => by cases hm)⟩, by decide, by decide, fun h => by rcases h with h | h <;> exact absurd h (by decide)⟩
  · rcases hm f hf with rfl | rfl <;> decide
  · rcases hm f hf with rfl | rfl
    · exact ⟨tyOK0 _ _ (.inr rfl), by decide⟩
    · exact ⟨tyOK96, fun h => absurd h (by decide)⟩
theorem fin4 : FinL sc4 := fun i hi => by
  obtain rfl : i = 0 := by have : i < 1 := hi; omega
  decide
theorem prep4 : Prep sc4 := by
  have h := parse_prep (s := tx4) (by rw [par4]) (by rw [par4]; exact well4)
  rw [par4] at h; exact h
theorem rows4 : RowsOK sc4 [[hA, hB]] := ⟨rfl, fun i hi => by
  obtain rfl : i = 0 := by have : i < 1 := hi; omega
  show SrtOf [hA, hB] [hA, hB]
  refine ⟨rfl, PermOn.refl _ _ _, fun i j _ hij hj => ?_⟩
  have hj' : j < 2 := hj
  rcases j with _ | _ | j
  · obtain rfl : i = 0 := by omega
    decide
  · have hi' : i < 2 := by omega
    rcases i with _ | _ | i
    · decide
    · decide
    · omega
  · omega⟩
theorem rowsU4 : rowsU sc4 [80] = [hA, hB] := by rw [← rowsU_eq well4 rows4]; rfl

theorem strF4 : strF sc4 [80] = (⟨9, 0, [], [1], [⟨4, 0, [], [], []⟩]⟩, 2) := by
  have hk : kindL sc4 [80] = 1 := by decide
  rw [strF, if_pos hk, show (8 : Nat) = 6 + 1 + 1 from rfl, typG_step, typG_step]
  have h1 : byF sc4 1 ⟨6, [80], []⟩ = (zV, false) := by
    simp only [byF]
    rw [plF_eq, if_pos rfl, namF, hk, rowsU4]
    rfl
  have h2 : byF sc4 2 ⟨6, [80], []⟩ = (⟨9, 0, [], [1], [⟨4, 0, [], [], []⟩]⟩, true) := by
    have h3 : byF sc4 1 ⟨4, [], []⟩ = (⟨4, 0, [], [], []⟩, true) := by
      simp only [byF]; rfl
    rw [byF, plF_eq, if_pos rfl, namF, hk, rowsU4, if_neg (by decide), if_pos rfl]
    simp only [fldF, hA, hB, h3]
    rfl
  rw [h1, h2]
  rfl

theorem awake19_A (m : Int) : FnA Tryz.prog 29 [] [glbA m] (fun r cs' => r = B true ∧ cs' = [glbA m]) := by
  refine FnA.intro Tryz.tabOK Tryz.wide_ Tryz.func29 rfl (by decide) rfl (fun X => ?_)
  repeat (first|refine sc rfl ?_|refine so rfl ?_|refine sb rfl ?_)
  refine O_callA [0] (Read_A m tx4 sc4 (.inl par4) fewL4 ⟨well4, fin4⟩) (by rfl) (by rfl) (by rfl) (by rfl) (by rfl) ?_
  rintro r cs' ⟨b1, rfl, rfl⟩
  repeat (first|refine sc rfl ?_|refine so rfl ?_|refine sb rfl ?_)
  first
    | refine O_callA [0] (BStruct_A b1 sc4 prep4 well4 [80]) (by rfl) (by rfl) (by rfl) (by rfl) (by rfl) ?_
    | refine O_callA [1] (BStruct_A b1 sc4 prep4 well4 [80]) (by rfl) (by rfl) (by rfl) (by rfl) (by rfl) ?_
    | refine O_callA [2] (BStruct_A b1 sc4 prep4 well4 [80]) (by rfl) (by rfl) (by rfl) (by rfl) (by rfl) ?_
    | refine O_callA [3] (BStruct_A b1 sc4 prep4 well4 [80]) (by rfl) (by rfl) (by rfl) (by rfl) (by rfl) ?_
    | refine O_callA [4] (BStruct_A b1 sc4 prep4 well4 [80]) (by rfl) (by rfl) (by rfl) (by rfl) (by rfl) ?_
  rintro r cs' ⟨⟨rfl, rfl⟩, _⟩
  rw [strF4]
  repeat (first | refine O_le _ (Le.one 24 (SL 5 Val.c [⟨4, 0, [], [], []⟩]) rfl (.row (Val.rows_eq _))) ?_ | refine sc rfl ?_ | refine so rfl ?_ | refine sb rfl ?_)
  refine ⟨by decide, ?_⟩
  repeat (first|refine sc rfl ?_|refine so rfl ?_|refine sb rfl ?_)
  first
    | exact ⟨_, [_], _, rfl, pickA_perm (is := [0]) (As := [_]) rfl, rfl, rfl, rfl⟩
    | exact ⟨_, [_], _, rfl, pickA_perm (is := [1]) (As := [_]) rfl, rfl, rfl, rfl⟩
    | exact ⟨_, [_], _, rfl, pickA_perm (is := [2]) (As := [_]) rfl, rfl, rfl, rfl⟩
    | exact ⟨_, [_], _, rfl, pickA_perm (is := [3]) (As := [_]) rfl, rfl, rfl, rfl⟩
    | exact ⟨_, [_], _, rfl, pickA_perm (is := [4]) (As := [_]) rfl, rfl, rfl, rfl⟩

end Go.Proofs

namespace Go.Proofs
open Go.Sy Go.Lib
structure Sgl where
  least : Int
  most : Int

instance : Inhabited Sgl := ⟨⟨0, 0⟩⟩
def Sgl.c (x : Sgl) : List AV := [I64 x.least, I64 x.most]
structure Wds where
  right : Bool

instance : Inhabited Wds := ⟨⟨false⟩⟩
def Wds.c (x : Wds) : List AV := [B x.right]
structure Mny where

instance : Inhabited Mny := ⟨⟨⟩⟩
def Mny.c (x : Mny) : List AV := []
structure Prs where

instance : Inhabited Prs := ⟨⟨⟩⟩
def Prs.c (x : Prs) : List AV := []
structure Tgd where
  most : Int

instance : Inhabited Tgd := ⟨⟨0⟩⟩
def Tgd.c (x : Tgd) : List AV := [I64 x.most]
end Go.Proofs

namespace Go.Proofs
open Go.Sy Go.Lib

noncomputable def KeyedV_F (k : Int) : Option (Bool) :=
  Option.bind (α := Bool) (cond (k == 1) (some (k == 1)) (cond (k == 2) (some (k == 2)) (cond (k == 3) (some (k == 3)) (cond (k == 6) (some (k == 6)) (some (k == 4)))))) (fun m1 => cond m1 (some true) (some false))
theorem KeyedV_w (k : Int) (r : Bool) (h : KeyedV_F k = some r) : FnP Tryz.prog 356 [I64 k] (· = B r) := by
  unfold KeyedV_F at h
  refine FnP.intro Tryz.tabOK Tryz.wide_ Tryz.func356 rfl (by decide) rfl (fun X => ?_)
  iterate 2 refine sc rfl ?_
  first|refine so rfl ?_|refine sb rfl ?_
  refine so rfl ?_
  iterate 3 refine sc rfl ?_
  first|refine so rfl ?_|refine sb rfl ?_
  refine so rfl ?_
  iterate 4 refine sc rfl ?_
  iterate 2 (first|refine so rfl ?_|refine sb rfl ?_)
  refine so rfl ?_
  obtain ⟨m1, hm1, h⟩ := bT h
  refine C_join ⟨[(4, B m1)], []⟩ ?_ (fun s hm1s => C_le _ hm1s ?_)
  · refine C_if rfl (fun hb2 => ?_) (fun hb2 => ?_)
    · replace hm1 := cT hb2 hm1
      refine sc rfl ?_
      obtain rfl := Option.some.inj hm1
      exact Le.sub [] ⟨rfl, trivial⟩ rfl
    · replace hm1 := cF hb2 hm1
      iterate 2 refine sc rfl ?_
      iterate 2 (first|refine so rfl ?_|refine sb rfl ?_)
      refine so rfl ?_
      refine C_if rfl (fun hb3 => ?_) (fun hb3 => ?_)
      · replace hm1 := cT hb3 hm1
        refine sc rfl ?_
        obtain rfl := Option.some.inj hm1
        exact Le.sub [] ⟨rfl, trivial⟩ rfl
      · replace hm1 := cF hb3 hm1
        iterate 2 refine sc rfl ?_
        iterate 2 (first|refine so rfl ?_|refine sb rfl ?_)
        refine so rfl ?_
        refine C_if rfl (fun hb4 => ?_) (fun hb4 => ?_)
        · replace hm1 := cT hb4 hm1
          refine sc rfl ?_
          obtain rfl := Option.some.inj hm1
          exact Le.sub [] ⟨rfl, trivial⟩ rfl
        · replace hm1 := cF hb4 hm1
          iterate 2 refine sc rfl ?_
          iterate 2 (first|refine so rfl ?_|refine sb rfl ?_)
          refine so rfl ?_
          refine C_if rfl (fun hb5 => ?_) (fun hb5 => ?_)
          · replace hm1 := cT hb5 hm1
            refine sc rfl ?_
            obtain rfl := Option.some.inj hm1
            exact Le.sub [] ⟨rfl, trivial⟩ rfl
          · replace hm1 := cF hb5 hm1
            refine sc rfl ?_
            iterate 2 (first|refine so rfl ?_|refine sb rfl ?_)
            refine so rfl ?_
            obtain rfl := Option.some.inj hm1
            exact Le.sub [] ⟨rfl, trivial⟩ rfl
  refine C_if rfl (fun hb6 => ?_) (fun hb6 => ?_)
  · replace h := cT hb6 h
    iterate 2 refine sc rfl ?_
    first|refine so rfl ?_|refine sb rfl ?_
    refine so rfl ?_
    refine sc rfl ?_
    obtain rfl := Option.some.inj h
    exact ⟨_, rfl, rfl, rfl⟩
  · replace h := cF hb6 h
    iterate 3 refine sc rfl ?_
    first|refine so rfl ?_|refine sb rfl ?_
    refine so rfl ?_
    refine sc rfl ?_
    obtain rfl := Option.some.inj h
    exact ⟨_, rfl, rfl, rfl⟩
noncomputable def BareV_F (v : Val) : Option (Bool) :=
  Option.bind (α := Bool) (cond ((v.tags.length : Int) == 0) (some ((v.items.length : Int) == 0)) (some false)) (fun m1 => some m1)
theorem BareV_w (v : Val) (r : Bool) (h : BareV_F v = some r) : FnP Tryz.prog 348 [.agg (Val.c v)] (· = B r) := by
  unfold BareV_F at h
  refine FnP.intro Tryz.tabOK Tryz.wide_ Tryz.func348 rfl (by decide) rfl (fun X => ?_)
  iterate 2 refine sc rfl ?_
  iterate 2 (first|refine so rfl ?_|refine sb rfl ?_)
  refine so rfl ?_
  refine sc rfl ?_
  obtain ⟨m1, hm1, h⟩ := bT h
  refine C_join ⟨[(2, B m1)], [.box 1 70 [I64 v.kind, I64 v.num, .s v.text, SL 1 INTc v.tags, .sl v.items.length 5 (Val.rows v.items)]]⟩ ?_ (fun s hm1s => C_le _ hm1s ?_)
  · refine sc rfl ?_
    iterate 5 (first|refine so rfl ?_|refine sb rfl ?_)
    refine O_case 7 rfl (fun hb2 => ?_) (fun hb2 => ?_)
    · replace hm1 := cT hb2 hm1
      iterate 2 (first|refine so rfl ?_|refine sb rfl ?_)
      refine O_le _ (Le.one 9 (SL 5 Val.c v.items) rfl (.row (Val.rows_eq _))) ?_
      iterate 4 (first|refine so rfl ?_|refine sb rfl ?_)
      refine so rfl ?_
      obtain rfl := Option.some.inj hm1
      exact Le.sub [1] ⟨rfl, trivial⟩ rfl
    · replace hm1 := cF hb2 hm1
      iterate 6 (first|refine so rfl ?_|refine sb rfl ?_)
      refine so rfl ?_
      obtain rfl := Option.some.inj hm1
      exact Le.sub [1] ⟨rfl, trivial⟩ rfl
  refine sc rfl ?_
  obtain rfl := Option.some.inj h
  exact ⟨_, rfl, rfl, rfl⟩
noncomputable def SglV_F (sh : Sgl) (v : Val) : Option (Bool) :=
  Option.bind (α := Bool) (Option.bind (BareV_F v) (fun r2 => cond r2 (cond (v.text == []) (cond (decide (sh.least ≤ v.num)) (some (decide (v.num ≤ sh.most))) (some false)) (some false)) (some false))) (fun m1 => some m1)
theorem SglV_w (sh : Sgl) (v : Val) (r : Bool) (h : SglV_F sh v = some r) : FnP Tryz.prog 347 [.agg (Sgl.c sh), .agg (Val.c v)] (· = B r) := by
  unfold SglV_F at h
  refine FnP.intro Tryz.tabOK Tryz.wide_ Tryz.func347 rfl (by decide) rfl (fun X => ?_)
  iterate 2 refine sc rfl ?_
  iterate 3 (first|refine so rfl ?_|refine sb rfl ?_)
  refine so rfl ?_
  refine sc rfl ?_
  obtain ⟨m1, hm1, h⟩ := bT h
  refine C_join ⟨[(4, B m1)], [.box 2 351 [I64 sh.least, I64 sh.most], .box 3 70 [I64 v.kind, I64 v.num, .s v.text, SL 1 INTc v.tags, .sl v.items.length 5 (Val.rows v.items)]]⟩ ?_ (fun s hm1s => C_le _ hm1s ?_)
  · refine sc rfl ?_
    first|refine so rfl ?_|refine sb rfl ?_
    obtain ⟨r2, hr3, hm1⟩ := bT hm1
    refine O_call (BareV_w _ _ hr3) (by rfl) (by rfl) (by rfl) (by rfl) (fun q4 hq4 => ?_)
    subst hq4
    first|refine so rfl ?_|refine sb rfl ?_
    refine O_case 7 rfl (fun hb5 => ?_) (fun hb5 => ?_)
    · replace hm1 := cT hb5 hm1
      iterate 5 (first|refine so rfl ?_|refine sb rfl ?_)
      refine O_case 12 rfl (fun hb6 => ?_) (fun hb6 => ?_)
      · replace hm1 := cT hb6 hm1
        iterate 7 (first|refine so rfl ?_|refine sb rfl ?_)
        refine O_case 19 rfl (fun hb7 => ?_) (fun hb7 => ?_)
        · replace hm1 := cT hb7 hm1
          iterate 7 (first|refine so rfl ?_|refine sb rfl ?_)
          refine so rfl ?_
          obtain rfl := Option.some.inj hm1
          exact Le.sub [2, 3] ⟨rfl, trivial⟩ rfl
        · replace hm1 := cF hb7 hm1
          iterate 7 (first|refine so rfl ?_|refine sb rfl ?_)
          refine so rfl ?_
          obtain rfl := Option.some.inj hm1
          exact Le.sub [2, 3] ⟨rfl, trivial⟩ rfl
      · replace hm1 := cF hb6 hm1
        iterate 14 (first|refine so rfl ?_|refine sb rfl ?_)
        refine so rfl ?_
        obtain rfl := Option.some.inj hm1
        exact Le.sub [2, 3] ⟨rfl, trivial⟩ rfl
    · replace hm1 := cF hb5 hm1
      iterate 19 (first|refine so rfl ?_|refine sb rfl ?_)
      refine so rfl ?_
      obtain rfl := Option.some.inj hm1
      exact Le.sub [2, 3] ⟨rfl, trivial⟩ rfl
  refine sc rfl ?_
  obtain rfl := Option.some.inj h
  exact ⟨_, rfl, rfl, rfl⟩
noncomputable def MnyV_F (sh : Mny) (v : Val) : Option (Bool) :=
  Option.bind (α := Bool) (cond (v.num == 0) (cond (v.text == []) (some ((v.tags.length : Int) == 0)) (some false)) (some false)) (fun m1 => some m1)
theorem MnyV_w (sh : Mny) (v : Val) (r : Bool) (h : MnyV_F sh v = some r) : FnP Tryz.prog 354 [.agg (Mny.c (⟨⟩ : Mny)), .agg (Val.c v)] (· = B r) := by
  unfold MnyV_F at h
  refine FnP.intro Tryz.tabOK Tryz.wide_ Tryz.func354 rfl (by decide) rfl (fun X => ?_)
  iterate 2 refine sc rfl ?_
  iterate 3 (first|refine so rfl ?_|refine sb rfl ?_)
  refine so rfl ?_
  refine sc rfl ?_
  obtain ⟨m1, hm1, h⟩ := bT h
  refine C_join ⟨[(4, B m1)], [.box 2 354 [], .box 3 70 [I64 v.kind, I64 v.num, .s v.text, SL 1 INTc v.tags, .sl v.items.length 5 (Val.rows v.items)]]⟩ ?_ (fun s hm1s => C_le _ hm1s ?_)
  · refine sc rfl ?_
    iterate 4 (first|refine so rfl ?_|refine sb rfl ?_)
    refine O_case 8 rfl (fun hb2 => ?_) (fun hb2 => ?_)
    · replace hm1 := cT hb2 hm1
      iterate 5 (first|refine so rfl ?_|refine sb rfl ?_)
      refine O_case 13 rfl (fun hb3 => ?_) (fun hb3 => ?_)
      · replace hm1 := cT hb3 hm1
        iterate 6 (first|refine so rfl ?_|refine sb rfl ?_)
        refine so rfl ?_
        obtain rfl := Option.some.inj hm1
        exact Le.sub [2, 3] ⟨rfl, trivial⟩ rfl
      · replace hm1 := cF hb3 hm1
        iterate 6 (first|refine so rfl ?_|refine sb rfl ?_)
        refine so rfl ?_
        obtain rfl := Option.some.inj hm1
        exact Le.sub [2, 3] ⟨rfl, trivial⟩ rfl
    · replace hm1 := cF hb2 hm1
      iterate 11 (first|refine so rfl ?_|refine sb rfl ?_)
      refine so rfl ?_
      obtain rfl := Option.some.inj hm1
      exact Le.sub [2, 3] ⟨rfl, trivial⟩ rfl
  refine sc rfl ?_
  obtain rfl := Option.some.inj h
  exact ⟨_, rfl, rfl, rfl⟩
noncomputable def TgdV_L7 (sh : Tgd) (v : Val) (m1 : Bool) (s7 : Int × Int) : Option ((Int × Int) ⊕ ((Bool) ⊕ (Unit))) :=
  cond (decide (s7.2 < (v.tags.length : Int))) (chk ((0 : Int) ≤ s7.2 ∧ s7.2 < (v.tags.length : Int)) (cond (decide ((v.tags.getD (Int.toNat s7.2) default) ≤ s7.1)) (some (Sum.inr ((Sum.inl false)))) (cond (decide (255 < (v.tags.getD (Int.toNat s7.2) default))) (some (Sum.inr ((Sum.inl false)))) (some (Sum.inl (v.tags.getD (Int.toNat s7.2) default, IntKind.i64.wrap (s7.2 + 1))))))) (some (Sum.inr ((Sum.inr ()))))
noncomputable def TgdV_F (sh : Tgd) (v : Val) : Option (Bool) :=
  Option.bind (α := Bool) (cond (v.num != 0) (some true) (cond (!(v.text == [])) (some true) (cond ((v.tags.length : Int) != (v.items.length : Int)) (some true) (cond (decide (0 < sh.most)) (some ((v.tags.length : Int) != sh.most)) (some false))))) (fun m1 => cond m1 (some false) (Option.bind (Iter (TgdV_L7 sh v m1) (0, 0)) (Sum.elim (fun c17 => some c17) (fun b12 => some true))))
theorem TgdV_w (sh : Tgd) (v : Val) (r : Bool) (h : TgdV_F sh v = some r) : FnP Tryz.prog 365 [.agg (Tgd.c sh), .agg (Val.c v)] (· = B r) := by
  unfold TgdV_F at h
  refine FnP.intro Tryz.tabOK Tryz.wide_ Tryz.func365 rfl (by decide) rfl (fun X => ?_)
  iterate 2 refine sc rfl ?_
  iterate 3 (first|refine so rfl ?_|refine sb rfl ?_)
  refine so rfl ?_
  iterate 2 refine sc rfl ?_
  obtain ⟨m1, hm1, h⟩ := bT h
  refine C_join ⟨[(3, .bp 3 0), (37, B m1)], [.box 2 357 [I64 sh.most], .box 3 70 [I64 v.kind, I64 v.num, .s v.text, SL 1 INTc v.tags, .sl v.items.length 5 (Val.rows v.items)]]⟩ ?_ (fun s hm1s => C_le _ hm1s ?_)
  · refine sc rfl ?_
    iterate 4 (first|refine so rfl ?_|refine sb rfl ?_)
    refine O_case 11 rfl (fun hb2 => ?_) (fun hb2 => ?_)
    · replace hm1 := cT hb2 hm1
      iterate 26 (first|refine so rfl ?_|refine sb rfl ?_)
      refine so rfl ?_
      obtain rfl := Option.some.inj hm1
      exact Le.sub [2, 3] ⟨rfl, rfl, trivial⟩ rfl
    · replace hm1 := cF hb2 hm1
      iterate 5 (first|refine so rfl ?_|refine sb rfl ?_)
      refine O_case 16 rfl (fun hb3 => ?_) (fun hb3 => ?_)
      · replace hm1 := cT hb3 hm1
        iterate 21 (first|refine so rfl ?_|refine sb rfl ?_)
        refine so rfl ?_
        obtain rfl := Option.some.inj hm1
        exact Le.sub [2, 3] ⟨rfl, rfl, trivial⟩ rfl
      · replace hm1 := cF hb3 hm1
        iterate 5 (first|refine so rfl ?_|refine sb rfl ?_)
        refine O_le _ (Le.one 21 (SL 5 Val.c v.items) rfl (.row (Val.rows_eq _))) ?_
        iterate 4 (first|refine so rfl ?_|refine sb rfl ?_)
        refine O_case 25 rfl (fun hb4 => ?_) (fun hb4 => ?_)
        · replace hm1 := cT hb4 hm1
          iterate 12 (first|refine so rfl ?_|refine sb rfl ?_)
          refine so rfl ?_
          obtain rfl := Option.some.inj hm1
          exact Le.sub [2, 3] ⟨rfl, rfl, trivial⟩ rfl
        · replace hm1 := cF hb4 hm1
          iterate 4 (first|refine so rfl ?_|refine sb rfl ?_)
          refine O_case 29 rfl (fun hb5 => ?_) (fun hb5 => ?_)
          · replace hm1 := cT hb5 hm1
            iterate 8 (first|refine so rfl ?_|refine sb rfl ?_)
            refine so rfl ?_
            obtain rfl := Option.some.inj hm1
            exact Le.sub [2, 3] ⟨rfl, rfl, trivial⟩ rfl
          · replace hm1 := cF hb5 hm1
            iterate 8 (first|refine so rfl ?_|refine sb rfl ?_)
            refine so rfl ?_
            obtain rfl := Option.some.inj hm1
            exact Le.sub [2, 3] ⟨rfl, rfl, trivial⟩ rfl
  refine C_if rfl (fun hb6 => ?_) (fun hb6 => ?_)
  · replace h := cT hb6 h
    iterate 2 refine sc rfl ?_
    first|refine so rfl ?_|refine sb rfl ?_
    refine so rfl ?_
    refine sc rfl ?_
    obtain rfl := Option.some.inj h
    exact ⟨_, rfl, rfl, rfl⟩
  · replace h := cF hb6 h
    iterate 3 refine sc rfl ?_
    first|refine so rfl ?_|refine sb rfl ?_
    refine so rfl ?_
    iterate 3 refine sc rfl ?_
    iterate 4 (first|refine so rfl ?_|refine sb rfl ?_)
    refine so rfl ?_
    obtain ⟨o8, ho8, h⟩ := bT h
    refine C_joinP ((fun b12 : Unit => (⟨[], []⟩ : St)) (match o8 with | (.inl b12) => default | (.inr b12) => b12)) (∃ b, o8 = (.inr b)) ?_ (fun s hs hp => ?_)
    · refine sc rfl ?_
      refine C_iter (fun s7 : Int × Int => ⟨[(5, I64 s7.1), (39, SL 1 INTc v.tags), (40, I64 (v.tags.length : Int)), (41, I64 s7.2)], [.box 2 357 [I64 sh.most], .box 3 70 [I64 v.kind, I64 v.num, .s v.text, SL 1 INTc v.tags, .sl v.items.length 5 (Val.rows v.items)]]⟩) ho8 (Le.sub [2, 3] ⟨rfl, rfl, rfl, rfl, trivial⟩ rfl) (fun s7 y9 hy10 hr11 => ?_)
      unfold TgdV_L7 at hy10
      iterate 2 refine sc rfl ?_
      first|refine so rfl ?_|refine sb rfl ?_
      refine so rfl ?_
      refine sc rfl ?_
      refine C_if rfl (fun hb13 => ?_) (fun hb13 => ?_)
      · replace hy10 := cT hb13 hy10
        iterate 5 refine sc rfl ?_
        obtain ⟨g14, hy10⟩ := gT hy10
        refine so rfl (And.intro g14 ?_)
        iterate 2 (first|refine so rfl ?_|refine sb rfl ?_)
        refine so rfl ?_
        iterate 3 refine sc rfl ?_
        iterate 4 (first|refine so rfl ?_|refine sb rfl ?_)
        refine O_case 48 rfl (fun hb15 => ?_) (fun hb15 => ?_)
        · replace hy10 := cT hb15 hy10
          iterate 3 (first|refine so rfl ?_|refine sb rfl ?_)
          refine so rfl ?_
          refine C_true rfl rfl ?_
          iterate 2 refine sc rfl ?_
          first|refine so rfl ?_|refine sb rfl ?_
          refine so rfl ?_
          refine sc rfl ?_
          obtain rfl := Option.some.inj hy10
          have ho82 := hr11 _ rfl
          subst ho82
          obtain rfl := Option.some.inj h
          exact ⟨_, rfl, rfl, rfl⟩
        · replace hy10 := cF hb15 hy10
          iterate 3 (first|refine so rfl ?_|refine sb rfl ?_)
          refine so rfl ?_
          refine C_if rfl (fun hb16 => ?_) (fun hb16 => ?_)
          · replace hy10 := cT hb16 hy10
            iterate 2 refine sc rfl ?_
            first|refine so rfl ?_|refine sb rfl ?_
            refine so rfl ?_
            refine sc rfl ?_
            obtain rfl := Option.some.inj hy10
            have ho82 := hr11 _ rfl
            subst ho82
            obtain rfl := Option.some.inj h
            exact ⟨_, rfl, rfl, rfl⟩
          · replace hy10 := cF hb16 hy10
            iterate 2 refine sc rfl ?_
            iterate 2 (first|refine so rfl ?_|refine sb rfl ?_)
            refine so rfl ?_
            refine sc rfl ?_
            iterate 2 (first|refine so rfl ?_|refine sb rfl ?_)
            refine so rfl ?_
            obtain rfl := Option.some.inj hy10
            exact ⟨_, rfl, Le.sub [2, 3] ⟨rfl, rfl, rfl, rfl, trivial⟩ rfl⟩
      · replace hy10 := cF hb13 hy10
        refine sc rfl ?_
        obtain rfl := Option.some.inj hy10
        have ho82 := hr11 _ rfl
        subst ho82
        exact ⟨Le.sub [] trivial rfl, ⟨_, rfl⟩⟩
    obtain ⟨b12, rfl⟩ := hp
    refine C_le ⟨[], []⟩ hs ?_
    iterate 2 refine sc rfl ?_
    first|refine so rfl ?_|refine sb rfl ?_
    refine so rfl ?_
    refine sc rfl ?_
    obtain rfl := Option.some.inj h
    exact ⟨_, rfl, rfl, rfl⟩
noncomputable def DeepV_L1 (rec : Val → Option (Int)) (v : Val) (s1 : Int × Int) : Option ((Int × Int) ⊕ ((Int))) :=
  cond (decide (s1.2 < (v.items.length : Int))) (chk ((0 : Int) ≤ s1.2 ∧ s1.2 < (v.items.length : Int)) (Option.bind (rec (v.items.getD (Int.toNat s1.2) default)) (fun r9 => some (Sum.inl (max s1.1 r9, IntKind.i64.wrap (s1.2 + 1)))))) (some (Sum.inr (s1.1)))
noncomputable def DeepV_F (rec : Val → Option (Int)) (v : Val) : Option (Int) :=
  Option.bind (Iter (DeepV_L1 rec v) (0, 0)) (fun o2 => some (IntKind.i64.wrap (o2 + 1)))
theorem DeepV_wb (rec : Val → Option (Int)) (v : Val) (r : Int) (hrec : ∀ v r, rec v = some r → FnP Tryz.prog 134 [.agg (Val.c v)] (· = I64 r)) (h : DeepV_F rec v = some r) : FnP Tryz.prog 134 [.agg (Val.c v)] (· = I64 r) := by
  unfold DeepV_F at h
  refine FnP.intro Tryz.tabOK Tryz.wide_ Tryz.func134 rfl (by decide) rfl (fun X => ?_)
  iterate 2 refine sc rfl ?_
  iterate 2 (first|refine so rfl ?_|refine sb rfl ?_)
  refine so rfl ?_
  iterate 2 refine sc rfl ?_
  first|refine so rfl ?_|refine sb rfl ?_
  refine so rfl ?_
  iterate 3 refine sc rfl ?_
  iterate 2 (first|refine so rfl ?_|refine sb rfl ?_)
  refine O_le _ (Le.one 7 (SL 5 Val.c v.items) rfl (.row (Val.rows_eq _))) ?_
  iterate 2 (first|refine so rfl ?_|refine sb rfl ?_)
  refine so rfl ?_
  obtain ⟨o2, ho2, h⟩ := bT h
  refine C_joinP ⟨[(3, I64 o2)], []⟩ True ?_ (fun s hs hp => ?_)
  · refine sc rfl ?_
    refine C_iter (fun s1 : Int × Int => ⟨[(3, I64 s1.1), (7, SL 5 Val.c v.items), (8, I64 (v.items.length : Int)), (9, I64 s1.2)], [.box 1 70 [I64 v.kind, I64 v.num, .s v.text, SL 1 INTc v.tags, .sl v.items.length 5 (Val.rows v.items)]]⟩) ho2 (Le.sub [1] ⟨rfl, rfl, rfl, rfl, trivial⟩ rfl) (fun s1 y3 hy4 hr5 => ?_)
    unfold DeepV_L1 at hy4
    iterate 2 refine sc rfl ?_
    first|refine so rfl ?_|refine sb rfl ?_
    refine so rfl ?_
    refine sc rfl ?_
    refine C_if rfl (fun hb7 => ?_) (fun hb7 => ?_)
    · replace hy4 := cT hb7 hy4
      iterate 5 refine sc rfl ?_
      obtain ⟨g8, hy4⟩ := gT hy4
      refine so rfl (And.intro g8 ?_)
      first|refine so rfl ?_|refine sb rfl ?_
      iterate 2 (first|refine so rfl ?_|refine sb rfl ?_)
      refine so rfl ?_
      refine sc rfl ?_
      iterate 2 (first|refine so rfl ?_|refine sb rfl ?_)
      obtain ⟨r9, hr10, hy4⟩ := bT hy4
      refine O_call (hrec _ _ hr10) (by rfl) (by rfl) (by rfl) (by rfl) (fun q11 hq11 => ?_)
      subst hq11
      iterate 2 (first|refine so rfl ?_|refine sb rfl ?_)
      refine so rfl ?_
      refine sc rfl ?_
      iterate 2 (first|refine so rfl ?_|refine sb rfl ?_)
      refine so rfl ?_
      obtain rfl := Option.some.inj hy4
      exact ⟨_, rfl, Le.sub [1] ⟨rfl, rfl, rfl, rfl, trivial⟩ rfl⟩
    · replace hy4 := cF hb7 hy4
      refine sc rfl ?_
      obtain rfl := Option.some.inj hy4
      have ho22 := hr5 _ rfl
      subst ho22
      exact ⟨Le.sub [] ⟨rfl, trivial⟩ rfl, trivial⟩
  refine C_le ⟨[(3, I64 o2)], []⟩ hs ?_
  iterate 2 refine sc rfl ?_
  iterate 3 (first|refine so rfl ?_|refine sb rfl ?_)
  refine so rfl ?_
  refine sc rfl ?_
  obtain rfl := Option.some.inj h
  exact ⟨_, rfl, rfl, rfl⟩
noncomputable def DeepV_X : Nat → Val → Option (Int)
  | 0 => fun _ => none
  | n + 1 => DeepV_F (DeepV_X n)
theorem DeepV_wn : ∀ (n : Nat) (v : Val) (r : Int), DeepV_X n v = some r → FnP Tryz.prog 134 [.agg (Val.c v)] (· = I64 r)
  | 0, _, _, h => by cases h
  | n + 1, v, r, h => DeepV_wb (DeepV_X n) v r (fun v r hr => DeepV_wn n v r hr) h
theorem DeepV_w (v : Val) (r : Int) (h : DeepV_X FU v = some r) : FnP Tryz.prog 134 [.agg (Val.c v)] (· = I64 r) := DeepV_wn FU v r h
noncomputable def FKind_F (t : Int) : Option (Int) :=
  cond (t == 1) (some 1) (cond (t == 2) (some 2) (cond (t == 3) (some 3) (cond (t == 4) (some 4) (cond (t == 5) (some 5) (some 0)))))
theorem FKind_w (t : Int) (r : Int) (h : FKind_F t = some r) : FnP Tryz.prog 211 [I64 t] (· = I64 r) := by
  unfold FKind_F at h
  refine FnP.intro Tryz.tabOK Tryz.wide_ Tryz.func211 rfl (by decide) rfl (fun X => ?_)
  iterate 2 refine sc rfl ?_
  first|refine so rfl ?_|refine sb rfl ?_
  refine so rfl ?_
  iterate 3 refine sc rfl ?_
  first|refine so rfl ?_|refine sb rfl ?_
  refine so rfl ?_
  iterate 3 refine sc rfl ?_
  iterate 2 (first|refine so rfl ?_|refine sb rfl ?_)
  refine so rfl ?_
  refine C_if rfl (fun hb1 => ?_) (fun hb1 => ?_)
  · replace h := cT hb1 h
    iterate 2 refine sc rfl ?_
    first|refine so rfl ?_|refine sb rfl ?_
    refine so rfl ?_
    refine sc rfl ?_
    obtain rfl := Option.some.inj h
    exact ⟨_, rfl, rfl, rfl⟩
  · replace h := cF hb1 h
    iterate 2 refine sc rfl ?_
    iterate 2 (first|refine so rfl ?_|refine sb rfl ?_)
    refine so rfl ?_
    refine C_if rfl (fun hb2 => ?_) (fun hb2 => ?_)
    · replace h := cT hb2 h
      iterate 2 refine sc rfl ?_
      first|refine so rfl ?_|refine sb rfl ?_
      refine so rfl ?_
      refine sc rfl ?_
      obtain rfl := Option.some.inj h
      exact ⟨_, rfl, rfl, rfl⟩
    · replace h := cF hb2 h
      iterate 2 refine sc rfl ?_
      iterate 2 (first|refine so rfl ?_|refine sb rfl ?_)
      refine so rfl ?_
      refine C_if rfl (fun hb3 => ?_) (fun hb3 => ?_)
      · replace h := cT hb3 h
        iterate 2 refine sc rfl ?_
        first|refine so rfl ?_|refine sb rfl ?_
        refine so rfl ?_
        refine sc rfl ?_
        obtain rfl := Option.some.inj h
        exact ⟨_, rfl, rfl, rfl⟩
      · replace h := cF hb3 h
        iterate 2 refine sc rfl ?_
        iterate 2 (first|refine so rfl ?_|refine sb rfl ?_)
        refine so rfl ?_
        refine C_if rfl (fun hb4 => ?_) (fun hb4 => ?_)
        · replace h := cT hb4 h
          iterate 2 refine sc rfl ?_
          first|refine so rfl ?_|refine sb rfl ?_
          refine so rfl ?_
          refine sc rfl ?_
          obtain rfl := Option.some.inj h
          exact ⟨_, rfl, rfl, rfl⟩
        · replace h := cF hb4 h
          iterate 2 refine sc rfl ?_
          iterate 2 (first|refine so rfl ?_|refine sb rfl ?_)
          refine so rfl ?_
          refine C_if rfl (fun hb5 => ?_) (fun hb5 => ?_)
          · replace h := cT hb5 h
            iterate 2 refine sc rfl ?_
            first|refine so rfl ?_|refine sb rfl ?_
            refine so rfl ?_
            refine sc rfl ?_
            obtain rfl := Option.some.inj h
            exact ⟨_, rfl, rfl, rfl⟩
          · replace h := cF hb5 h
            iterate 3 refine sc rfl ?_
            first|refine so rfl ?_|refine sb rfl ?_
            refine so rfl ?_
            refine sc rfl ?_
            obtain rfl := Option.some.inj h
            exact ⟨_, rfl, rfl, rfl⟩
end Go.Proofs

namespace Go.Proofs
open Go.Sy Go.Lib

end Go.Proofs

namespace Go.Proofs
open Go.Sy Go.Lib

theorem Cmp2_c (a b : Int) : FnP Tryz.prog 126 [I64 a, I64 b] (· = I64 (cmpI a b)) := by
  refine Compare_w a b _ ?_
  unfold Compare_F IsNaN_F cmpI
  by_cases h1 : a < b
  · simp [h1]
  · by_cases h2 : b < a
    · simp [h1, h2]
    · simp [h1, h2]
theorem rowCmp_c (f : Fld) (t : Int) : FnP Tryz.prog 142 [.agg (Fld.c f), I64 t] (· = I64 (cmpI f.tag t)) := by
  refine FnP.intro Tryz.tabOK Tryz.wide_ Tryz.func142 rfl (by decide) rfl (fun X => ?_)
  repeat (first|refine sc rfl ?_|refine so rfl ?_|refine sb rfl ?_)
  refine O_call (Cmp2_c f.tag t) (by rfl) (by rfl) (by rfl) (by rfl) (fun r hr => ?_)
  subst hr
  repeat (first|refine sc rfl ?_|refine so rfl ?_|refine sb rfl ?_)
  exact ⟨_, rfl, rfl, rfl⟩

theorem cmp_eq (a b : Int) : cmpI a b = 0 ↔ a = b := by
  unfold cmpI
  split
  · constructor
    · intro h; cases h
    · intro h; omega
  · split
    · constructor
      · intro h; cases h
      · intro h; omega
    · constructor
      · intro _; omega
      · intro _; rfl
theorem bin_c (R : List Fld) (hl : R.length ≤ 1000) (hs : ∀ i j, i < j → j < R.length → (R.getD i default).tag < (R.getD j default).tag) (t : Int) :
    FnP Tryz.prog 141 [SL 5 Fld.c R, I64 t, .v (.func (.func 142) #[] #[])] (fun r => ∃ (i : Nat) (v : Bool), r = .tup [I64 (i : Nat), B v] ∧ (v = true → i < R.length ∧ (R.getD i default).tag = t) ∧ (v = false → ∀ j, j < R.length → (R.getD j default).tag ≠ t)) := by
  refine FnP.intro Tryz.tabOK Tryz.wide_ Tryz.func141 rfl (by decide) rfl (fun X => ?_)
  repeat (first|refine sc rfl ?_|refine so rfl ?_|refine sb rfl ?_)
  refine C_loop (fun q : Nat × Nat => ⟨[(0, SL 5 Fld.c R), (1, I64 t), (2, .v (.func (.func 142) #[] #[])), (8, I64 (R.length : Nat)), (9, I64 (q.1 : Nat)), (10, I64 (q.2 : Nat))], []⟩)
    (fun q => q.1 ≤ q.2 ∧ q.2 ≤ R.length ∧ (∀ j, j < q.1 → (R.getD j default).tag < t) ∧ ∀ j, q.2 ≤ j → j < R.length → t ≤ (R.getD j default).tag) (fun q => q.2 - q.1) (0, R.length) ⟨Nat.zero_le _, Nat.le_refl _, fun j hj => absurd hj (Nat.not_lt_zero _), fun j h1 h2 => by simp only [] at h1; omega⟩ (Le.sub [] ⟨rfl, rfl, rfl, rfl, rfl, rfl, trivial⟩ rfl) ?_
  rintro ⟨i, j⟩ ⟨g1, g2, g3, g4⟩
  simp only [] at g1 g2 g3 g4
  repeat (first|refine sc rfl ?_|refine so rfl ?_|refine sb rfl ?_)
  refine C_if rfl (fun m1 => ?_) (fun m1 => ?_) <;> simp only [pL] at m1
  · have hij : i < j := by omega
    repeat (first|refine sc rfl ?_|refine so rfl ?_|refine sb rfl ?_)
    refine ⟨by decide, ?_⟩
    repeat (first|refine sc rfl ?_|refine so rfl ?_|refine sb rfl ?_)
    rw [mid_wrap (i := i) (j := j) (by omega)]
    have hc1 : i ≤ (i + j) / 2 := by omega
    have hc2 : (i + j) / 2 < j := by omega
    generalize (i + j) / 2 = c at hc1 hc2 ⊢
    repeat (first|refine sc rfl ?_|refine so rfl ?_|refine sb rfl ?_)
    refine ⟨by omega, ?_⟩
    rw [Int.toNat_natCast]
    repeat (first|refine sc rfl ?_|refine so rfl ?_|refine sb rfl ?_)
    refine O_callAV (isClo_func 142) rfl (FnP.toA (rowCmp_c (R.getD c default) t) []) rfl rfl rfl rfl (cs := []) (cr := []) (.refl _) rfl ?_
    rintro r cs' ⟨rfl, rfl⟩
    repeat (first|refine sc rfl ?_|refine so rfl ?_|refine sb rfl ?_)
    refine C_if rfl (fun m2 => ?_) (fun m2 => ?_) <;> rw [cmp_lt] at m2 <;> simp only [pL] at m2
    · repeat (first|refine sc rfl ?_|refine so rfl ?_|refine sb rfl ?_)
      rw [w64 (x := (c : Int) + 1) (by omega) (by omega)]
      refine ⟨(c + 1, j), ⟨by simp only []; omega, g2, fun q hq => ?_, g4⟩, by simp only []; omega, Le.sub [] ⟨rfl, rfl, rfl, rfl, rfl, rfl, trivial⟩ rfl⟩
      simp only [] at hq
      by_cases hqc : q < c
      · have := hs q c hqc (by omega); omega
      · obtain rfl : q = c := by omega
        exact m2
    · repeat (first|refine sc rfl ?_|refine so rfl ?_|refine sb rfl ?_)
      refine ⟨(i, c), ⟨hc1, by simp only []; omega, g3, fun q hq1 hq2 => ?_⟩, by simp only []; omega, Le.sub [] ⟨rfl, rfl, rfl, rfl, rfl, rfl, trivial⟩ rfl⟩
      simp only [] at hq1
      by_cases hqc : c < q
      · have := hs c q hqc hq2; omega
      · obtain rfl : q = c := by omega
        omega
  · obtain rfl : i = j := by omega
    repeat (first|refine sc rfl ?_|refine so rfl ?_|refine sb rfl ?_)
    refine O_case 39 rfl (fun k1 => ?_) (fun k1 => ?_) <;> simp only [pL] at k1
    · have hil : i < R.length := by omega
      repeat (first|refine sc rfl ?_|refine so rfl ?_|refine sb rfl ?_)
      refine ⟨by omega, ?_⟩
      rw [Int.toNat_natCast]
      repeat (first|refine sc rfl ?_|refine so rfl ?_|refine sb rfl ?_)
      refine O_callAV (isClo_func 142) rfl (FnP.toA (rowCmp_c (R.getD i default) t) []) rfl rfl rfl rfl (cs := []) (cr := []) (.refl _) rfl ?_
      rintro r cs' ⟨rfl, rfl⟩
      repeat (first|refine sc rfl ?_|refine so rfl ?_|refine sb rfl ?_)
      refine ⟨_, rfl, rfl, i, _, rfl, fun h => ⟨hil, ?_⟩, fun h q hq => ?_⟩
      · rw [beq_iff_eq] at h
        exact (cmp_eq _ _).1 h
      · rw [beq_eq_false_iff_ne] at h
        have hne : (R.getD i default).tag ≠ t := fun e => h ((cmp_eq _ _).2 e)
        have := g4 i (Nat.le_refl _) hil
        rcases Nat.lt_trichotomy q i with h1 | h1 | h1
        · have := g3 q h1; omega
        · rw [h1]; exact hne
        · have := hs i q h1 hq; omega
    · repeat (first|refine sc rfl ?_|refine so rfl ?_|refine sb rfl ?_)
      refine ⟨_, rfl, rfl, i, false, rfl, (fun h => by cases h), fun _ q hq => ?_⟩
      have := g3 q (by omega)
      omega
end Go.Proofs

namespace Go.Proofs
open Go.Sy Go.Lib

def rowV (R : List Fld) (tag : Int) : AV := match R.find? (fun f => f.tag == tag) with
  | some f => .tup [.agg (Fld.c f), B true]
  | none => .tup [.agg [I64 0, .s [], I64 0, .s [], .v (.slice none 0 0)], B false]

theorem rowV_some {R : List Fld} (hs : R.Pairwise (fun a b => a.tag < b.tag)) {f : Fld} (hf : f ∈ R) : rowV R f.tag = .tup [.agg (Fld.c f), B true] := by
  unfold rowV
  cases h : R.find? (fun g => g.tag == f.tag) with
  | none =>
    have := List.find?_eq_none.1 h f hf
    simp at this
  | some g =>
    have h1 := List.find?_some h
    have h2 := List.mem_of_find?_eq_some h
    simp only [beq_iff_eq] at h1
    have hn : (R.map (·.tag)).Nodup := by
      rw [List.Nodup, List.pairwise_map]
      exact hs.imp (fun hab e => by omega)
    rw [one_tag hn h2 hf h1]
theorem rowV_none {R : List Fld} {tag : Int} (h : ∀ f ∈ R, f.tag ≠ tag) : rowV R tag = .tup [.agg [I64 0, .s [], I64 0, .s [], .v (.slice none 0 0)], B false] := by
  unfold rowV
  rw [List.find?_eq_none.2 (fun x hx => by simpa using h x hx)]

theorem DRow_A (b : Nat) (l : List Dcl) (hP : Prep l) (hW : WellL l) (q : Option (List (List Fld))) (hq : Rdy l q) (nm : List UInt8) (tag : Int) :
    FnA Tryz.prog 86 [PT b 0, .s nm, I64 tag] [dsc b l q] (fun r cs' => ∃ Rs, RowsOK l Rs ∧ r = rowV (rowsL l Rs nm) tag ∧ cs' = [dsc b l (some Rs)]) := by
  refine FnA.intro Tryz.tabOK Tryz.wide_ Tryz.func86 rfl (by decide) rfl (fun X => ?_)
  repeat (first|refine sc rfl ?_|refine so rfl ?_|refine sb rfl ?_)
  refine O_Xd (X_ptrnil Tryz.underlying48 rfl rfl rfl) ?_
  repeat (first|refine sc rfl ?_|refine so rfl ?_|refine sb rfl ?_)
  refine C_false rfl rfl ?_
  repeat (first|refine sc rfl ?_|refine so rfl ?_|refine sb rfl ?_)
  first
    | refine O_callA [0] (ready_A b l hP q hq) (by rfl) (by rfl) (by rfl) (by rfl) (by rfl) ?_
    | refine O_callA [1] (ready_A b l hP q hq) (by rfl) (by rfl) (by rfl) (by rfl) (by rfl) ?_
    | refine O_callA [2] (ready_A b l hP q hq) (by rfl) (by rfl) (by rfl) (by rfl) (by rfl) ?_
    | refine O_callA [3] (ready_A b l hP q hq) (by rfl) (by rfl) (by rfl) (by rfl) (by rfl) ?_
    | refine O_callA [4] (ready_A b l hP q hq) (by rfl) (by rfl) (by rfl) (by rfl) (by rfl) ?_
  rintro r cs' ⟨rfl, Rs, hRs, rfl⟩
  have hlook : lookE nm (esOf l Rs) = (fndL nm l).map fun j => SL 5 Fld.c (Rs.getD j default) := by
    rw [esOf_look nm l Rs (Nat.le_of_eq hRs.1)]
    cases hf : fndL nm l with
    | none => rfl
    | some j => simp only [Option.map_some]; rw [if_pos (by rw [hRs.1]; exact fndL_lt hf)]
  repeat (first|refine sc rfl ?_|refine so rfl ?_|refine sb rfl ?_)
  refine O_loadP 0 (A := dsc b l (some Rs)) (reads_box 5) rfl rfl rfl rfl rfl rfl ?_
  repeat (first|refine sc rfl ?_|refine so rfl ?_|refine sb rfl ?_)
  refine O_Xd (X_lookIS (z := nilH) sK Tryz.underlying163 rfl rfl (fun e => by simp only [Rep]) rfl (fun e v h => kS e h) rfl rfl rfl rfl) ?_
  rw [hlook]
  cases hf : fndL nm l with
  | none =>
    simp only [lookAV, cond_false, Option.map_none, Option.getD_none]
    refine O_le _ (Le.conv 22 (y := SL 5 Fld.c []) rfl (fun e v h => by simp only [Rep] at h ⊢; exact repI_nil (by simpa only [RepI] using h))) ?_
    have hR : rowsL l Rs nm = [] := by simp [rowsL, hf]
    repeat (first|refine sc rfl ?_|refine so rfl ?_|refine sb rfl ?_)
    refine O_call (bin_c [] (by decide) (fun i j _ hj => absurd hj (Nat.not_lt_zero _)) tag) (by rfl) (by rfl) (by rfl) (by rfl) (fun r hr => ?_)
    obtain ⟨i, v, rfl, h1, h2⟩ := hr
    cases v with
    | true => exact absurd (h1 rfl).1 (Nat.not_lt_zero _)
    | false =>
      repeat (first|refine sc rfl ?_|refine so rfl ?_|refine sb rfl ?_)
      refine C_if rfl (fun m1 => ?_) (fun m1 => ?_)
      · repeat (first|refine sc rfl ?_|refine so rfl ?_|refine sb rfl ?_)
        first
          | exact ⟨_, [_], _, rfl, pickA_perm (is := [0]) (As := [_]) rfl, rfl, ⟨Rs, hRs, by rw [hR]; rfl, rfl⟩⟩
          | exact ⟨_, [_], _, rfl, pickA_perm (is := [1]) (As := [_]) rfl, rfl, ⟨Rs, hRs, by rw [hR]; rfl, rfl⟩⟩
          | exact ⟨_, [_], _, rfl, pickA_perm (is := [2]) (As := [_]) rfl, rfl, ⟨Rs, hRs, by rw [hR]; rfl, rfl⟩⟩
          | exact ⟨_, [_], _, rfl, pickA_perm (is := [3]) (As := [_]) rfl, rfl, ⟨Rs, hRs, by rw [hR]; rfl, rfl⟩⟩
          | exact ⟨_, [_], _, rfl, pickA_perm (is := [4]) (As := [_]) rfl, rfl, ⟨Rs, hRs, by rw [hR]; rfl, rfl⟩⟩
      · cases m1
  | some j =>
    have hj := fndL_lt hf
    have hS := hRs.2 j hj
    have hn : ((l.getD j default).fields.map (·.tag)).Nodup := (List.nodup_append.1 (hW j hj).tags).1
    have hpw := hS.pw hn
    have hst := (hS.facts hn).2
    have hmem := (hS.facts hn).1
    have hR : rowsL l Rs nm = Rs.getD j default := by simp [rowsL, hf]
    have hfw := hS.few (hP.few.2 j hj).f
    rw [hf] at hlook
    simp only [lookAV, cond_false, Option.map_some, Option.getD_some] at hlook ⊢
    obtain ⟨R, hRe⟩ : ∃ R, Rs.getD j default = R := ⟨_, rfl⟩
    rw [hRe] at hlook hS hR hpw hst hmem hfw ⊢
    repeat (first|refine sc rfl ?_|refine so rfl ?_|refine sb rfl ?_)
    refine O_call (bin_c R hfw.1 hst tag) (by rfl) (by rfl) (by rfl) (by rfl) (fun r hr => ?_)
    obtain ⟨i, v, rfl, h1, h2⟩ := hr
    cases v with
    | false =>
      repeat (first|refine sc rfl ?_|refine so rfl ?_|refine sb rfl ?_)
      refine C_if rfl (fun m1 => ?_) (fun m1 => ?_)
      · repeat (first|refine sc rfl ?_|refine so rfl ?_|refine sb rfl ?_)
        first
          | exact ⟨_, [_], _, rfl, pickA_perm (is := [0]) (As := [_]) rfl, rfl, ⟨Rs, hRs, by rw [hR]; exact (rowV_none fun f hf => by obtain ⟨k, hk, rfl⟩ := getD_mem hf; exact h2 rfl k hk).symm, rfl⟩⟩
          | exact ⟨_, [_], _, rfl, pickA_perm (is := [1]) (As := [_]) rfl, rfl, ⟨Rs, hRs, by rw [hR]; exact (rowV_none fun f hf => by obtain ⟨k, hk, rfl⟩ := getD_mem hf; exact h2 rfl k hk).symm, rfl⟩⟩
          | exact ⟨_, [_], _, rfl, pickA_perm (is := [2]) (As := [_]) rfl, rfl, ⟨Rs, hRs, by rw [hR]; exact (rowV_none fun f hf => by obtain ⟨k, hk, rfl⟩ := getD_mem hf; exact h2 rfl k hk).symm, rfl⟩⟩
          | exact ⟨_, [_], _, rfl, pickA_perm (is := [3]) (As := [_]) rfl, rfl, ⟨Rs, hRs, by rw [hR]; exact (rowV_none fun f hf => by obtain ⟨k, hk, rfl⟩ := getD_mem hf; exact h2 rfl k hk).symm, rfl⟩⟩
          | exact ⟨_, [_], _, rfl, pickA_perm (is := [4]) (As := [_]) rfl, rfl, ⟨Rs, hRs, by rw [hR]; exact (rowV_none fun f hf => by obtain ⟨k, hk, rfl⟩ := getD_mem hf; exact h2 rfl k hk).symm, rfl⟩⟩
      · cases m1
    | true =>
      obtain ⟨hi, ht⟩ := h1 rfl
      repeat (first|refine sc rfl ?_|refine so rfl ?_|refine sb rfl ?_)
      refine C_if rfl (fun m1 => by cases m1) (fun m1 => ?_)
      repeat (first|refine sc rfl ?_|refine so rfl ?_|refine sb rfl ?_)
      refine O_loadP 0 (A := dsc b l (some Rs)) (reads_box 5) rfl rfl rfl rfl rfl rfl ?_
      repeat (first|refine sc rfl ?_|refine so rfl ?_|refine sb rfl ?_)
      refine O_Xd (X_lookIS (z := nilH) sK Tryz.underlying163 rfl rfl (fun e => by simp only [Rep]) rfl (fun e v h => kS e h) rfl rfl rfl rfl) ?_
      rw [hlook]
      simp only [lookAV, cond_false, Option.map_some, Option.getD_some]
      repeat (first|refine sc rfl ?_|refine so rfl ?_|refine sb rfl ?_)
      refine ⟨by omega, ?_⟩
      rw [Int.toNat_natCast]
      repeat (first|refine sc rfl ?_|refine so rfl ?_|refine sb rfl ?_)
      refine O_call (own_c _ (R.getD i default).ty (Nat.le_refl _) (hfw.2 i hi)) (by rfl) (by rfl) (by rfl) (by rfl) (fun r hr => ?_)
      subst hr
      repeat (first|refine sc rfl ?_|refine so rfl ?_|refine sb rfl ?_)
      first
        | exact ⟨_, [_], _, rfl, pickA_perm (is := [0]) (As := [_]) rfl, rfl, ⟨Rs, hRs, by rw [hR, ← ht]; exact (rowV_some hpw (mem_getDf hi)).symm, rfl⟩⟩
        | exact ⟨_, [_], _, rfl, pickA_perm (is := [1]) (As := [_]) rfl, rfl, ⟨Rs, hRs, by rw [hR, ← ht]; exact (rowV_some hpw (mem_getDf hi)).symm, rfl⟩⟩
        | exact ⟨_, [_], _, rfl, pickA_perm (is := [2]) (As := [_]) rfl, rfl, ⟨Rs, hRs, by rw [hR, ← ht]; exact (rowV_some hpw (mem_getDf hi)).symm, rfl⟩⟩
        | exact ⟨_, [_], _, rfl, pickA_perm (is := [3]) (As := [_]) rfl, rfl, ⟨Rs, hRs, by rw [hR, ← ht]; exact (rowV_some hpw (mem_getDf hi)).symm, rfl⟩⟩
        | exact ⟨_, [_], _, rfl, pickA_perm (is := [4]) (As := [_]) rfl, rfl, ⟨Rs, hRs, by rw [hR, ← ht]; exact (rowV_some hpw (mem_getDf hi)).symm, rfl⟩⟩
theorem DRow_S (b : Nat) (l : List Dcl) (hP : Prep l) (hW : WellL l) (nm : List UInt8) (tag : Int) : FnA Tryz.prog 86 [PT b 0, .s nm, I64 tag] [dscS b l] (fun r cs' => r = rowV (rowsU l nm) tag ∧ cs' = [dscS b l]) :=
  FnA_ex (φ := fun r => r = rowV (rowsU l nm) tag) (fun q hq => (DRow_A b l hP hW q hq nm tag).mono (fun r cs' ⟨Rs, h1, h2, h3⟩ => ⟨by rw [h2, rowsU_eq hW h1], some Rs, fun _ h => by cases h; exact h1, h3⟩)) (DRow_A b l hP hW none (fun _ h => by cases h) nm tag).1
end Go.Proofs

namespace Go.Proofs
open Go.Sy Go.Lib

theorem FnA.conv {P : Program} {f : FuncId} {args : List AV} {cs : List Abs} {p q : AV → List Abs → Prop} (h : FnA P f args cs p) (hpq : ∀ r c, p r c → ∃ r', q r' c ∧ ∀ G y, RepI G r y → RepI G r' y) : FnA P f args cs q :=
  ⟨h.1, fun G w c h1 h2 h3 => (h.2 G w c h1 h2 h3).mono fun e w' ⟨r, cr, cs', G', k, k1, k2, rest⟩ => by
    obtain ⟨r', q1, q2⟩ := hpq r cs' k
    exact ⟨r', cr, cs', G', q1, k1, q2 _ _ k2, rest⟩⟩

def fldJ (R : List Fld) (t : Int) : Fld := (R.find? (fun f => f.tag == t)).getD default
def hasJ (R : List Fld) (t : Int) : Bool := (R.find? (fun f => f.tag == t)).isSome
theorem DRow_F (b : Nat) (l : List Dcl) (hP : Prep l) (hW : WellL l) (nm : List UInt8) (tag : Int) : FnA Tryz.prog 86 [PT b 0, .s nm, I64 tag] [dscS b l] (fun r cs' => r = .tup [.agg (Fld.c (fldJ (rowsU l nm) tag)), B (hasJ (rowsU l nm) tag)] ∧ cs' = [dscS b l]) := by
  refine FnA.conv (DRow_S b l hP hW nm tag) (fun r c h => ?_)
  obtain ⟨rfl, rfl⟩ := h
  refine ⟨_, ⟨rfl, rfl⟩, fun G y h => ?_⟩
  unfold rowV at h
  unfold fldJ hasJ
  cases hf : (rowsU l nm).find? (fun f => f.tag == tag) with
  | some g => rw [hf] at h; exact h
  | none =>
    rw [hf] at h
    simp only [Option.getD_none, Option.isSome_none]
    simp only [RepI, RepIT] at h ⊢
    obtain ⟨ys, hy, h⟩ := h
    refine ⟨ys, hy, ?_⟩
    obtain ⟨z, zs, e1, ⟨zz, e2, e3⟩, e4⟩ := h
    refine ⟨z, zs, e1, ⟨zz, e2, ?_⟩, e4⟩
    show RepIL G [I64 0, .s [], I64 0, .s [], .sl 0 3 (Ty.rows [])] zz.toList
    simp only [RepIL] at e3 ⊢
    obtain ⟨a1, b1, c1, d1, o1, a2, b2, c2, d2, o2, a3, b3, c3, d3, o3, a4, b4, c4, d4, o4, a5, b5, c5, d5, o5, e5⟩ := e3
    exact ⟨a1, b1, c1, d1, o1, a2, b2, c2, d2, o2, a3, b3, c3, d3, o3, a4, b4, c4, d4, o4, a5, b5, c5, repI_nil (by simpa only [RepI] using d5), o5, e5⟩
end Go.Proofs

namespace Go.Proofs
open Go.Sy Go.Lib

noncomputable def DKind_F (l : List Dcl) (nm : List UInt8) : Option Int := some (kindL l nm)
theorem DKind_w (b : Nat) (l : List Dcl) (hP : Prep l) (hW : WellL l) (nm : List UInt8) (r : Int) (h : DKind_F l nm = some r) : FnA Tryz.prog 82 [PT b 0, .s nm] [dscS b l] (fun x cs' => x = I64 r ∧ cs' = [dscS b l]) := by
  obtain rfl := Option.some.inj h
  exact DKind_S b l hP nm
noncomputable def DRow_F2 (l : List Dcl) (nm : List UInt8) (tag : Int) : Option (Fld × Bool) := some (fldJ (rowsU l nm) tag, hasJ (rowsU l nm) tag)
theorem DRow_w (b : Nat) (l : List Dcl) (hP : Prep l) (hW : WellL l) (nm : List UInt8) (tag : Int) (r : Fld × Bool) (h : DRow_F2 l nm tag = some r) : FnA Tryz.prog 86 [PT b 0, .s nm, I64 tag] [dscS b l] (fun x cs' => x = .tup [.agg (Fld.c r.1), B r.2] ∧ cs' = [dscS b l]) := by
  obtain rfl := Option.some.inj h
  exact DRow_F b l hP hW nm tag
noncomputable def DRows_F (l : List Dcl) (nm : List UInt8) : Option (List Fld) := some (rowsU l nm)
theorem DRows_w (b : Nat) (l : List Dcl) (hP : Prep l) (hW : WellL l) (nm : List UInt8) (r : List Fld) (h : DRows_F l nm = some r) : FnA Tryz.prog 25 [PT b 0, .s nm] [dscS b l] (fun x cs' => x = SL 5 Fld.c r ∧ cs' = [dscS b l]) := by
  obtain rfl := Option.some.inj h
  exact DRows_S b l hP hW nm
end Go.Proofs
