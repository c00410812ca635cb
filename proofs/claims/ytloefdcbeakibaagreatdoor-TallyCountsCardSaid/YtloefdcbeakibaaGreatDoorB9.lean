/- The document's counts: acts, outs. -/
import Derived.Test.YtloefdcbeakibaaGreatDoorB8
set_option linter.unusedSimpArgs false
set_option linter.unusedVariables false
set_option maxRecDepth 100000
namespace Go.Proofs
open Go.Sy Go.Lib

theorem refActs_c (l : List Rw) (hl : l.length ≤ 300) (k : Int) : FnP Tryz.prog 29 [SL 8 Rw.c l, I64 k] (· = I64 (wi8 (cnt (fun x : Rw => x.act = k) l l.length))) := by
  refine FnP.intro Tryz.tabOK Tryz.wide_ Tryz.func29 rfl (by decide) rfl (fun X => ?_)
  repeat (first | refine sc rfl ?_ | refine so rfl ?_ | refine sb rfl ?_)
  refine C_loop (fun i : Nat => ⟨[(0, SL 8 Rw.c l), (1, I64 k), (5, I64 (wi8 (cnt (fun x : Rw => x.act = k) l i))), (6, I64 (i : Nat))], []⟩) (fun i => i ≤ l.length) (fun i => l.length - i) 0 (Nat.zero_le _) (Le.sub [] ⟨rfl, rfl, rfl, rfl, trivial⟩ rfl) ?_
  intro i hi
  repeat (first | refine sc rfl ?_ | refine so rfl ?_ | refine sb rfl ?_)
  refine C_if rfl (fun m1 => ?_) (fun m1 => ?_) <;> simp only [decide_eq_true_eq, decide_eq_false_iff_not, Bool.not_eq_true', Bool.not_eq_false', beq_iff_eq, beq_eq_false_iff_ne, bne_iff_ne, ne_eq, bne_eq_false_iff_eq, Decidable.not_not] at m1
  · have hil : i < l.length := by omega
    obtain ⟨x, hxe⟩ : ∃ x, l.getD i default = x := ⟨_, rfl⟩
    have e := cnt_s (fun x : Rw => x.act = k) l i
    rw [hxe] at e
    have no (h : ¬(x.act = k)) : wi8 (cnt (fun x : Rw => x.act = k) l i) = wi8 (cnt (fun x : Rw => x.act = k) l (i + 1)) := by rw [e, pt1_f h, Int.add_zero]
    have yes (h : x.act = k) : wi8 (wi8 (cnt (fun x : Rw => x.act = k) l i) + 1) = wi8 (cnt (fun x : Rw => x.act = k) l (i + 1)) := by rw [e, pt1_t h, wi8_l]
    clear e
    repeat (first | refine sc rfl ?_ | refine so rfl ?_ | refine sb rfl ?_)
    refine ⟨by omega, ?_⟩
    simp only [Int.toNat_natCast, hxe]
    repeat (first | refine sc rfl ?_ | refine so rfl ?_ | refine sb rfl ?_)
    refine C_if rfl (fun h4 => ?_) (fun h4 => ?_) <;> simp only [decide_eq_true_eq, decide_eq_false_iff_not, Bool.not_eq_true', Bool.not_eq_false', beq_iff_eq, beq_eq_false_iff_ne, bne_iff_ne, ne_eq, bne_eq_false_iff_eq, Decidable.not_not] at h4
    · repeat (first | refine sc rfl ?_ | refine so rfl ?_ | refine sb rfl ?_)
      rw [w64 (x := (i : Int) + 1) (by omega) (by omega)]
      exact ⟨i + 1, hil, by omega, Le.sub [] ⟨rfl, rfl, congrArg (fun v => some (I64 v)) (yes h4), rfl, trivial⟩ rfl⟩
    · repeat (first | refine sc rfl ?_ | refine so rfl ?_ | refine sb rfl ?_)
      rw [w64 (x := (i : Int) + 1) (by omega) (by omega)]
      exact ⟨i + 1, hil, by omega, Le.sub [] ⟨rfl, rfl, congrArg (fun v => some (I64 v)) (no h4), rfl, trivial⟩ rfl⟩
  · obtain rfl : i = l.length := by omega
    repeat (first | refine sc rfl ?_ | refine so rfl ?_ | refine sb rfl ?_)
    exact ⟨_, rfl, rfl, rfl⟩
abbrev sumB (l : List Ou) (i : Nat) : Int := sumD (fun (x : Ou) _ => pt1 (¬ x.closed = true) (x.bytes.length : Nat)) l i 0
abbrev sumS (l : List Ou) (i : Nat) : Int := cnt (fun x : Ou => x.closed = true) l i
theorem sumB_s (l : List Ou) (i : Nat) : sumB l (i + 1) = sumB l i + pt1 (¬ (l.getD i default).closed = true) ((l.getD i default).bytes.length : Nat) := rfl
theorem refOuts_c (l : List Ou) (hl : l.length ≤ 300) : FnP Tryz.prog 28 [SL 4 Ou.c l] (· = .tup [I64 (wi8 (sumB l l.length)), I64 (wi8 (sumS l l.length))]) := by
  refine FnP.intro Tryz.tabOK Tryz.wide_ Tryz.func28 rfl (by decide) rfl (fun X => ?_)
  repeat (first | refine sc rfl ?_ | refine so rfl ?_ | refine sb rfl ?_)
  refine C_loop (fun i : Nat => ⟨[(0, SL 4 Ou.c l), (4, I64 (wi8 (sumB l i))), (5, I64 (wi8 (sumS l i))), (6, I64 (i : Nat))], []⟩) (fun i => i ≤ l.length) (fun i => l.length - i) 0 (Nat.zero_le _) (Le.sub [] ⟨rfl, rfl, rfl, rfl, trivial⟩ rfl) ?_
  intro i hi
  repeat (first | refine sc rfl ?_ | refine so rfl ?_ | refine sb rfl ?_)
  refine C_if rfl (fun m1 => ?_) (fun m1 => ?_) <;> simp only [decide_eq_true_eq, decide_eq_false_iff_not, Bool.not_eq_true', Bool.not_eq_false', beq_iff_eq, beq_eq_false_iff_ne, bne_iff_ne, ne_eq, bne_eq_false_iff_eq, Decidable.not_not] at m1
  · have hil : i < l.length := by omega
    obtain ⟨x, hxe⟩ : ∃ x, l.getD i default = x := ⟨_, rfl⟩
    have e := cnt_s (fun x : Ou => x.closed = true) l i
    have eb := sumB_s l i
    rw [hxe] at e eb
    repeat (first | refine sc rfl ?_ | refine so rfl ?_ | refine sb rfl ?_)
    refine ⟨by omega, ?_⟩
    simp only [Int.toNat_natCast, hxe]
    repeat (first | refine sc rfl ?_ | refine so rfl ?_ | refine sb rfl ?_)
    refine C_if rfl (fun h4 => ?_) (fun h4 => ?_)
    · have e1 : wi8 (sumB l i) = wi8 (sumB l (i + 1)) := by rw [eb, pt1_f (fun c => c h4), Int.add_zero]
      have e2 : wi8 (wi8 (sumS l i) + 1) = wi8 (sumS l (i + 1)) := by rw [sumS, sumS, e, pt1_t h4, wi8_l]
      repeat (first | refine sc rfl ?_ | refine so rfl ?_ | refine sb rfl ?_)
      rw [w64 (x := (i : Int) + 1) (by omega) (by omega)]
      exact ⟨i + 1, hil, by omega, Le.sub [] ⟨rfl, congrArg (fun v => some (I64 v)) e1, congrArg (fun v => some (I64 v)) e2, rfl, trivial⟩ rfl⟩
    · have h5 : ¬ x.closed = true := by simp [h4]
      have e1 : wi8 (wi8 (sumB l i) + (x.bytes.length : Nat)) = wi8 (sumB l (i + 1)) := by rw [eb, pt1_t h5, wi8_l]
      have e2 : wi8 (sumS l i) = wi8 (sumS l (i + 1)) := by rw [sumS, sumS, e, pt1_f h5, Int.add_zero]
      repeat (first | refine sc rfl ?_ | refine so rfl ?_ | refine sb rfl ?_)
      refine ⟨by omega, ?_⟩
      simp only [Int.toNat_natCast, hxe]
      repeat (first | refine sc rfl ?_ | refine so rfl ?_ | refine sb rfl ?_)
      rw [w64 (x := (i : Int) + 1) (by omega) (by omega)]
      exact ⟨i + 1, hil, by omega, Le.sub [] ⟨rfl, congrArg (fun v => some (I64 v)) e1, congrArg (fun v => some (I64 v)) e2, rfl, trivial⟩ rfl⟩
  · obtain rfl : i = l.length := by omega
    repeat (first | refine sc rfl ?_ | refine so rfl ?_ | refine sb rfl ?_)
    exact ⟨_, rfl, rfl, rfl⟩
/-- What is counted of rows and outs. -/
abbrev totC (rows : List Rw) (outs : List Ou) : Nat → Int := pF (sumD rowD rows rows.length) (sumD outD outs outs.length)
theorem sum_c {α : Type} [Inhabited α] {g h : α → Nat → Int} {j k : Nat} (e : ∀ x, g x j = h x k) (l : List α) : ∀ i, sumD g l i j = sumD h l i k
  | 0 => rfl
  | i + 1 => by
    show sumD g l i j + g _ j = sumD h l i k + h _ k
    rw [sum_c e l i, e]
theorem sum_0 {α : Type} [Inhabited α] {g : α → Nat → Int} {j : Nat} (e : ∀ x, g x j = 0) (l : List α) : ∀ i, sumD g l i j = 0
  | 0 => rfl
  | i + 1 => by
    show sumD g l i j + g _ j = 0
    rw [sum_0 e l i, e]; rfl
theorem out_0 {j : Nat} (h : j < 42) (x : Ou) : outD x j = 0 := by
  unfold outD
  split
  · exact pt1_f (by omega) _
  · exact pt1_f (by omega) _
theorem row_0 {j : Nat} (h : 42 ≤ j) (x : Rw) : rowD x j = 0 := by
  unfold rowD pt1
  repeat' split
  all_goals omega
theorem tot_row (rows : List Rw) (outs : List Ou) {j : Nat} {P : Rw → Prop} [∀ x, Decidable (P x)] (h : j < 42) (e : ∀ x, rowD x j = pt1 (P x) 1) : wF (totC rows outs) j = wi8 (cnt P rows rows.length) := by
  show wi8 (sumD rowD rows rows.length j + sumD outD outs outs.length j) = _
  rw [sum_0 (out_0 h), Int.add_zero, sum_c (h := fun x _ => pt1 (P x) 1) (k := 0) e]
theorem came_e (rows : List Rw) (outs : List Ou) (k : Int) : (if 1 ≤ k ∧ k ≤ 9 then wF (totC rows outs) (0 + k.toNat) else 0) = wi8 (cnt (fun x : Rw => x.act = 1 ∧ x.note.kind = k ∧ 1 ≤ k ∧ k ≤ 9) rows rows.length) := by
  by_cases h : 1 ≤ k ∧ k ≤ 9
  · rw [if_pos h]
    refine tot_row rows outs (by omega) (fun x => ?_)
    unfold rowD pt1
    repeat' split
    all_goals omega
  · rw [if_neg h, cnt, sum_0 (fun x => pt1_f (by omega) _)]
    rfl
theorem ref_e (rows : List Rw) (outs : List Ou) (k : Int) : (if 1 ≤ k ∧ k ≤ 20 then wF (totC rows outs) (10 + k.toNat) else 0) = wi8 (cnt (fun x : Rw => x.act = 1 ∧ x.note.err = k ∧ 1 ≤ k ∧ k ≤ 20) rows rows.length) := by
  by_cases h : 1 ≤ k ∧ k ≤ 20
  · rw [if_pos h]
    refine tot_row rows outs (by omega) (fun x => ?_)
    unfold rowD pt1
    repeat' split
    all_goals omega
  · rw [if_neg h, cnt, sum_0 (fun x => pt1_f (by omega) _)]
    rfl
theorem ser_e (rows : List Rw) (outs : List Ou) (k : Int) : (if 0 ≤ k ∧ k ≤ 8 then wF (totC rows outs) (31 + k.toNat) else 0) = wi8 (cnt (fun x : Rw => x.act = 2 ∧ x.note.owner = k ∧ 0 ≤ k ∧ k ≤ 8) rows rows.length) := by
  by_cases h : 0 ≤ k ∧ k ≤ 8
  · rw [if_pos h]
    refine tot_row rows outs (by omega) (fun x => ?_)
    unfold rowD pt1
    repeat' split
    all_goals omega
  · rw [if_neg h, cnt, sum_0 (fun x => pt1_f (by omega) _)]
    rfl
theorem act3_e (rows : List Rw) (outs : List Ou) : wF (totC rows outs) 40 = wi8 (cnt (fun x : Rw => x.act = 3) rows rows.length) := by
  refine tot_row rows outs (by omega) (fun x => ?_)
  unfold rowD pt1
  repeat' split
  all_goals omega
theorem act4_e (rows : List Rw) (outs : List Ou) : wF (totC rows outs) 41 = wi8 (cnt (fun x : Rw => x.act = 4) rows rows.length) := by
  refine tot_row rows outs (by omega) (fun x => ?_)
  unfold rowD pt1
  repeat' split
  all_goals omega
theorem tot_out (rows : List Rw) (outs : List Ou) {j : Nat} {g : Ou → Nat → Int} (h : 42 ≤ j) (e : ∀ x, outD x j = g x 0) : wF (totC rows outs) j = wi8 (sumD g outs outs.length 0) := by
  show wi8 (sumD rowD rows rows.length j + sumD outD outs outs.length j) = _
  rw [sum_0 (row_0 h), Int.zero_add, sum_c e]
theorem bytes_e (rows : List Rw) (outs : List Ou) : wF (totC rows outs) 42 = wi8 (sumB outs outs.length) := by
  refine tot_out rows outs (by omega) (fun x => ?_)
  unfold outD pt1
  by_cases h : x.closed = true
  · simp [h]
  · simp [h]
theorem shut_e (rows : List Rw) (outs : List Ou) : wF (totC rows outs) 43 = wi8 (sumS outs outs.length) := by
  refine tot_out rows outs (by omega) (fun x => ?_)
  unfold outD pt1
  by_cases h : x.closed = true
  · simp [h]
  · simp [h]
end Go.Proofs

/- The document's text. -/
set_option linter.unusedSimpArgs false
set_option linter.unusedVariables false
set_option maxRecDepth 100000
namespace Go.Proofs
open Go.Sy Go.Lib

def kindsL : List (List UInt8) := [[], [104, 101, 108, 108, 111], [99, 97, 108, 108], [111, 110, 101, 119, 97, 121], [99, 97, 110, 99, 101, 108], [112, 105, 110, 103], [115, 99, 104, 101, 109, 97], [98, 105, 110, 100], [97, 100, 109, 105, 110], [114, 101, 112, 108, 121]]
def errsL : List (List UInt8) := [[], [102, 111, 114, 109], [115, 104, 111, 114, 116], [108, 111, 110, 103], [107, 105, 110, 100], [116, 111, 107, 101, 110], [110, 97, 109, 101], [116, 119, 105, 99, 101], [116, 121, 112, 101], [116, 97, 103], [100, 101, 101, 112], [116, 101, 120, 116], [110, 111, 110, 101], [102, 117, 108, 108], [113, 117, 111, 116, 97], [98, 117, 115, 121], [97, 117, 116, 104], [115, 116, 97, 116, 101], [108, 97, 116, 101], [103, 111, 110, 101], [114, 101, 115, 116]]
theorem kinds_e : ∀ i, i < 9 → [99, 97, 109, 101, 32] ++ kindsL.getD (i + 1) default = Lib.join [wCame, wordL ((i + 1 : Nat) : Int)] [32] := by decide
theorem errs_e : ∀ i, i < 20 → [114, 101, 102, 117, 115, 101, 100, 32] ++ errsL.getD (i + 1) default = Lib.join [wRef, errL ((i + 1 : Nat) : Int)] [32] := by decide
theorem cat_s (a : List UInt8) (F : Nat → List UInt8) (i : Nat) : a ++ catL F i ++ F i = a ++ catL F (i + 1) := by rw [catL, List.append_assoc]
theorem kinds_l : ∀ i, i < 9 → (kindsL.getD (i + 1) default).length ≤ 10 := by decide
theorem errs_l : ∀ i, i < 20 → (errsL.getD (i + 1) default).length ≤ 10 := by decide
theorem refText_c (rows : List Rw) (outs : List Ou) (hl : rows.length ≤ 300) (hl2 : outs.length ≤ 300) : FnP Tryz.prog 30 [SL 8 Rw.c rows, SL 4 Ou.c outs] (· = .s (TX (wF (totC rows outs)))) := by
  have hf : ∀ i, ok8 (wF (totC rows outs) i) := fun _ => wi8_ok _
  have hC := came_e rows outs
  have hR := ref_e rows outs
  have hS := ser_e rows outs
  have h3 := act3_e rows outs
  have h4 := act4_e rows outs
  have hB := bytes_e rows outs
  have hH := shut_e rows outs
  refine FnP.intro Tryz.tabOK Tryz.wide_ Tryz.func30 rfl (by decide) rfl (fun X => ?_)
  generalize wF (totC rows outs) = f at *
  repeat (first | refine sc rfl ?_ | refine so rfl ?_ | refine sb rfl ?_)
  refine C_le _ (Le.vecrow (k := 13) 10 (fun j => WDc (kindsL.getD j default)) rfl rfl (fun j hj => ?_)) ?_
  · match j, hj with
    | 0, _ => rfl
    | 1, _ => rfl
    | 2, _ => rfl
    | 3, _ => rfl
    | 4, _ => rfl
    | 5, _ => rfl
    | 6, _ => rfl
    | 7, _ => rfl
    | 8, _ => rfl
    | 9, _ => rfl
    | n + 10, h => exact absurd h (by show ¬ n + 10 < 10; omega)
  refine C_le _ (Le.freezeL (l := kindsL) (cells := WDc) 5 rfl rfl) ?_
  refine C_le _ (Le.vecrow (k := 14) 21 (fun j => WDc (errsL.getD j default)) rfl rfl (fun j hj => ?_)) ?_
  · match j, hj with
    | 0, _ => rfl
    | 1, _ => rfl
    | 2, _ => rfl
    | 3, _ => rfl
    | 4, _ => rfl
    | 5, _ => rfl
    | 6, _ => rfl
    | 7, _ => rfl
    | 8, _ => rfl
    | 9, _ => rfl
    | 10, _ => rfl
    | 11, _ => rfl
    | 12, _ => rfl
    | 13, _ => rfl
    | 14, _ => rfl
    | 15, _ => rfl
    | 16, _ => rfl
    | 17, _ => rfl
    | 18, _ => rfl
    | 19, _ => rfl
    | 20, _ => rfl
    | n + 21, h => exact absurd h (by show ¬ n + 21 < 21; omega)
  refine C_le _ (Le.freezeL (l := errsL) (cells := WDc) 6 rfl rfl) ?_
  have lFC : ∀ i, (FC f i).length ≤ 64 := fun i => by
    have h1 := lineF_len (w := Lib.join [wCame, wordL ((i + 1 : Nat) : Int)] [32]) (hf (i + 1)).1 (hf (i + 1)).2
    have h2 := wordL_len ((i + 1 : Nat) : Int)
    rw [join2_len] at h1
    have : wCame.length = 4 := rfl
    unfold FC; omega
  have lFR : ∀ i, (FR f i).length ≤ 64 := fun i => by
    have h1 := lineF_len (w := Lib.join [wRef, errL ((i + 1 : Nat) : Int)] [32]) (hf (10 + (i + 1))).1 (hf (10 + (i + 1))).2
    have h2 := errL_len ((i + 1 : Nat) : Int)
    rw [join2_len] at h1
    have : wRef.length = 7 := rfl
    unfold FR; omega
  have lFS : ∀ i, i < 9 → (FS f i).length ≤ 64 := fun i hi => by
    have h1 := lineF_len (w := Lib.join [wSer, Lib.itoa ((i : Nat) : Int)] [32]) (hf (31 + i)).1 (hf (31 + i)).2
    have h2 := Lib.itoa_length_le ((i : Nat) : Int) (by omega) (by omega)
    rw [join2_len] at h1
    have : wSer.length = 6 := rfl
    unfold FS; omega
  have cC : ∀ i : Nat, i < 9 → FnP Tryz.prog 13 [SL 8 Rw.c rows, I64 ((i + 1 : Nat) : Int)] (· = I64 (f (i + 1))) := fun i hi => by
    have := refCame_c rows hl ((i + 1 : Nat) : Int)
    rwa [← hC, if_pos ⟨by omega, by omega⟩, show 0 + ((i + 1 : Nat) : Int).toNat = i + 1 by omega] at this
  have cR : ∀ i : Nat, i < 20 → FnP Tryz.prog 15 [SL 8 Rw.c rows, I64 ((i + 1 : Nat) : Int)] (· = I64 (f (10 + (i + 1)))) := fun i hi => by
    have := refRef_c rows hl ((i + 1 : Nat) : Int)
    rwa [← hR, if_pos ⟨by omega, by omega⟩, show 10 + ((i + 1 : Nat) : Int).toNat = 10 + (i + 1) by omega] at this
  have cS : ∀ i : Nat, i < 9 → FnP Tryz.prog 17 [SL 8 Rw.c rows, I64 ((i : Nat) : Int)] (· = I64 (f (31 + i))) := fun i hi => by
    have := refSer_c rows hl ((i : Nat) : Int)
    rwa [← hS, if_pos ⟨by omega, by omega⟩, show 31 + ((i : Nat) : Int).toNat = 31 + i by omega] at this
  refine C_loop (fun i : Nat => ⟨[(0, SL 8 Rw.c rows), (1, SL 4 Ou.c outs), (5, SL 1 WDc kindsL), (6, SL 1 WDc errsL), (7, .s (catL (FC f) i)), (8, I64 ((i + 1 : Nat) : Int))], []⟩) (fun i => i ≤ 9) (fun i => 9 - i) 0 (Nat.zero_le _) (Le.sub [] ⟨rfl, rfl, rfl, rfl, rfl, rfl, trivial⟩ rfl) ?_
  intro i hi
  have l1 := catL_len i (fun j _ => lFC j)
  repeat (first | refine sc rfl ?_ | refine so rfl ?_ | refine sb rfl ?_)
  refine C_if rfl (fun k1 => ?_) (fun k1 => ?_) <;> simp only [decide_eq_true_eq, decide_eq_false_iff_not, Bool.not_eq_true', Bool.not_eq_false', beq_iff_eq, beq_eq_false_iff_ne, bne_iff_ne, ne_eq, bne_eq_false_iff_eq, Decidable.not_not] at k1
  · repeat (first | refine sc rfl ?_ | refine so rfl ?_ | refine sb rfl ?_)
    have lk := kinds_l i (by omega)
    have lw := wordL_len ((i + 1 : Nat) : Int)
    have lc : wCame.length = 4 := rfl
    refine C_drawU 20 11 rfl (by kernel_rfl) (by kernel_rfl) (by kernel_rfl) ?_
    repeat (first | refine sd rfl ?_ | refine sdb rfl ?_ | refine sds rfl ?_)
    refine ⟨⟨by omega, by rw [show kindsL.length = 10 from rfl]; omega⟩, ?_⟩
    simp only [Int.toNat_natCast]
    repeat (first | refine sd rfl ?_ | refine sdb rfl ?_ | refine sds rfl ?_)
    refine ⟨by simp only [List.length_cons, List.length_nil]; omega, ?_⟩
    rw [kinds_e i (by omega)]
    repeat (first | refine sd rfl ?_ | refine sdb rfl ?_ | refine sds rfl ?_)
    refine D_call (cC i (by omega)) rfl rfl rfl rfl ?_
    repeat (first | refine sd rfl ?_ | refine sdb rfl ?_ | refine sds rfl ?_)
    refine D_call (refLine_c _ _ (hf (i + 1)) (by rw [join2_len]; omega)) rfl rfl rfl rfl ?_
    repeat (first | refine sd rfl ?_ | refine sdb rfl ?_ | refine sds rfl ?_)
    refine ⟨by have := lFC i; unfold FC at this; omega, ?_⟩
    repeat (first | refine sd rfl ?_ | refine sdb rfl ?_ | refine sds rfl ?_)
    repeat (first | refine sc rfl ?_ | refine so rfl ?_ | refine sb rfl ?_)
    rw [w64 (x := ((i + 1 : Nat) : Int) + 1) (by omega) (by omega)]
    exact ⟨i + 1, by omega, by omega, Le.sub [] ⟨rfl, rfl, rfl, rfl, rfl, rfl, trivial⟩ rfl⟩
  obtain rfl : i = 9 := by omega
  clear k1 hi
  repeat (first | refine sc rfl ?_ | refine so rfl ?_ | refine sb rfl ?_)
  refine C_loop (fun i : Nat => ⟨[(0, SL 8 Rw.c rows), (1, SL 4 Ou.c outs), (6, SL 1 WDc errsL), (7, .s (catL (FC f) 9 ++ catL (FR f) i)), (9, I64 ((i + 1 : Nat) : Int))], []⟩) (fun i => i ≤ 20) (fun i => 20 - i) 0 (Nat.zero_le _) (Le.sub [] ⟨rfl, rfl, rfl, congrArg (fun v => some (AV.s v)) (List.append_nil _).symm, rfl, trivial⟩ rfl) ?_
  intro i hi
  have l2 := catL_len i (fun j _ => lFR j)
  have la := @List.length_append _ (catL (FC f) 9) (catL (FR f) i)
  repeat (first | refine sc rfl ?_ | refine so rfl ?_ | refine sb rfl ?_)
  refine C_if rfl (fun k1 => ?_) (fun k1 => ?_) <;> simp only [decide_eq_true_eq, decide_eq_false_iff_not, Bool.not_eq_true', Bool.not_eq_false', beq_iff_eq, beq_eq_false_iff_ne, bne_iff_ne, ne_eq, bne_eq_false_iff_eq, Decidable.not_not] at k1
  · repeat (first | refine sc rfl ?_ | refine so rfl ?_ | refine sb rfl ?_)
    have lk := errs_l i (by omega)
    have lw := errL_len ((i + 1 : Nat) : Int)
    have lc : wRef.length = 7 := rfl
    refine C_drawU 20 11 rfl (by kernel_rfl) (by kernel_rfl) (by kernel_rfl) ?_
    repeat (first | refine sd rfl ?_ | refine sdb rfl ?_ | refine sds rfl ?_)
    refine ⟨⟨by omega, by rw [show errsL.length = 21 from rfl]; omega⟩, ?_⟩
    simp only [Int.toNat_natCast]
    repeat (first | refine sd rfl ?_ | refine sdb rfl ?_ | refine sds rfl ?_)
    refine ⟨by simp only [List.length_cons, List.length_nil]; omega, ?_⟩
    rw [errs_e i (by omega)]
    repeat (first | refine sd rfl ?_ | refine sdb rfl ?_ | refine sds rfl ?_)
    refine D_call (cR i (by omega)) rfl rfl rfl rfl ?_
    repeat (first | refine sd rfl ?_ | refine sdb rfl ?_ | refine sds rfl ?_)
    refine D_call (refLine_c _ _ (hf (10 + (i + 1))) (by rw [join2_len]; omega)) rfl rfl rfl rfl ?_
    repeat (first | refine sd rfl ?_ | refine sdb rfl ?_ | refine sds rfl ?_)
    refine ⟨by have := lFR i; unfold FR at this; omega, ?_⟩
    repeat (first | refine sd rfl ?_ | refine sdb rfl ?_ | refine sds rfl ?_)
    repeat (first | refine sc rfl ?_ | refine so rfl ?_ | refine sb rfl ?_)
    rw [w64 (x := ((i + 1 : Nat) : Int) + 1) (by omega) (by omega)]
    exact ⟨i + 1, by omega, by omega, Le.sub [] ⟨rfl, rfl, rfl, congrArg (fun v => some (AV.s v)) (cat_s _ _ _), rfl, trivial⟩ rfl⟩
  obtain rfl : i = 20 := by omega
  clear k1 hi
  repeat (first | refine sc rfl ?_ | refine so rfl ?_ | refine sb rfl ?_)
  refine C_loop (fun i : Nat => ⟨[(0, SL 8 Rw.c rows), (1, SL 4 Ou.c outs), (7, .s (catL (FC f) 9 ++ catL (FR f) 20 ++ catL (FS f) i)), (10, I64 ((i : Nat) : Int))], []⟩) (fun i => i ≤ 9) (fun i => 9 - i) 0 (Nat.zero_le _) (Le.sub [] ⟨rfl, rfl, congrArg (fun v => some (AV.s v)) (List.append_nil _).symm, rfl, trivial⟩ rfl) ?_
  intro i hi
  have l3 := catL_len i (fun j hj => lFS j (by omega))
  have la3 := @List.length_append _ (catL (FC f) 9 ++ catL (FR f) 20) (catL (FS f) i)
  repeat (first | refine sc rfl ?_ | refine so rfl ?_ | refine sb rfl ?_)
  refine C_if rfl (fun k1 => ?_) (fun k1 => ?_) <;> simp only [decide_eq_true_eq, decide_eq_false_iff_not, Bool.not_eq_true', Bool.not_eq_false', beq_iff_eq, beq_eq_false_iff_ne, bne_iff_ne, ne_eq, bne_eq_false_iff_eq, Decidable.not_not] at k1
  · repeat (first | refine sc rfl ?_ | refine so rfl ?_ | refine sb rfl ?_)
    refine O_call (Signed_p (i : Nat) ⟨by omega, by omega⟩) (by rfl) (by rfl) (by rfl) (by rfl) (fun r hr => ?_)
    subst hr
    have li := Lib.itoa_length_le ((i : Nat) : Int) (by omega) (by omega)
    have lc : wSer.length = 6 := rfl
    repeat (first | refine sc rfl ?_ | refine so rfl ?_ | refine sb rfl ?_)
    refine ⟨by simp only [List.length_cons, List.length_nil]; omega, ?_⟩
    rw [show [115, 101, 114, 118, 101, 100, 32] ++ Lib.itoa ((i : Nat) : Int) = Lib.join [wSer, Lib.itoa ((i : Nat) : Int)] [32] by simp [Lib.join]]
    repeat (first | refine sc rfl ?_ | refine so rfl ?_ | refine sb rfl ?_)
    refine O_call (cS i (by omega)) (by rfl) (by rfl) (by rfl) (by rfl) (fun r hr => ?_)
    subst hr
    refine O_call (refLine_c (Lib.join [wSer, Lib.itoa ((i : Nat) : Int)] [32]) (f (31 + i)) (hf (31 + i)) (by rw [join2_len]; omega)) (by rfl) (by rfl) (by rfl) (by rfl) (fun r hr => ?_)
    subst hr
    repeat (first | refine sc rfl ?_ | refine so rfl ?_ | refine sb rfl ?_)
    refine ⟨by have := lFS i (by omega); unfold FS at this; omega, ?_⟩
    repeat (first | refine sc rfl ?_ | refine so rfl ?_ | refine sb rfl ?_)
    rw [w64 (x := ((i : Nat) : Int) + 1) (by omega) (by omega)]
    exact ⟨i + 1, by omega, by omega, Le.sub [] ⟨rfl, rfl, congrArg (fun v => some (AV.s v)) (cat_s _ _ _), rfl, trivial⟩ rfl⟩
  obtain rfl : i = 9 := by omega
  clear k1 hi
  repeat (first | refine sc rfl ?_ | refine so rfl ?_ | refine sb rfl ?_)
  refine O_call (refOuts_c outs hl2) (by rfl) (by rfl) (by rfl) (by rfl) (fun r hr => ?_)
  subst hr
  rw [← hB, ← hH]
  have b1 := catL_len 9 (fun j _ => lFC j)
  have b2 := catL_len 20 (fun j _ => lFR j)
  have q0 := lineF_len (w := [105, 100, 108, 101]) (hf 40).1 (hf 40).2
  have q1 := lineF_len (w := [116, 105, 99, 107, 115]) (hf 41).1 (hf 41).2
  have q2 := lineF_len (w := [98, 121, 116, 101, 115]) (hf 42).1 (hf 42).2
  have q3 := lineF_len (w := [115, 104, 117, 116]) (hf 43).1 (hf 43).2
  simp only [List.length_cons, List.length_nil] at q0 q1 q2 q3
  have c3 := refActs_c rows hl 3
  have c4 := refActs_c rows hl 4
  rw [← h3] at c3
  rw [← h4] at c4
  repeat (first | refine sc rfl ?_ | refine so rfl ?_ | refine sb rfl ?_)
  refine O_call c3 (by rfl) (by rfl) (by rfl) (by rfl) (fun r hr => ?_)
  subst hr
  refine O_call (refLine_c [105, 100, 108, 101] (f 40) (hf 40) (by decide)) (by rfl) (by rfl) (by rfl) (by rfl) (fun r hr => ?_)
  subst hr
  repeat (first | refine sc rfl ?_ | refine so rfl ?_ | refine sb rfl ?_)
  refine ⟨by simp only [List.length_append]; omega, ?_⟩
  repeat (first | refine sc rfl ?_ | refine so rfl ?_ | refine sb rfl ?_)
  refine O_call c4 (by rfl) (by rfl) (by rfl) (by rfl) (fun r hr => ?_)
  subst hr
  refine O_call (refLine_c [116, 105, 99, 107, 115] (f 41) (hf 41) (by decide)) (by rfl) (by rfl) (by rfl) (by rfl) (fun r hr => ?_)
  subst hr
  repeat (first | refine sc rfl ?_ | refine so rfl ?_ | refine sb rfl ?_)
  refine ⟨by simp only [List.length_append]; omega, ?_⟩
  repeat (first | refine sc rfl ?_ | refine so rfl ?_ | refine sb rfl ?_)
  refine O_call (refLine_c [98, 121, 116, 101, 115] (f 42) (hf 42) (by decide)) (by rfl) (by rfl) (by rfl) (by rfl) (fun r hr => ?_)
  subst hr
  repeat (first | refine sc rfl ?_ | refine so rfl ?_ | refine sb rfl ?_)
  refine ⟨by simp only [List.length_append]; omega, ?_⟩
  repeat (first | refine sc rfl ?_ | refine so rfl ?_ | refine sb rfl ?_)
  refine O_call (refLine_c [115, 104, 117, 116] (f 43) (hf 43) (by decide)) (by rfl) (by rfl) (by rfl) (by rfl) (fun r hr => ?_)
  subst hr
  repeat (first | refine sc rfl ?_ | refine so rfl ?_ | refine sb rfl ?_)
  refine ⟨by simp only [List.length_append]; omega, ?_⟩
  repeat (first | refine sc rfl ?_ | refine so rfl ?_ | refine sb rfl ?_)
  refine ⟨_, rfl, rfl, ?_⟩
  show AV.s _ = AV.s _
  unfold TX FT
  simp [Lib.join]
end Go.Proofs

/- TallyCounts: the law. -/
set_option linter.unusedSimpArgs false
set_option linter.unusedVariables false
set_option maxRecDepth 100000
namespace Go.Proofs
open Go.Sy Go.Lib

theorem same49_W (t : Nat) (rows : List Rw) (outs : List Ou) (hl : rows.length ≤ 300) (hl2 : outs.length ≤ 300) : FnK 11 [PT t 0, SL 8 Rw.c rows, SL 4 Ou.c outs] [tlA t (wF (totC rows outs))] (fun r cs' => r = B true ∧ cs' = [tlA t (wF (totC rows outs))]) := by
  have h3 := act3_e rows outs
  have h4 := act4_e rows outs
  have hB := bytes_e rows outs
  have hH := shut_e rows outs
  refine FnW.intro Tryz.tabOK Tryz.wide_ Tryz.func11 rfl (by decide) rfl (fun X hK => ?_)
  repeat (first | refine sc rfl ?_ | refine so rfl ?_ | refine sb rfl ?_)
  refine C_loop (fun i : Nat => ⟨[(0, PT t 0), (1, SL 8 Rw.c rows), (2, SL 4 Ou.c outs), (7, I64 ((i : Int) - 1))], [.abs (tlA t (wF (totC rows outs)))]⟩) (fun i => i ≤ 24) (fun i => 24 - i) 0 (Nat.zero_le _) (Le.pick [0] ⟨rfl, rfl, rfl, rfl, trivial⟩ rfl) ?_
  intro i hi
  repeat (first | refine sc rfl ?_ | refine so rfl ?_ | refine sb rfl ?_)
  refine C_if rfl (fun k1 => ?_) (fun k1 => ?_) <;> simp only [decide_eq_true_eq, decide_eq_false_iff_not, Bool.not_eq_true', Bool.not_eq_false', beq_iff_eq, beq_eq_false_iff_ne, bne_iff_ne, ne_eq, bne_eq_false_iff_eq, Decidable.not_not] at k1
  · repeat (first | refine sc rfl ?_ | refine so rfl ?_ | refine sb rfl ?_)
    first
      | refine O_callA [0] (came_A t (wF (totC rows outs)) ((i : Int) - 1)) (by rfl) (by rfl) (by rfl) (by rfl) (by rfl) ?_
      | refine O_callA [1] (came_A t (wF (totC rows outs)) ((i : Int) - 1)) (by rfl) (by rfl) (by rfl) (by rfl) (by rfl) ?_
      | refine O_callA [2] (came_A t (wF (totC rows outs)) ((i : Int) - 1)) (by rfl) (by rfl) (by rfl) (by rfl) (by rfl) ?_
      | refine O_callA [3] (came_A t (wF (totC rows outs)) ((i : Int) - 1)) (by rfl) (by rfl) (by rfl) (by rfl) (by rfl) ?_
      | refine O_callA [4] (came_A t (wF (totC rows outs)) ((i : Int) - 1)) (by rfl) (by rfl) (by rfl) (by rfl) (by rfl) ?_
    rintro r' cs' ⟨rfl, rfl⟩
    rw [came_e]
    repeat (first | refine sc rfl ?_ | refine so rfl ?_ | refine sb rfl ?_)
    refine O_call (refCame_c rows hl ((i : Int) - 1)) (by rfl) (by rfl) (by rfl) (by rfl) (fun r hr => ?_)
    subst hr
    repeat (first | refine sc rfl ?_ | refine so rfl ?_ | refine sb rfl ?_)
    refine O_false 25 rfl (by simp) ?_
    repeat (first | refine sc rfl ?_ | refine so rfl ?_ | refine sb rfl ?_)
    first
      | refine O_callA [0] (refd_A t (wF (totC rows outs)) ((i : Int) - 1)) (by rfl) (by rfl) (by rfl) (by rfl) (by rfl) ?_
      | refine O_callA [1] (refd_A t (wF (totC rows outs)) ((i : Int) - 1)) (by rfl) (by rfl) (by rfl) (by rfl) (by rfl) ?_
      | refine O_callA [2] (refd_A t (wF (totC rows outs)) ((i : Int) - 1)) (by rfl) (by rfl) (by rfl) (by rfl) (by rfl) ?_
      | refine O_callA [3] (refd_A t (wF (totC rows outs)) ((i : Int) - 1)) (by rfl) (by rfl) (by rfl) (by rfl) (by rfl) ?_
      | refine O_callA [4] (refd_A t (wF (totC rows outs)) ((i : Int) - 1)) (by rfl) (by rfl) (by rfl) (by rfl) (by rfl) ?_
    rintro r' cs' ⟨rfl, rfl⟩
    rw [ref_e]
    repeat (first | refine sc rfl ?_ | refine so rfl ?_ | refine sb rfl ?_)
    refine O_call (refRef_c rows hl ((i : Int) - 1)) (by rfl) (by rfl) (by rfl) (by rfl) (fun r hr => ?_)
    subst hr
    repeat (first | refine sc rfl ?_ | refine so rfl ?_ | refine sb rfl ?_)
    refine O_false 34 rfl (by simp) ?_
    repeat (first | refine sc rfl ?_ | refine so rfl ?_ | refine sb rfl ?_)
    first
      | refine O_callA [0] (servd_A t (wF (totC rows outs)) ((i : Int) - 1)) (by rfl) (by rfl) (by rfl) (by rfl) (by rfl) ?_
      | refine O_callA [1] (servd_A t (wF (totC rows outs)) ((i : Int) - 1)) (by rfl) (by rfl) (by rfl) (by rfl) (by rfl) ?_
      | refine O_callA [2] (servd_A t (wF (totC rows outs)) ((i : Int) - 1)) (by rfl) (by rfl) (by rfl) (by rfl) (by rfl) ?_
      | refine O_callA [3] (servd_A t (wF (totC rows outs)) ((i : Int) - 1)) (by rfl) (by rfl) (by rfl) (by rfl) (by rfl) ?_
      | refine O_callA [4] (servd_A t (wF (totC rows outs)) ((i : Int) - 1)) (by rfl) (by rfl) (by rfl) (by rfl) (by rfl) ?_
    rintro r' cs' ⟨rfl, rfl⟩
    rw [ser_e]
    repeat (first | refine sc rfl ?_ | refine so rfl ?_ | refine sb rfl ?_)
    refine O_call (refSer_c rows hl ((i : Int) - 1)) (by rfl) (by rfl) (by rfl) (by rfl) (fun r hr => ?_)
    subst hr
    repeat (first | refine sc rfl ?_ | refine so rfl ?_ | refine sb rfl ?_)
    refine C_false rfl (by simp) ?_
    repeat (first | refine sc rfl ?_ | refine so rfl ?_ | refine sb rfl ?_)
    rw [w64 (x := (i : Int) - 1 + 1) (by omega) (by omega), show (i : Int) - 1 + 1 = ((i + 1 : Nat) : Int) - 1 by omega]
    exact ⟨i + 1, by omega, by omega, Le.pick [0] ⟨rfl, rfl, rfl, rfl, trivial⟩ rfl⟩
  repeat (first | refine sc rfl ?_ | refine so rfl ?_ | refine sb rfl ?_)
  first
    | refine O_callA [0] (rest_A t (wF (totC rows outs))) (by rfl) (by rfl) (by rfl) (by rfl) (by rfl) ?_
    | refine O_callA [1] (rest_A t (wF (totC rows outs))) (by rfl) (by rfl) (by rfl) (by rfl) (by rfl) ?_
    | refine O_callA [2] (rest_A t (wF (totC rows outs))) (by rfl) (by rfl) (by rfl) (by rfl) (by rfl) ?_
    | refine O_callA [3] (rest_A t (wF (totC rows outs))) (by rfl) (by rfl) (by rfl) (by rfl) (by rfl) ?_
    | refine O_callA [4] (rest_A t (wF (totC rows outs))) (by rfl) (by rfl) (by rfl) (by rfl) (by rfl) ?_
  rintro r' cs' ⟨rfl, rfl⟩
  rw [h3, h4, hB, hH]
  repeat (first | refine sc rfl ?_ | refine so rfl ?_ | refine sb rfl ?_)
  refine O_call (refOuts_c outs hl2) (by rfl) (by rfl) (by rfl) (by rfl) (fun r hr => ?_)
  subst hr
  repeat (first | refine sc rfl ?_ | refine so rfl ?_ | refine sb rfl ?_)
  refine O_call (refActs_c rows hl 3) (by rfl) (by rfl) (by rfl) (by rfl) (fun r hr => ?_)
  subst hr
  repeat (first | refine sc rfl ?_ | refine so rfl ?_ | refine sb rfl ?_)
  refine O_true 59 rfl (beq_self_eq_true _) ?_
  repeat (first | refine sc rfl ?_ | refine so rfl ?_ | refine sb rfl ?_)
  refine O_call (refActs_c rows hl 4) (by rfl) (by rfl) (by rfl) (by rfl) (fun r hr => ?_)
  subst hr
  repeat (first | refine sc rfl ?_ | refine so rfl ?_ | refine sb rfl ?_)
  refine O_true 65 rfl (beq_self_eq_true _) ?_
  repeat (first | refine sc rfl ?_ | refine so rfl ?_ | refine sb rfl ?_)
  refine O_true 70 rfl (beq_self_eq_true _) ?_
  repeat (first | refine sc rfl ?_ | refine so rfl ?_ | refine sb rfl ?_)
  refine O_true 75 rfl (beq_self_eq_true _) ?_
  repeat (first | refine sc rfl ?_ | refine so rfl ?_ | refine sb rfl ?_)
  refine O_callW hK [0] (text_W t (wF (totC rows outs)) (fun _ => wi8_ok _)) (by rfl) (by rfl) (by rfl) (by rfl) (by rfl) ?_
  rintro r' cs' ⟨rfl, rfl⟩
  repeat (first | refine sc rfl ?_ | refine so rfl ?_ | refine sb rfl ?_)
  refine O_call (refText_c rows outs hl hl2) (by rfl) (by rfl) (by rfl) (by rfl) (fun r hr => ?_)
  subst hr
  repeat (first | refine sc rfl ?_ | refine so rfl ?_ | refine sb rfl ?_)
  exact ⟨_, [_], _, rfl, pickA_perm (is := [0]) (As := [_]) rfl, rfl, congrArg B (beq_self_eq_true _), rfl⟩
theorem tallyCounts_W (rows : List Rw) (outs : List Ou) (n : Int) : FnK 3 [SL 8 Rw.c rows, SL 4 Ou.c outs, I64 n] [] (fun r cs' => r = B true) := by
  refine FnW.intro Tryz.tabOK Tryz.wide_ Tryz.func3 rfl (by decide) rfl (fun X hK => ?_)
  repeat (first | refine sc rfl ?_ | refine so rfl ?_ | refine sb rfl ?_)
  refine O_case 13 rfl (fun m0 => ?_) (fun m0 => ?_) <;> simp only [decide_eq_true_eq, decide_eq_false_iff_not, Bool.not_eq_true', Bool.not_eq_false', beq_iff_eq, beq_eq_false_iff_ne, bne_iff_ne, ne_eq, bne_eq_false_iff_eq, Decidable.not_not] at m0
  · repeat (first | refine sc rfl ?_ | refine so rfl ?_ | refine sb rfl ?_)
    refine C_true rfl rfl ?_
    repeat (first | refine sc rfl ?_ | refine so rfl ?_ | refine sb rfl ?_)
    refine O_callW hK [] awake49_W (by rfl) (by rfl) (by rfl) (by rfl) (by rfl) ?_
    rintro r' cs' ⟨rfl, rfl⟩
    repeat (first | refine sc rfl ?_ | refine so rfl ?_ | refine sb rfl ?_)
    exact ⟨_, [], _, rfl, pickA_perm (is := []) (As := []) rfl, rfl, rfl⟩
  repeat (first | refine sc rfl ?_ | refine so rfl ?_ | refine sb rfl ?_)
  refine C_if rfl (fun m1 => ?_) (fun m1 => ?_) <;> simp only [decide_eq_true_eq, decide_eq_false_iff_not, Bool.not_eq_true', Bool.not_eq_false', beq_iff_eq, beq_eq_false_iff_ne, bne_iff_ne, ne_eq, bne_eq_false_iff_eq, Decidable.not_not] at m1
  · repeat (first | refine sc rfl ?_ | refine so rfl ?_ | refine sb rfl ?_)
    refine O_callW hK [] awake49_W (by rfl) (by rfl) (by rfl) (by rfl) (by rfl) ?_
    rintro r' cs' ⟨rfl, rfl⟩
    repeat (first | refine sc rfl ?_ | refine so rfl ?_ | refine sb rfl ?_)
    exact ⟨_, [], _, rfl, pickA_perm (is := []) (As := []) rfl, rfl, rfl⟩
  have hl : rows.length ≤ 300 := by omega
  have hl2 : outs.length ≤ 300 := by omega
  repeat (first | refine sc rfl ?_ | refine so rfl ?_ | refine sb rfl ?_)
  refine O_callA [] newT_A (by rfl) (by rfl) (by rfl) (by rfl) (by rfl) ?_
  rintro r' cs' ⟨t, rfl, rfl⟩
  repeat (first | refine sc rfl ?_ | refine so rfl ?_ | refine sb rfl ?_)
  refine C_loop (fun i : Nat => ⟨[(0, SL 8 Rw.c rows), (1, SL 4 Ou.c outs), (2, I64 n), (7, PT t 0), (8, I64 (i : Nat))], [.abs (tlA t (wF (sumD rowD rows i)))]⟩) (fun i => i ≤ rows.length) (fun i => rows.length - i) 0 (Nat.zero_le _) (Le.pick [0] ⟨rfl, rfl, rfl, rfl, rfl, trivial⟩ rfl) ?_
  intro i hi
  repeat (first | refine sc rfl ?_ | refine so rfl ?_ | refine sb rfl ?_)
  refine C_if rfl (fun k1 => ?_) (fun k1 => ?_) <;> simp only [decide_eq_true_eq, decide_eq_false_iff_not, Bool.not_eq_true', Bool.not_eq_false', beq_iff_eq, beq_eq_false_iff_ne, bne_iff_ne, ne_eq, bne_eq_false_iff_eq, Decidable.not_not] at k1
  · have hil : i < rows.length := by omega
    obtain ⟨x, hxe⟩ : ∃ x, rows.getD i default = x := ⟨_, rfl⟩
    repeat (first | refine sc rfl ?_ | refine so rfl ?_ | refine sb rfl ?_)
    refine ⟨by omega, ?_⟩
    simp only [Int.toNat_natCast, hxe]
    repeat (first | refine sc rfl ?_ | refine so rfl ?_ | refine sb rfl ?_)
    refine O_call (rowL_c x) (by rfl) (by rfl) (by rfl) (by rfl) (fun r' hr => ?_)
    subst hr
    first
      | refine O_callA [0] (row_A t (wF (sumD rowD rows i)) x) (by rfl) (by rfl) (by rfl) (by rfl) (by rfl) ?_
      | refine O_callA [1] (row_A t (wF (sumD rowD rows i)) x) (by rfl) (by rfl) (by rfl) (by rfl) (by rfl) ?_
      | refine O_callA [2] (row_A t (wF (sumD rowD rows i)) x) (by rfl) (by rfl) (by rfl) (by rfl) (by rfl) ?_
      | refine O_callA [3] (row_A t (wF (sumD rowD rows i)) x) (by rfl) (by rfl) (by rfl) (by rfl) (by rfl) ?_
      | refine O_callA [4] (row_A t (wF (sumD rowD rows i)) x) (by rfl) (by rfl) (by rfl) (by rfl) (by rfl) ?_
    rintro r' cs' ⟨rfl, rfl⟩
    rw [rowT_w]
    repeat (first | refine sc rfl ?_ | refine so rfl ?_ | refine sb rfl ?_)
    rw [w64 (x := (i : Int) + 1) (by omega) (by omega), ← hxe]
    exact ⟨i + 1, hil, by omega, Le.pick [0] ⟨rfl, rfl, rfl, rfl, rfl, trivial⟩ rfl⟩
  obtain rfl : i = rows.length := by omega
  clear k1 hi
  rw [show wF (sumD rowD rows rows.length) = wF (pF (sumD rowD rows rows.length) (sumD outD outs 0)) by funext j; exact congrArg wi8 (Int.add_zero _).symm]
  repeat (first | refine sc rfl ?_ | refine so rfl ?_ | refine sb rfl ?_)
  refine C_loop (fun i : Nat => ⟨[(0, SL 8 Rw.c rows), (1, SL 4 Ou.c outs), (2, I64 n), (7, PT t 0), (9, I64 (i : Nat))], [.abs (tlA t (wF (pF (sumD rowD rows rows.length) (sumD outD outs i))))]⟩) (fun i => i ≤ outs.length) (fun i => outs.length - i) 0 (Nat.zero_le _) (Le.pick [0] ⟨rfl, rfl, rfl, rfl, rfl, trivial⟩ rfl) ?_
  intro i hi
  repeat (first | refine sc rfl ?_ | refine so rfl ?_ | refine sb rfl ?_)
  refine C_if rfl (fun k1 => ?_) (fun k1 => ?_) <;> simp only [decide_eq_true_eq, decide_eq_false_iff_not, Bool.not_eq_true', Bool.not_eq_false', beq_iff_eq, beq_eq_false_iff_ne, bne_iff_ne, ne_eq, bne_eq_false_iff_eq, Decidable.not_not] at k1
  · have hil : i < outs.length := by omega
    obtain ⟨x, hxe⟩ : ∃ x, outs.getD i default = x := ⟨_, rfl⟩
    repeat (first | refine sc rfl ?_ | refine so rfl ?_ | refine sb rfl ?_)
    refine ⟨by omega, ?_⟩
    simp only [Int.toNat_natCast, hxe]
    repeat (first | refine sc rfl ?_ | refine so rfl ?_ | refine sb rfl ?_)
    first
      | refine O_callA [0] (out_A t (wF (pF (sumD rowD rows rows.length) (sumD outD outs i))) x) (by rfl) (by rfl) (by rfl) (by rfl) (by rfl) ?_
      | refine O_callA [1] (out_A t (wF (pF (sumD rowD rows rows.length) (sumD outD outs i))) x) (by rfl) (by rfl) (by rfl) (by rfl) (by rfl) ?_
      | refine O_callA [2] (out_A t (wF (pF (sumD rowD rows rows.length) (sumD outD outs i))) x) (by rfl) (by rfl) (by rfl) (by rfl) (by rfl) ?_
      | refine O_callA [3] (out_A t (wF (pF (sumD rowD rows rows.length) (sumD outD outs i))) x) (by rfl) (by rfl) (by rfl) (by rfl) (by rfl) ?_
      | refine O_callA [4] (out_A t (wF (pF (sumD rowD rows rows.length) (sumD outD outs i))) x) (by rfl) (by rfl) (by rfl) (by rfl) (by rfl) ?_
    rintro r' cs' ⟨rfl, rfl⟩
    rw [outT_w, pF_r]
    repeat (first | refine sc rfl ?_ | refine so rfl ?_ | refine sb rfl ?_)
    rw [w64 (x := (i : Int) + 1) (by omega) (by omega), ← hxe]
    exact ⟨i + 1, hil, by omega, Le.pick [0] ⟨rfl, rfl, rfl, rfl, rfl, trivial⟩ rfl⟩
  obtain rfl : i = outs.length := by omega
  clear k1 hi
  repeat (first | refine sc rfl ?_ | refine so rfl ?_ | refine sb rfl ?_)
  refine O_callW hK [0] (same49_W t rows outs hl hl2) (by rfl) (by rfl) (by rfl) (by rfl) (by rfl) ?_
  rintro r' cs' ⟨rfl, rfl⟩
  repeat (first | refine sc rfl ?_ | refine so rfl ?_ | refine sb rfl ?_)
  first
    | refine O_callA [0] (came_A t (wF (totC rows outs)) n) (by rfl) (by rfl) (by rfl) (by rfl) (by rfl) ?_
    | refine O_callA [1] (came_A t (wF (totC rows outs)) n) (by rfl) (by rfl) (by rfl) (by rfl) (by rfl) ?_
    | refine O_callA [2] (came_A t (wF (totC rows outs)) n) (by rfl) (by rfl) (by rfl) (by rfl) (by rfl) ?_
    | refine O_callA [3] (came_A t (wF (totC rows outs)) n) (by rfl) (by rfl) (by rfl) (by rfl) (by rfl) ?_
    | refine O_callA [4] (came_A t (wF (totC rows outs)) n) (by rfl) (by rfl) (by rfl) (by rfl) (by rfl) ?_
  rintro r' cs' ⟨rfl, rfl⟩
  rw [came_e]
  repeat (first | refine sc rfl ?_ | refine so rfl ?_ | refine sb rfl ?_)
  refine O_call (refCame_c rows hl n) (by rfl) (by rfl) (by rfl) (by rfl) (fun r hr => ?_)
  subst hr
  repeat (first | refine sc rfl ?_ | refine so rfl ?_ | refine sb rfl ?_)
  refine O_true 58 rfl (beq_self_eq_true _) ?_
  repeat (first | refine sc rfl ?_ | refine so rfl ?_ | refine sb rfl ?_)
  first
    | refine O_callA [0] (refd_A t (wF (totC rows outs)) n) (by rfl) (by rfl) (by rfl) (by rfl) (by rfl) ?_
    | refine O_callA [1] (refd_A t (wF (totC rows outs)) n) (by rfl) (by rfl) (by rfl) (by rfl) (by rfl) ?_
    | refine O_callA [2] (refd_A t (wF (totC rows outs)) n) (by rfl) (by rfl) (by rfl) (by rfl) (by rfl) ?_
    | refine O_callA [3] (refd_A t (wF (totC rows outs)) n) (by rfl) (by rfl) (by rfl) (by rfl) (by rfl) ?_
    | refine O_callA [4] (refd_A t (wF (totC rows outs)) n) (by rfl) (by rfl) (by rfl) (by rfl) (by rfl) ?_
  rintro r' cs' ⟨rfl, rfl⟩
  rw [ref_e]
  repeat (first | refine sc rfl ?_ | refine so rfl ?_ | refine sb rfl ?_)
  refine O_call (refRef_c rows hl n) (by rfl) (by rfl) (by rfl) (by rfl) (fun r hr => ?_)
  subst hr
  repeat (first | refine sc rfl ?_ | refine so rfl ?_ | refine sb rfl ?_)
  refine O_true 67 rfl (beq_self_eq_true _) ?_
  repeat (first | refine sc rfl ?_ | refine so rfl ?_ | refine sb rfl ?_)
  first
    | refine O_callA [0] (servd_A t (wF (totC rows outs)) n) (by rfl) (by rfl) (by rfl) (by rfl) (by rfl) ?_
    | refine O_callA [1] (servd_A t (wF (totC rows outs)) n) (by rfl) (by rfl) (by rfl) (by rfl) (by rfl) ?_
    | refine O_callA [2] (servd_A t (wF (totC rows outs)) n) (by rfl) (by rfl) (by rfl) (by rfl) (by rfl) ?_
    | refine O_callA [3] (servd_A t (wF (totC rows outs)) n) (by rfl) (by rfl) (by rfl) (by rfl) (by rfl) ?_
    | refine O_callA [4] (servd_A t (wF (totC rows outs)) n) (by rfl) (by rfl) (by rfl) (by rfl) (by rfl) ?_
  rintro r' cs' ⟨rfl, rfl⟩
  rw [ser_e]
  repeat (first | refine sc rfl ?_ | refine so rfl ?_ | refine sb rfl ?_)
  refine O_call (refSer_c rows hl n) (by rfl) (by rfl) (by rfl) (by rfl) (fun r hr => ?_)
  subst hr
  repeat (first | refine sc rfl ?_ | refine so rfl ?_ | refine sb rfl ?_)
  refine O_true 76 rfl (beq_self_eq_true _) ?_
  repeat (first | refine sc rfl ?_ | refine so rfl ?_ | refine sb rfl ?_)
  refine O_callW hK [] awake49_W (by rfl) (by rfl) (by rfl) (by rfl) (by rfl) ?_
  rintro r' cs' ⟨rfl, rfl⟩
  repeat (first | refine sc rfl ?_ | refine so rfl ?_ | refine sb rfl ?_)
  exact ⟨_, [], _, rfl, pickA_perm (is := []) (As := []) rfl, rfl, rfl⟩
end Go.Proofs
