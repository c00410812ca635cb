/- Contracts, part nine: pad. -/
import Derived.Test.YtgdlhcaidfokkaaDoorT21
import Derived.Test.YtgdlhcaidfokkaaDoorSy18
import Derived.Test.YtgdlhcaidfokkaaDoorShj
set_option linter.unusedSimpArgs false
set_option linter.unusedVariables false
namespace Go.Proofs
open Go.Sy

def cls (n : Int) : Int := if n < 0 then 0 else if n ≤ 30 then 32 else if n ≤ 62 then 64 else if n ≤ 126 then 128 else if n ≤ 254 then 256 else if n ≤ 510 then 512 else if n ≤ 1022 then 1024 else 0
def clsE (n : Int) : Int := if n < 0 then 1 else if 1022 < n then 3 else 0

theorem Most_p : FnP Tryd.prog 37 [] (· = I64 1022) := by
  refine FnP.intro Tryd.tabOK Tryd.wide_ Tryd.func37 rfl (by decide) rfl (fun X => ?_)
  repeat (first | refine sc rfl ?_ | refine so rfl ?_ | refine sb rfl ?_)
  exact ⟨_, rfl, rfl, rfl⟩

def clsInv (n c : Int) : Prop := c = 32 ∨ (c = 64 ∧ 30 < n) ∨ (c = 128 ∧ 62 < n) ∨ (c = 256 ∧ 126 < n) ∨ (c = 512 ∧ 254 < n) ∨ (c = 1024 ∧ 510 < n)
theorem clsInv_cls {n c : Int} (h0 : 0 ≤ n) (h1 : n ≤ 1022) (hi : clsInv n c) (h : n ≤ c - 2) : cls n = c := by
  unfold clsInv at hi
  unfold cls
  repeat' split
  all_goals omega

theorem Class_p (n : Int) : FnP Tryd.prog 23 [I64 n] (· = .tup [I64 (cls n), I64 (clsE n)]) := by
  refine FnP.intro Tryd.tabOK Tryd.wide_ Tryd.func23 rfl (by decide) rfl (fun X => ?_)
  repeat (first | refine sc rfl ?_ | refine so rfl ?_ | refine sb rfl ?_ | refine C_scope ?_)
  refine C_if rfl (fun h => ?_) (fun h => ?_) <;> simp only [decide_eq_true_eq, decide_eq_false_iff_not] at h
  · repeat (first | refine sc rfl ?_ | refine so rfl ?_ | refine sb rfl ?_ | refine C_scope ?_)
    exact ⟨_, rfl, rfl, by simp only [cls, clsE, if_pos h]⟩
  repeat (first | refine sc rfl ?_ | refine so rfl ?_ | refine sb rfl ?_ | refine C_scope ?_)
  refine O_call Most_p (by rfl) (by rfl) (by rfl) (by rfl) (fun r hr => ?_)
  subst hr
  repeat (first | refine sc rfl ?_ | refine so rfl ?_ | refine sb rfl ?_ | refine C_scope ?_)
  refine C_if rfl (fun h2 => ?_) (fun h2 => ?_) <;> simp only [decide_eq_true_eq, decide_eq_false_iff_not] at h2
  · repeat (first | refine sc rfl ?_ | refine so rfl ?_ | refine sb rfl ?_ | refine C_scope ?_)
    refine ⟨_, rfl, rfl, ?_⟩
    have e1 : cls n = 0 := by unfold cls; repeat' split <;> omega
    have e2 : clsE n = 3 := by unfold clsE; rw [if_neg h, if_pos (by omega)]
    rw [e1, e2]
  repeat (first | refine sc rfl ?_ | refine so rfl ?_ | refine sb rfl ?_ | refine C_scope ?_)
  refine C_loop (fun c : Int => ⟨[(0, I64 n), (4, I64 c)], []⟩) (clsInv n) (fun c => (1024 - c).toNat) 32 (.inl rfl)
      (Le.sub [] ⟨rfl, rfl, trivial⟩ rfl) ?_
  intro c hc
  have hb : 32 ≤ c ∧ c ≤ 1024 := by unfold clsInv at hc; omega
  repeat (first | refine sc rfl ?_ | refine so rfl ?_ | refine sb rfl ?_ | refine C_scope ?_)
  rw [w64 (x := c - 2) (by omega) (by omega)]
  repeat (first | refine sc rfl ?_ | refine so rfl ?_ | refine sb rfl ?_ | refine C_scope ?_)
  refine C_if rfl (fun h3 => ?_) (fun h3 => ?_) <;> simp only [decide_eq_true_eq, decide_eq_false_iff_not] at h3
  · repeat (first | refine sc rfl ?_ | refine so rfl ?_ | refine sb rfl ?_ | refine C_scope ?_)
    refine ⟨_, rfl, rfl, ?_⟩
    have e2 : clsE n = 0 := by unfold clsE; rw [if_neg h, if_neg (by omega)]
    rw [clsInv_cls (by omega) (by omega) hc (by omega), e2]
  · repeat (first | refine sc rfl ?_ | refine so rfl ?_ | refine sb rfl ?_ | refine C_scope ?_)
    rw [w64 (x := c * 2) (by omega) (by omega)]
    exact ⟨c * 2, by unfold clsInv at hc ⊢; omega, by unfold clsInv at hc; omega, Le.sub [] ⟨rfl, rfl, trivial⟩ rfl⟩

theorem Byte_p (n : Int) : FnP Tryd.prog 62 [I64 n] (· = .s [UInt8.ofNat (IntKind.u8.wrap n).toNat]) := by
  refine FnP.intro Tryd.tabOK Tryd.wide_ Tryd.func62 rfl (by decide) rfl (fun X => ?_)
  repeat (first | refine sc rfl ?_ | refine so rfl ?_ | refine sb rfl ?_ | refine sv rfl ?_)
  exact ⟨_, rfl, rfl, rfl⟩

theorem rep0 : ∀ k : Nat, Lib.repeatL [(0 : UInt8)] k = List.replicate k 0
  | 0 => rfl
  | k + 1 => by
    have := rep0 k
    simp only [Lib.repeatL] at this ⊢
    simp_all [List.replicate_succ]

theorem Repeat_p (k : Nat) (hk : k ≤ 1024) : FnP Tryd.prog 36 [.s [0], I64 (k : Int)] (· = .s (List.replicate k 0)) := by
  refine FnP.ofCalls (vs := [S [0], .int .i64 (k : Int)]) (v := S (List.replicate k 0)) ⟨_, Tryd.func36, rfl, by decide⟩ rfl rfl (fun G => by simp only [RepI]) (fun w => ?_)
  have := Tryd.strings_Repeat ⟨#[0]⟩ k w (by omega) (by simp only [ByteArray.size]; simp; omega)
  rw [show (⟨#[0]⟩ : ByteArray).data.toList = [0] from rfl, rep0] at this
  exact this

def lowC (k : Nat) : Int := match k with | 0 => -1 | 1 => 30 | 2 => 62 | 3 => 126 | 4 => 254 | 5 => 510 | _ => 1022
theorem refClass_p (n : Int) : FnP Tryd.prog 61 [I64 n] (· = I64 (cls n)) := by
  refine FnP.intro Tryd.tabOK Tryd.wide_ Tryd.func61 rfl (by decide) rfl (fun X => ?_)
  repeat (first | refine sc rfl ?_ | refine so rfl ?_ | refine sb rfl ?_)
  refine C_le _ (Le.freeze 3 rfl rfl) ?_
  refine C_le _ (Le.conv 3 (y := SL 1 (fun x => [I64 x]) [32, 64, 128, 256, 512, 1024]) rfl (fun e v h => Rep.slrow (fun i hi => ?_) h)) ?_
  · match i, hi with
    | 0, _ | 1, _ | 2, _ | 3, _ | 4, _ | 5, _ => rfl
  refine C_loop (fun k : Nat => ⟨[(0, I64 n), (3, SL 1 (fun x => [I64 x]) [32, 64, 128, 256, 512, 1024]), (4, I64 (k : Int))], []⟩) (fun k => k ≤ 6 ∧ (0 ≤ n → lowC k < n)) (fun k => 6 - k) 0 ⟨by omega, fun h => by simp only [lowC]; omega⟩
    (Le.sub [] ⟨rfl, rfl, rfl, trivial⟩ rfl) ?_
  rintro k ⟨hk, hlo⟩
  rcases (by omega : k = 0 ∨ k = 1 ∨ k = 2 ∨ k = 3 ∨ k = 4 ∨ k = 5 ∨ k = 6) with rfl | rfl | rfl | rfl | rfl | rfl | rfl
  case inr.inr.inr.inr.inr.inr =>
    repeat (first | refine sc rfl ?_ | refine so rfl ?_ | refine C_false rfl rfl ?_)
    refine ⟨_, rfl, rfl, congrArg I64 ?_⟩
    simp only [lowC] at hlo
    unfold cls; repeat' split <;> omega
  · simp only [lowC] at hlo
    repeat (first | refine sc rfl ?_ | refine so rfl ?_ | refine C_true rfl rfl ?_)
    refine O_case 14 rfl (fun h => ?_) (fun h => ?_)
    · simp only [decide_eq_true_eq] at h
      repeat (first | refine sc rfl ?_ | refine so rfl ?_ | refine ⟨by decide, ?_⟩)
      refine C_if rfl (fun h2 => ?_) (fun h2 => ?_)
      · have h2' : n ≤ 30 := Int.le_trans (of_decide_eq_true h2) (by decide)
        repeat (first | refine sc rfl ?_ | refine so rfl ?_ | refine ⟨by decide, ?_⟩)
        refine ⟨_, rfl, rfl, congrArg I64 ?_⟩
        have : cls n = 32 := by unfold cls; repeat' split <;> omega
        rw [this]
        decide
      · have h2' : 30 < n := Int.lt_of_le_of_lt (by decide) (Int.not_le.mp (of_decide_eq_false h2))
        repeat (first | refine sc rfl ?_ | refine so rfl ?_)
        exact ⟨1, ⟨by omega, fun h' => by simp only [lowC]; omega⟩, by omega, Le.sub [] ⟨rfl, rfl, congrArg (fun x => some (I64 x)) (by decide), trivial⟩ rfl⟩
    · simp only [decide_eq_false_iff_not] at h
      repeat (first | refine sc rfl ?_ | refine so rfl ?_ | refine C_false rfl rfl ?_)
      exact ⟨1, ⟨by omega, fun h' => by simp only [lowC]; omega⟩, by omega, Le.sub [] ⟨rfl, rfl, congrArg (fun x => some (I64 x)) (by decide), trivial⟩ rfl⟩
  · simp only [lowC] at hlo
    repeat (first | refine sc rfl ?_ | refine so rfl ?_ | refine C_true rfl rfl ?_)
    refine O_case 14 rfl (fun h => ?_) (fun h => ?_)
    · simp only [decide_eq_true_eq] at h
      repeat (first | refine sc rfl ?_ | refine so rfl ?_ | refine ⟨by decide, ?_⟩)
      refine C_if rfl (fun h2 => ?_) (fun h2 => ?_)
      · have h2' : n ≤ 62 := Int.le_trans (of_decide_eq_true h2) (by decide)
        repeat (first | refine sc rfl ?_ | refine so rfl ?_ | refine ⟨by decide, ?_⟩)
        refine ⟨_, rfl, rfl, congrArg I64 ?_⟩
        have : cls n = 64 := by unfold cls; repeat' split <;> omega
        rw [this]
        decide
      · have h2' : 62 < n := Int.lt_of_le_of_lt (by decide) (Int.not_le.mp (of_decide_eq_false h2))
        repeat (first | refine sc rfl ?_ | refine so rfl ?_)
        exact ⟨2, ⟨by omega, fun h' => by simp only [lowC]; omega⟩, by omega, Le.sub [] ⟨rfl, rfl, congrArg (fun x => some (I64 x)) (by decide), trivial⟩ rfl⟩
    · simp only [decide_eq_false_iff_not] at h
      repeat (first | refine sc rfl ?_ | refine so rfl ?_ | refine C_false rfl rfl ?_)
      exact ⟨2, ⟨by omega, fun h' => by simp only [lowC]; omega⟩, by omega, Le.sub [] ⟨rfl, rfl, congrArg (fun x => some (I64 x)) (by decide), trivial⟩ rfl⟩
  · simp only [lowC] at hlo
    repeat (first | refine sc rfl ?_ | refine so rfl ?_ | refine C_true rfl rfl ?_)
    refine O_case 14 rfl (fun h => ?_) (fun h => ?_)
    · simp only [decide_eq_true_eq] at h
      repeat (first | refine sc rfl ?_ | refine so rfl ?_ | refine ⟨by decide, ?_⟩)
      refine C_if rfl (fun h2 => ?_) (fun h2 => ?_)
      · have h2' : n ≤ 126 := Int.le_trans (of_decide_eq_true h2) (by decide)
        repeat (first | refine sc rfl ?_ | refine so rfl ?_ | refine ⟨by decide, ?_⟩)
        refine ⟨_, rfl, rfl, congrArg I64 ?_⟩
        have : cls n = 128 := by unfold cls; repeat' split <;> omega
        rw [this]
        decide
      · have h2' : 126 < n := Int.lt_of_le_of_lt (by decide) (Int.not_le.mp (of_decide_eq_false h2))
        repeat (first | refine sc rfl ?_ | refine so rfl ?_)
        exact ⟨3, ⟨by omega, fun h' => by simp only [lowC]; omega⟩, by omega, Le.sub [] ⟨rfl, rfl, congrArg (fun x => some (I64 x)) (by decide), trivial⟩ rfl⟩
    · simp only [decide_eq_false_iff_not] at h
      repeat (first | refine sc rfl ?_ | refine so rfl ?_ | refine C_false rfl rfl ?_)
      exact ⟨3, ⟨by omega, fun h' => by simp only [lowC]; omega⟩, by omega, Le.sub [] ⟨rfl, rfl, congrArg (fun x => some (I64 x)) (by decide), trivial⟩ rfl⟩
  · simp only [lowC] at hlo
    repeat (first | refine sc rfl ?_ | refine so rfl ?_ | refine C_true rfl rfl ?_)
    refine O_case 14 rfl (fun h => ?_) (fun h => ?_)
    · simp only [decide_eq_true_eq] at h
      repeat (first | refine sc rfl ?_ | refine so rfl ?_ | refine ⟨by decide, ?_⟩)
      refine C_if rfl (fun h2 => ?_) (fun h2 => ?_)
      · have h2' : n ≤ 254 := Int.le_trans (of_decide_eq_true h2) (by decide)
        repeat (first | refine sc rfl ?_ | refine so rfl ?_ | refine ⟨by decide, ?_⟩)
        refine ⟨_, rfl, rfl, congrArg I64 ?_⟩
        have : cls n = 256 := by unfold cls; repeat' split <;> omega
        rw [this]
        decide
      · have h2' : 254 < n := Int.lt_of_le_of_lt (by decide) (Int.not_le.mp (of_decide_eq_false h2))
        repeat (first | refine sc rfl ?_ | refine so rfl ?_)
        exact ⟨4, ⟨by omega, fun h' => by simp only [lowC]; omega⟩, by omega, Le.sub [] ⟨rfl, rfl, congrArg (fun x => some (I64 x)) (by decide), trivial⟩ rfl⟩
    · simp only [decide_eq_false_iff_not] at h
      repeat (first | refine sc rfl ?_ | refine so rfl ?_ | refine C_false rfl rfl ?_)
      exact ⟨4, ⟨by omega, fun h' => by simp only [lowC]; omega⟩, by omega, Le.sub [] ⟨rfl, rfl, congrArg (fun x => some (I64 x)) (by decide), trivial⟩ rfl⟩
  · simp only [lowC] at hlo
    repeat (first | refine sc rfl ?_ | refine so rfl ?_ | refine C_true rfl rfl ?_)
    refine O_case 14 rfl (fun h => ?_) (fun h => ?_)
    · simp only [decide_eq_true_eq] at h
      repeat (first | refine sc rfl ?_ | refine so rfl ?_ | refine ⟨by decide, ?_⟩)
      refine C_if rfl (fun h2 => ?_) (fun h2 => ?_)
      · have h2' : n ≤ 510 := Int.le_trans (of_decide_eq_true h2) (by decide)
        repeat (first | refine sc rfl ?_ | refine so rfl ?_ | refine ⟨by decide, ?_⟩)
        refine ⟨_, rfl, rfl, congrArg I64 ?_⟩
        have : cls n = 512 := by unfold cls; repeat' split <;> omega
        rw [this]
        decide
      · have h2' : 510 < n := Int.lt_of_le_of_lt (by decide) (Int.not_le.mp (of_decide_eq_false h2))
        repeat (first | refine sc rfl ?_ | refine so rfl ?_)
        exact ⟨5, ⟨by omega, fun h' => by simp only [lowC]; omega⟩, by omega, Le.sub [] ⟨rfl, rfl, congrArg (fun x => some (I64 x)) (by decide), trivial⟩ rfl⟩
    · simp only [decide_eq_false_iff_not] at h
      repeat (first | refine sc rfl ?_ | refine so rfl ?_ | refine C_false rfl rfl ?_)
      exact ⟨5, ⟨by omega, fun h' => by simp only [lowC]; omega⟩, by omega, Le.sub [] ⟨rfl, rfl, congrArg (fun x => some (I64 x)) (by decide), trivial⟩ rfl⟩
  · simp only [lowC] at hlo
    repeat (first | refine sc rfl ?_ | refine so rfl ?_ | refine C_true rfl rfl ?_)
    refine O_case 14 rfl (fun h => ?_) (fun h => ?_)
    · simp only [decide_eq_true_eq] at h
      repeat (first | refine sc rfl ?_ | refine so rfl ?_ | refine ⟨by decide, ?_⟩)
      refine C_if rfl (fun h2 => ?_) (fun h2 => ?_)
      · have h2' : n ≤ 1022 := Int.le_trans (of_decide_eq_true h2) (by decide)
        repeat (first | refine sc rfl ?_ | refine so rfl ?_ | refine ⟨by decide, ?_⟩)
        refine ⟨_, rfl, rfl, congrArg I64 ?_⟩
        have : cls n = 1024 := by unfold cls; repeat' split <;> omega
        rw [this]
        decide
      · have h2' : 1022 < n := Int.lt_of_le_of_lt (by decide) (Int.not_le.mp (of_decide_eq_false h2))
        repeat (first | refine sc rfl ?_ | refine so rfl ?_)
        exact ⟨6, ⟨by omega, fun h' => by simp only [lowC]; omega⟩, by omega, Le.sub [] ⟨rfl, rfl, congrArg (fun x => some (I64 x)) (by decide), trivial⟩ rfl⟩
    · simp only [decide_eq_false_iff_not] at h
      repeat (first | refine sc rfl ?_ | refine so rfl ?_ | refine C_false rfl rfl ?_)
      exact ⟨6, ⟨by omega, fun h' => by simp only [lowC]; omega⟩, by omega, Le.sub [] ⟨rfl, rfl, congrArg (fun x => some (I64 x)) (by decide), trivial⟩ rfl⟩
end Go.Proofs
