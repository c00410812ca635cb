/- Contracts, part nine: pad. -/
import Derived.Test.YtgdlhcaidfokkaaDoorT21
import Derived.Test.YtgdlhcaidfokkaaDoorSy18
import Derived.Test.YtgdlhcaidfokkaaDoorShj
import Derived.Test.YtgdlhcaidfokkaaDoorSy19
import Derived.Test.YtgdlhcaidfokkaaDoorSy20
set_option linter.unusedSimpArgs false
set_option linter.unusedVariables false
namespace Go.Proofs
open Go.Sy

def cls (n : Int) : Int := if n < 0 then 0 else if n ≤ 30 then 32 else if n ≤ 62 then 64 else if n ≤ 126 then 128 else if n ≤ 254 then 256 else if n ≤ 510 then 512 else if n ≤ 1022 then 1024 else 0
def clsE (n : Int) : Int := if n < 0 then 1 else if 1022 < n then 3 else 0

theorem Most_p : FnP Tryd.prog 37 [] (· = I64 1022) := by
  refine FnP.intro Tryd.tabOK Tryd.wide_ Tryd.func37 rfl (by decide) rfl (fun X => ?_)
  repeat (first | refine sc rfl ?_ | refine so rfl ?_ | refine sb rfl ?_)
  exact ⟨_, rfl, rfl, rfl⟩

def clsInv (n c : Int) : Prop := c = 32 ∨ (c = 64 ∧ 30 < n) ∨ (c = 128 ∧ 62 < n) ∨ (c = 256 ∧ 126 < n) ∨ (c = 512 ∧ 254 < n) ∨ (c = 1024 ∧ 510 < n)
theorem clsInv_cls {n c : Int} (h0 : 0 ≤ n) (h1 : n ≤ 1022) (hi : clsInv n c) (h : n ≤ c - 2) : cls n = c := by
  unfold clsInv at hi
  unfold cls
  repeat' split
  all_goals omega

theorem Class_p (n : Int) : FnP Tryd.prog 23 [I64 n] (· = .tup [I64 (cls n), I64 (clsE n)]) := by
  refine FnP.intro Tryd.tabOK Tryd.wide_ Tryd.func23 rfl (by decide) rfl (fun X => ?_)
  repeat (first | refine sc rfl ?_ | refine so rfl ?_ | refine sb rfl ?_ | refine C_scope ?_)
  refine C_if rfl (fun h => ?_) (fun h => ?_) <;> simp only [decide_eq_true_eq, decide_eq_false_iff_not] at h
  · repeat (first | refine sc rfl ?_ | refine so rfl ?_ | refine sb rfl ?_ | refine C_scope ?_)
    exact ⟨_, rfl, rfl, by simp only [cls, clsE, if_pos h]⟩
  repeat (first | refine sc rfl ?_ | refine so rfl ?_ | refine sb rfl ?_ | refine C_scope ?_)
  refine O_call Most_p (by rfl) (by rfl) (by rfl) (by rfl) (fun r hr => ?_)
  subst hr
  repeat (first | refine sc rfl ?_ | refine so rfl ?_ | refine sb rfl ?_ | refine C_scope ?_)
  refine C_if rfl (fun h2 => ?_) (fun h2 => ?_) <;> simp only [decide_eq_true_eq, decide_eq_false_iff_not] at h2
  · repeat (first | refine sc rfl ?_ | refine so rfl ?_ | refine sb rfl ?_ | refine C_scope ?_)
    refine ⟨_, rfl, rfl, ?_⟩
    have e1 : cls n = 0 := by unfold cls; repeat' split <;> omega
    have e2 : clsE n = 3 := by unfold clsE; rw [if_neg h, if_pos (by omega)]
    rw [e1, e2]
  repeat (first | refine sc rfl ?_ | refine so rfl ?_ | refine sb rfl ?_ | refine C_scope ?_)
  refine C_loop (fun c : Int => ⟨[(0, I64 n), (4, I64 c)], []⟩) (clsInv n) (fun c => (1024 - c).toNat) 32 (.inl rfl)
      (Le.sub [] ⟨rfl, rfl, trivial⟩ rfl) ?_
  intro c hc
  have hb : 32 ≤ c ∧ c ≤ 1024 := by unfold clsInv at hc; omega
  repeat (first | refine sc rfl ?_ | refine so rfl ?_ | refine sb rfl ?_ | refine C_scope ?_)
  rw [w64 (x := c - 2) (by omega) (by omega)]
  repeat (first | refine sc rfl ?_ | refine so rfl ?_ | refine sb rfl ?_ | refine C_scope ?_)
  refine C_if rfl (fun h3 => ?_) (fun h3 => ?_) <;> simp only [decide_eq_true_eq, decide_eq_false_iff_not] at h3
  · repeat (first | refine sc rfl ?_ | refine so rfl ?_ | refine sb rfl ?_ | refine C_scope ?_)
    refine ⟨_, rfl, rfl, ?_⟩
    have e2 : clsE n = 0 := by unfold clsE; rw [if_neg h, if_neg (by omega)]
    rw [clsInv_cls (by omega) (by omega) hc (by omega), e2]
  · repeat (first | refine sc rfl ?_ | refine so rfl ?_ | refine sb rfl ?_ | refine C_scope ?_)
    rw [w64 (x := c * 2) (by omega) (by omega)]
    exact ⟨c * 2, by unfold clsInv at hc ⊢; omega, by unfold clsInv at hc; omega, Le.sub [] ⟨rfl, rfl, trivial⟩ rfl⟩

theorem Byte_p (n : Int) : FnP Tryd.prog 62 [I64 n] (· = .s [UInt8.ofNat (IntKind.u8.wrap n).toNat]) := by
  refine FnP.intro Tryd.tabOK Tryd.wide_ Tryd.func62 rfl (by decide) rfl (fun X => ?_)
  repeat (first | refine sc rfl ?_ | refine so rfl ?_ | refine sb rfl ?_ | refine sv rfl ?_)
  exact ⟨_, rfl, rfl, rfl⟩

theorem rep0 : ∀ k : Nat, Lib.repeatL [(0 : UInt8)] k = List.replicate k 0
  | 0 => rfl
  | k + 1 => by
    have := rep0 k
    simp only [Lib.repeatL] at this ⊢
    simp_all [List.replicate_succ]

theorem Repeat_p (k : Nat) (hk : k ≤ 1024) : FnP Tryd.prog 36 [.s [0], I64 (k : Int)] (· = .s (List.replicate k 0)) := by
  refine FnP.ofCalls (vs := [S [0], .int .i64 (k : Int)]) (v := S (List.replicate k 0)) ⟨_, Tryd.func36, rfl, by decide⟩ rfl rfl (fun G => by simp only [RepI]) (fun w => ?_)
  have := Tryd.strings_Repeat ⟨#[0]⟩ k w (by omega) (by simp only [ByteArray.size]; simp; omega)
  rw [show (⟨#[0]⟩ : ByteArray).data.toList = [0] from rfl, rep0] at this
  exact this

def lowC (k : Nat) : Int := match k with | 0 => -1 | 1 => 30 | 2 => 62 | 3 => 126 | 4 => 254 | 5 => 510 | _ => 1022
theorem refClass_p (n : Int) : FnP Tryd.prog 61 [I64 n] (· = I64 (cls n)) := by
  refine FnP.intro Tryd.tabOK Tryd.wide_ Tryd.func61 rfl (by decide) rfl (fun X => ?_)
  repeat (first | refine sc rfl ?_ | refine so rfl ?_ | refine sb rfl ?_)
  refine C_le _ (Le.freeze 3 rfl rfl) ?_
  refine C_le _ (Le.conv 3 (y := SL 1 (fun x => [I64 x]) [32, 64, 128, 256, 512, 1024]) rfl (fun e v h => Rep.slrow (fun i hi => ?_) h)) ?_
  · match i, hi with
    | 0, _ | 1, _ | 2, _ | 3, _ | 4, _ | 5, _ => rfl
  refine C_loop (fun k : Nat => ⟨[(0, I64 n), (3, SL 1 (fun x => [I64 x]) [32, 64, 128, 256, 512, 1024]), (4, I64 (k : Int))], []⟩) (fun k => k ≤ 6 ∧ (0 ≤ n → lowC k < n)) (fun k => 6 - k) 0 ⟨by omega, fun h => by simp only [lowC]; omega⟩
    (Le.sub [] ⟨rfl, rfl, rfl, trivial⟩ rfl) ?_
  rintro k ⟨hk, hlo⟩
  rcases (by omega : k = 0 ∨ k = 1 ∨ k = 2 ∨ k = 3 ∨ k = 4 ∨ k = 5 ∨ k = 6) with rfl | rfl | rfl | rfl | rfl | rfl | rfl
  case inr.inr.inr.inr.inr.inr =>
    repeat (first | refine sc rfl ?_ | refine so rfl ?_ | refine C_false rfl rfl ?_)
    refine ⟨_, rfl, rfl, congrArg I64 ?_⟩
    simp only [lowC] at hlo
    unfold cls; repeat' split <;> omega
  · simp only [lowC] at hlo
    repeat (first | refine sc rfl ?_ | refine so rfl ?_ | refine C_true rfl rfl ?_)
    refine O_case 14 rfl (fun h => ?_) (fun h => ?_)
    · simp only [decide_eq_true_eq] at h
      repeat (first | refine sc rfl ?_ | refine so rfl ?_ | refine ⟨by decide, ?_⟩)
      refine C_if rfl (fun h2 => ?_) (fun h2 => ?_)
      · have h2' : n ≤ 30 := Int.le_trans (of_decide_eq_true h2) (by decide)
        repeat (first | refine sc rfl ?_ | refine so rfl ?_ | refine ⟨by decide, ?_⟩)
        refine ⟨_, rfl, rfl, congrArg I64 ?_⟩
        have : cls n = 32 := by unfold cls; repeat' split <;> omega
        rw [this]
        decide
      · have h2' : 30 < n := Int.lt_of_le_of_lt (by decide) (Int.not_le.mp (of_decide_eq_false h2))
        repeat (first | refine sc rfl ?_ | refine so rfl ?_)
        exact ⟨1, ⟨by omega, fun h' => by simp only [lowC]; omega⟩, by omega, Le.sub [] ⟨rfl, rfl, congrArg (fun x => some (I64 x)) (by decide), trivial⟩ rfl⟩
    · simp only [decide_eq_false_iff_not] at h
      repeat (first | refine sc rfl ?_ | refine so rfl ?_ | refine C_false rfl rfl ?_)
      exact ⟨1, ⟨by omega, fun h' => by simp only [lowC]; omega⟩, by omega, Le.sub [] ⟨rfl, rfl, congrArg (fun x => some (I64 x)) (by decide), trivial⟩ rfl⟩
  · simp only [lowC] at hlo
    repeat (first | refine sc rfl ?_ | refine so rfl ?_ | refine C_true rfl rfl ?_)
    refine O_case 14 rfl (fun h => ?_) (fun h => ?_)
    · simp only [decide_eq_true_eq] at h
      repeat (first | refine sc rfl ?_ | refine so rfl ?_ | refine ⟨by decide, ?_⟩)
      refine C_if rfl (fun h2 => ?_) (fun h2 => ?_)
      · have h2' : n ≤ 62 := Int.le_trans (of_decide_eq_true h2) (by decide)
        repeat (first | refine sc rfl ?_ | refine so rfl ?_ | refine ⟨by decide, ?_⟩)
        refine ⟨_, rfl, rfl, congrArg I64 ?_⟩
        have : cls n = 64 := by unfold cls; repeat' split <;> omega
        rw [this]
        decide
      · have h2' : 62 < n := Int.lt_of_le_of_lt (by decide) (Int.not_le.mp (of_decide_eq_false h2))
        repeat (first | refine sc rfl ?_ | refine so rfl ?_)
        exact ⟨2, ⟨by omega, fun h' => by simp only [lowC]; omega⟩, by omega, Le.sub [] ⟨rfl, rfl, congrArg (fun x => some (I64 x)) (by decide), trivial⟩ rfl⟩
    · simp only [decide_eq_false_iff_not] at h
      repeat (first | refine sc rfl ?_ | refine so rfl ?_ | refine C_false rfl rfl ?_)
      exact ⟨2, ⟨by omega, fun h' => by simp only [lowC]; omega⟩, by omega, Le.sub [] ⟨rfl, rfl, congrArg (fun x => some (I64 x)) (by decide), trivial⟩ rfl⟩
  · simp only [lowC] at hlo
    repeat (first | refine sc rfl ?_ | refine so rfl ?_ | refine C_true rfl rfl ?_)
    refine O_case 14 rfl (fun h => ?_) (fun h => ?_)
    · simp only [decide_eq_true_eq] at h
      repeat (first | refine sc rfl ?_ | refine so rfl ?_ | refine ⟨by decide, ?_⟩)
      refine C_if rfl (fun h2 => ?_) (fun h2 => ?_)
      · have h2' : n ≤ 126 := Int.le_trans (of_decide_eq_true h2) (by decide)
        repeat (first | refine sc rfl ?_ | refine so rfl ?_ | refine ⟨by decide, ?_⟩)
        refine ⟨_, rfl, rfl, congrArg I64 ?_⟩
        have : cls n = 128 := by unfold cls; repeat' split <;> omega
        rw [this]
        decide
      · have h2' : 126 < n := Int.lt_of_le_of_lt (by decide) (Int.not_le.mp (of_decide_eq_false h2))
        repeat (first | refine sc rfl ?_ | refine so rfl ?_)
        exact ⟨3, ⟨by omega, fun h' => by simp only [lowC]; omega⟩, by omega, Le.sub [] ⟨rfl, rfl, congrArg (fun x => some (I64 x)) (by decide), trivial⟩ rfl⟩
    · simp only [decide_eq_false_iff_not] at h
      repeat (first | refine sc rfl ?_ | refine so rfl ?_ | refine C_false rfl rfl ?_)
      exact ⟨3, ⟨by omega, fun h' => by simp only [lowC]; omega⟩, by omega, Le.sub [] ⟨rfl, rfl, congrArg (fun x => some (I64 x)) (by decide), trivial⟩ rfl⟩
  · simp only [lowC] at hlo
    repeat (first | refine sc rfl ?_ | refine so rfl ?_ | refine C_true rfl rfl ?_)
    refine O_case 14 rfl (fun h => ?_) (fun h => ?_)
    · simp only [decide_eq_true_eq] at h
      repeat (first | refine sc rfl ?_ | refine so rfl ?_ | refine ⟨by decide, ?_⟩)
      refine C_if rfl (fun h2 => ?_) (fun h2 => ?_)
      · have h2' : n ≤ 254 := Int.le_trans (of_decide_eq_true h2) (by decide)
        repeat (first | refine sc rfl ?_ | refine so rfl ?_ | refine ⟨by decide, ?_⟩)
        refine ⟨_, rfl, rfl, congrArg I64 ?_⟩
        have : cls n = 256 := by unfold cls; repeat' split <;> omega
        rw [this]
        decide
      · have h2' : 254 < n := Int.lt_of_le_of_lt (by decide) (Int.not_le.mp (of_decide_eq_false h2))
        repeat (first | refine sc rfl ?_ | refine so rfl ?_)
        exact ⟨4, ⟨by omega, fun h' => by simp only [lowC]; omega⟩, by omega, Le.sub [] ⟨rfl, rfl, congrArg (fun x => some (I64 x)) (by decide), trivial⟩ rfl⟩
    · simp only [decide_eq_false_iff_not] at h
      repeat (first | refine sc rfl ?_ | refine so rfl ?_ | refine C_false rfl rfl ?_)
      exact ⟨4, ⟨by omega, fun h' => by simp only [lowC]; omega⟩, by omega, Le.sub [] ⟨rfl, rfl, congrArg (fun x => some (I64 x)) (by decide), trivial⟩ rfl⟩
  · simp only [lowC] at hlo
    repeat (first | refine sc rfl ?_ | refine so rfl ?_ | refine C_true rfl rfl ?_)
    refine O_case 14 rfl (fun h => ?_) (fun h => ?_)
    · simp only [decide_eq_true_eq] at h
      repeat (first | refine sc rfl ?_ | refine so rfl ?_ | refine ⟨by decide, ?_⟩)
      refine C_if rfl (fun h2 => ?_) (fun h2 => ?_)
      · have h2' : n ≤ 510 := Int.le_trans (of_decide_eq_true h2) (by decide)
        repeat (first | refine sc rfl ?_ | refine so rfl ?_ | refine ⟨by decide, ?_⟩)
        refine ⟨_, rfl, rfl, congrArg I64 ?_⟩
        have : cls n = 512 := by unfold cls; repeat' split <;> omega
        rw [this]
        decide
      · have h2' : 510 < n := Int.lt_of_le_of_lt (by decide) (Int.not_le.mp (of_decide_eq_false h2))
        repeat (first | refine sc rfl ?_ | refine so rfl ?_)
        exact ⟨5, ⟨by omega, fun h' => by simp only [lowC]; omega⟩, by omega, Le.sub [] ⟨rfl, rfl, congrArg (fun x => some (I64 x)) (by decide), trivial⟩ rfl⟩
    · simp only [decide_eq_false_iff_not] at h
      repeat (first | refine sc rfl ?_ | refine so rfl ?_ | refine C_false rfl rfl ?_)
      exact ⟨5, ⟨by omega, fun h' => by simp only [lowC]; omega⟩, by omega, Le.sub [] ⟨rfl, rfl, congrArg (fun x => some (I64 x)) (by decide), trivial⟩ rfl⟩
  · simp only [lowC] at hlo
    repeat (first | refine sc rfl ?_ | refine so rfl ?_ | refine C_true rfl rfl ?_)
    refine O_case 14 rfl (fun h => ?_) (fun h => ?_)
    · simp only [decide_eq_true_eq] at h
      repeat (first | refine sc rfl ?_ | refine so rfl ?_ | refine ⟨by decide, ?_⟩)
      refine C_if rfl (fun h2 => ?_) (fun h2 => ?_)
      · have h2' : n ≤ 1022 := Int.le_trans (of_decide_eq_true h2) (by decide)
        repeat (first | refine sc rfl ?_ | refine so rfl ?_ | refine ⟨by decide, ?_⟩)
        refine ⟨_, rfl, rfl, congrArg I64 ?_⟩
        have : cls n = 1024 := by unfold cls; repeat' split <;> omega
        rw [this]
        decide
      · have h2' : 1022 < n := Int.lt_of_le_of_lt (by decide) (Int.not_le.mp (of_decide_eq_false h2))
        repeat (first | refine sc rfl ?_ | refine so rfl ?_)
        exact ⟨6, ⟨by omega, fun h' => by simp only [lowC]; omega⟩, by omega, Le.sub [] ⟨rfl, rfl, congrArg (fun x => some (I64 x)) (by decide), trivial⟩ rfl⟩
    · simp only [decide_eq_false_iff_not] at h
      repeat (first | refine sc rfl ?_ | refine so rfl ?_ | refine C_false rfl rfl ?_)
      exact ⟨6, ⟨by omega, fun h' => by simp only [lowC]; omega⟩, by omega, Le.sub [] ⟨rfl, rfl, congrArg (fun x => some (I64 x)) (by decide), trivial⟩ rfl⟩
end Go.Proofs

/- Contracts, part ten: pad.Pad, and the document's. -/
set_option linter.unusedSimpArgs false
set_option linter.unusedVariables false
namespace Go.Proofs
open Go.Sy

def hd2 (n : Int) : List UInt8 := [UInt8.ofNat (IntKind.u8.wrap (n / 256)).toNat, UInt8.ofNat (IntKind.u8.wrap n).toNat]
def padL (s : List UInt8) : List UInt8 := if s.length ≤ 1022 then hd2 s.length ++ s ++ List.replicate (cls s.length - 2 - s.length).toNat 0 else []
theorem cls_bd {n : Int} (h0 : 0 ≤ n) (h1 : n ≤ 1022) : n ≤ cls n - 2 ∧ cls n ≤ 1024 := by
  unfold cls; repeat' split
  all_goals omega

theorem Pad_p (s : List UInt8) (hs : s.length ≤ 9223372036854775807) : FnP Tryd.prog 22 [.s s] (· = .tup [.s (padL s), I64 (clsE s.length)]) := by
  refine FnP.intro Tryd.tabOK Tryd.wide_ Tryd.func22 rfl (by decide) rfl (fun X => ?_)
  repeat (first | refine sc rfl ?_ | refine so rfl ?_ | refine sb rfl ?_)
  refine O_call (Class_p _) (by rfl) (by rfl) (by rfl) (by rfl) (fun r hr => ?_)
  subst hr
  repeat (first | refine sc rfl ?_ | refine so rfl ?_ | refine sb rfl ?_)
  refine C_if rfl (fun h => ?_) (fun h => ?_)
  · repeat (first | refine sc rfl ?_ | refine so rfl ?_ | refine sb rfl ?_)
    refine ⟨_, rfl, rfl, ?_⟩
    have h' : ¬ s.length ≤ 1022 := by
      intro h2
      have : clsE s.length = 0 := by unfold clsE; rw [if_neg (by omega), if_neg (by omega)]
      rw [this] at h
      exact absurd h (by decide)
    rw [padL, if_neg h']
  · have h' : s.length ≤ 1022 := by
      rcases Nat.lt_or_ge 1022 s.length with h2 | h2
      · have : clsE s.length = 3 := by unfold clsE; rw [if_neg (by omega), if_pos (by omega)]
        rw [this] at h
        exact absurd h (by decide)
      · exact h2
    have e0 : clsE s.length = 0 := by unfold clsE; rw [if_neg (by omega), if_neg (by omega)]
    obtain ⟨b1, b2⟩ := cls_bd (n := (s.length : Int)) (by omega) (by omega)
    have e1 : padL s = hd2 s.length ++ s ++ List.replicate (cls s.length - 2 - s.length).toNat 0 := by rw [padL, if_pos h']
    have e2 : ((cls s.length - 2 - s.length).toNat : Int) = cls s.length - 2 - s.length := by omega
    rw [e0, e1]
    have e3 : (cls s.length - 2 - s.length).toNat ≤ 1024 := by omega
    generalize (cls s.length - 2 - s.length).toNat = k at *
    repeat (first | refine sc rfl ?_ | refine so rfl ?_ | refine sb rfl ?_)
    refine C_drawD rfl (by kernel_rfl) ?_
    repeat (first | refine sd rfl ?_ | refine sds rfl ?_ | refine sdv rfl ?_ | refine ⟨by decide, ?_⟩)
    have hh : List.map (fun n : Int => UInt8.ofNat n.toNat) [IntKind.u8.wrap ((s.length : Int).fdiv (2 ^ min (Int.toNat 8) IntKind.i64.bits)), IntKind.u8.wrap (s.length : Int)] = hd2 s.length := by
      simp only [List.map, hd2]
      rw [show (2 : Int) ^ min (Int.toNat 8) IntKind.i64.bits = 256 by decide, Int.fdiv_eq_ediv_of_nonneg _ (by decide)]
    rw [hh]
    have hl2 : (hd2 s.length).length = 2 := rfl
    refine ⟨by omega, ?_⟩
    repeat (first | refine sd rfl ?_)
    rw [w64 (x := cls s.length - 2) (by omega) (by omega), w64 (x := cls s.length - 2 - s.length) (by omega) (by omega), ← e2]
    refine D_call (Repeat_p k e3) rfl rfl rfl rfl ?_
    refine sd rfl ?_
    refine ⟨by rw [List.length_append, List.length_replicate]; omega, ?_⟩
    repeat (first | refine sd rfl ?_ | refine sc rfl ?_)
    exact ⟨_, rfl, rfl, rfl⟩

theorem rem256 (n : Nat) : UInt8.ofNat (IntKind.u8.wrap ((n : Int).tmod 256)).toNat = UInt8.ofNat (IntKind.u8.wrap (n : Int)).toNat := by
  have h1 : (n : Int).tmod 256 = (n : Int) % 256 := Int.tmod_eq_emod_of_nonneg (by omega)
  rw [h1]
  congr 2
  simp only [IntKind.wrap, show IntKind.u8.signed = false from rfl, show IntKind.u8.bits = 8 from rfl, Bool.false_and, Bool.false_eq_true, if_false]
  omega

theorem refPad_p (s : List UInt8) (hs : s.length ≤ 9223372036854775807) : FnP Tryd.prog 35 [.s s] (· = .tup [.s (padL s), I64 (clsE s.length)]) := by
  refine FnP.intro Tryd.tabOK Tryd.wide_ Tryd.func35 rfl (by decide) rfl (fun X => ?_)
  repeat (first | refine sc rfl ?_ | refine so rfl ?_ | refine sb rfl ?_)
  refine O_call (refClass_p _) (by rfl) (by rfl) (by rfl) (by rfl) (fun r hr => ?_)
  subst hr
  repeat (first | refine sc rfl ?_ | refine so rfl ?_ | refine sb rfl ?_)
  refine C_if rfl (fun h => ?_) (fun h => ?_)
  · repeat (first | refine sc rfl ?_ | refine so rfl ?_ | refine sb rfl ?_)
    refine ⟨_, rfl, rfl, ?_⟩
    have h0 : cls s.length = 0 := by simpa using h
    have h' : ¬ s.length ≤ 1022 := by
      intro h2
      have := cls_bd (n := (s.length : Int)) (by omega) (by omega)
      omega
    rw [padL, if_neg h', show clsE s.length = 3 by unfold clsE; rw [if_neg (by omega), if_pos (by omega)]]
  · have h0 : ¬ cls s.length = 0 := by simpa using h
    have h' : s.length ≤ 1022 := by
      rcases Nat.lt_or_ge 1022 s.length with h2 | h2
      · exact absurd (by unfold cls; repeat' split <;> omega) h0
      · exact h2
    have e0 : clsE s.length = 0 := by unfold clsE; rw [if_neg (by omega), if_neg (by omega)]
    obtain ⟨b1, b2⟩ := cls_bd (n := (s.length : Int)) (by omega) (by omega)
    have e1 : padL s = hd2 s.length ++ s ++ List.replicate (cls s.length - 2 - s.length).toNat 0 := by rw [padL, if_pos h']
    rw [e0, e1]
    repeat (first | refine sc rfl ?_ | refine so rfl ?_ | refine sb rfl ?_ | refine ⟨by decide, ?_⟩)
    refine O_call (Byte_p _) (by rfl) (by rfl) (by rfl) (by rfl) (fun r hr => ?_)
    subst hr
    repeat (first | refine sc rfl ?_ | refine so rfl ?_ | refine sb rfl ?_ | refine ⟨by decide, ?_⟩)
    refine O_call (Byte_p _) (by rfl) (by rfl) (by rfl) (by rfl) (fun r hr => ?_)
    subst hr
    repeat (first | refine sc rfl ?_ | refine so rfl ?_ | refine sb rfl ?_)
    refine ⟨by simp only [List.length_singleton]; omega, ?_⟩
    rw [quo64 (by omega) (by omega) (by omega), rem256]
    repeat (first | refine sc rfl ?_ | refine so rfl ?_ | refine sb rfl ?_)
    rw [show [UInt8.ofNat (IntKind.u8.wrap ((s.length : Int) / 256)).toNat] ++ [UInt8.ofNat (IntKind.u8.wrap (s.length : Int)).toNat] = hd2 s.length from rfl]
    have hl2 : (hd2 s.length).length = 2 := rfl
    refine ⟨by omega, ?_⟩
    repeat (first | refine sc rfl ?_ | refine so rfl ?_ | refine sb rfl ?_)
    refine C_loop (fun j : Nat => ⟨[(4, I64 (cls s.length)), (5, .s (hd2 s.length ++ s ++ List.replicate j 0))], []⟩) (fun j => (j : Int) ≤ cls s.length - 2 - s.length) (fun j => (cls s.length - 2 - s.length - j).toNat) 0 (by omega)
      (Le.sub [] ⟨rfl, by simp only [List.replicate_zero, List.append_nil]; rfl, trivial⟩ rfl) ?_
    intro j hj
    have hlj : (hd2 s.length ++ s ++ List.replicate j (0 : UInt8)).length = 2 + s.length + j := by rw [List.length_append, List.length_append, List.length_replicate, hl2]
    repeat (first | refine sc rfl ?_ | refine so rfl ?_ | refine sb rfl ?_)
    rw [hlj]
    refine C_if rfl (fun h3 => ?_) (fun h3 => ?_) <;> simp only [decide_eq_true_eq, decide_eq_false_iff_not] at h3
    · repeat (first | refine sc rfl ?_ | refine so rfl ?_ | refine sb rfl ?_)
      refine O_call (Byte_p _) (by rfl) (by rfl) (by rfl) (by rfl) (fun r hr => ?_)
      subst hr
      repeat (first | refine sc rfl ?_ | refine so rfl ?_ | refine sb rfl ?_)
      refine ⟨by rw [hlj]; simp only [List.length_singleton]; omega, ?_⟩
      repeat (first | refine sc rfl ?_ | refine so rfl ?_ | refine sb rfl ?_)
      exact ⟨j + 1, by omega, by omega, Le.sub [] ⟨rfl, by rw [List.replicate_succ', ← List.append_assoc]; rfl, trivial⟩ rfl⟩
    · repeat (first | refine sc rfl ?_ | refine so rfl ?_ | refine sb rfl ?_)
      refine ⟨_, rfl, rfl, ?_⟩
      rw [show (cls s.length - 2 - s.length).toNat = j by omega]
end Go.Proofs

/- Contracts, part eleven: the law PadPads. -/
set_option linter.unusedSimpArgs false
set_option linter.unusedVariables false
namespace Go.Proofs
open Go.Sy

theorem awake07_p : FnP Tryd.prog 19 [] (· = B true) := by
  refine FnP.intro Tryd.tabOK Tryd.wide_ Tryd.func19 rfl (by decide) rfl (fun X => ?_)
  repeat (first | refine sc rfl ?_ | refine so rfl ?_ | refine sb rfl ?_)
  refine O_call (Pad_p [1, 2] (by decide)) (by rfl) (by rfl) (by rfl) (by rfl) (fun r hr => ?_)
  subst hr
  rw [show padL [1, 2] = [0, 2, 1, 2, 0, 0, 0, 0, 0, 0, 0, 0, 0, 0, 0, 0, 0, 0, 0, 0, 0, 0, 0, 0, 0, 0, 0, 0, 0, 0, 0, 0] by decide, show clsE ([1, 2] : List UInt8).length = 0 by decide]
  repeat (first | refine sc rfl ?_ | refine so rfl ?_ | refine sb rfl ?_ | refine ⟨by decide, ?_⟩)
  exact ⟨_, rfl, rfl, rfl⟩

end Go.Proofs

/- Contracts, part twelve: varint.Put, and the document's. -/
set_option linter.unusedSimpArgs false
set_option linter.unusedVariables false
namespace Go.Proofs
open Go.Sy

abbrev U64 (n : Int) : AV := .v (.int .u64 n)

/-- A number's bytes. -/
def vput (n : Nat) : List UInt8 := if h : n < 128 then [UInt8.ofNat n] else UInt8.ofNat (n % 128 + 128) :: vput (n / 128)
termination_by n
decreasing_by omega
theorem vput_lt {n : Nat} (h : n < 128) : vput n = [UInt8.ofNat n] := by rw [vput, dif_pos h]
theorem vput_ge {n : Nat} (h : ¬ n < 128) : vput n = UInt8.ofNat (n % 128 + 128) :: vput (n / 128) := by rw [vput, dif_neg h]
theorem vput_len (n : Nat) : (vput n).length ≤ n + 1 := by
  induction n using Nat.strongRecOn with
  | ind n ih =>
    by_cases h : n < 128
    · rw [vput_lt h]; simp
    · rw [vput_ge h, List.length_cons]
      have := ih (n / 128) (by omega)
      omega

theorem u8wrap {x : Int} (h : 0 ≤ x) (h2 : x < 256) : IntKind.u8.wrap x = x := by
  simp only [IntKind.wrap, show IntKind.u8.signed = false from rfl, show IntKind.u8.bits = 8 from rfl, Bool.false_and, Bool.false_eq_true, if_false]
  omega
theorem u64wrap {x : Int} (h : 0 ≤ x) (h2 : x < 18446744073709551616) : IntKind.u64.wrap x = x := by
  simp only [IntKind.wrap, show IntKind.u64.signed = false from rfl, show IntKind.u64.bits = 64 from rfl, Bool.false_and, Bool.false_eq_true, if_false]
  omega

theorem refPut01_p (n : Nat) : n < 18446744073709551616 → FnP Tryd.prog 78 [U64 (n : Int)] (· = .s (vput n)) := by
  induction n using Nat.strongRecOn with
  | ind n ih =>
    intro hn
    refine FnP.intro Tryd.tabOK Tryd.wide_ Tryd.func78 rfl (by decide) rfl (fun X => ?_)
    repeat (first | refine sc rfl ?_ | refine so rfl ?_ | refine sb rfl ?_)
    refine C_if rfl (fun h => ?_) (fun h => ?_) <;> simp only [decide_eq_true_eq, decide_eq_false_iff_not] at h
    · repeat (first | refine sc rfl ?_ | refine so rfl ?_ | refine sb rfl ?_)
      refine O_call (Byte_p _) (by rfl) (by rfl) (by rfl) (by rfl) (fun r hr => ?_)
      subst hr
      repeat (first | refine sc rfl ?_ | refine so rfl ?_ | refine sb rfl ?_)
      refine ⟨_, rfl, rfl, ?_⟩
      rw [vput_lt (by omega), w64 (by omega) (by omega), u8wrap (by omega) (by omega)]
      rfl
    · repeat (first | refine sc rfl ?_ | refine so rfl ?_ | refine sb rfl ?_ | refine ⟨by decide, ?_⟩)
      refine O_call (Byte_p _) (by rfl) (by rfl) (by rfl) (by rfl) (fun r hr => ?_)
      subst hr
      repeat (first | refine sc rfl ?_ | refine so rfl ?_ | refine sb rfl ?_ | refine ⟨by decide, ?_⟩)
      have e1 : IntKind.u64.wrap ((n : Int).tdiv 128) = ((n / 128 : Nat) : Int) := by
        rw [Int.tdiv_eq_ediv_of_nonneg (by omega), u64wrap (by omega) (by omega)]
        omega
      rw [e1]
      refine O_call (ih (n / 128) (by omega) (by omega)) (by rfl) (by rfl) (by rfl) (by rfl) (fun r hr => ?_)
      subst hr
      have hl := vput_len (n / 128)
      repeat (first | refine sc rfl ?_ | refine so rfl ?_ | refine sb rfl ?_)
      refine ⟨by simp only [List.length_singleton]; omega, ?_⟩
      repeat (first | refine sc rfl ?_ | refine so rfl ?_ | refine sb rfl ?_)
      refine ⟨_, rfl, rfl, ?_⟩
      have e2 : (n : Int).tmod 128 = (n : Int) % 128 := Int.tmod_eq_emod_of_nonneg (by omega)
      rw [vput_ge (by omega), e2, w64 (x := (n : Int) % 128) (by omega) (by omega), w64 (by omega) (by omega), u8wrap (by omega) (by omega)]
      rw [show ((n : Int) % 128 + 128).toNat = n % 128 + 128 by omega]
      rfl
end Go.Proofs

/- Contracts, part thirteen: varint.Put. -/
set_option linter.unusedSimpArgs false
set_option linter.unusedVariables false
namespace Go.Proofs
open Go.Sy

/-- The low byte with the mark that more follow. -/
theorem or128 (n : Nat) : bitsV .or .u8 (IntKind.u8.wrap (n : Int)) 128 = ((n % 128 + 128 : Nat) : Int) := by
  have hw : IntKind.u8.wrap (n : Int) = ((n % 256 : Nat) : Int) := by
    simp only [IntKind.wrap, show IntKind.u8.signed = false from rfl, show IntKind.u8.bits = 8 from rfl, Bool.false_and, Bool.false_eq_true, if_false]
    omega
  rw [hw]
  have : ∀ m : Fin 256, bitsV .or .u8 ((m.val : Nat) : Int) 128 = ((m.val % 128 + 128 : Nat) : Int) := by decide +kernel
  have h := this ⟨n % 256, Nat.mod_lt _ (by omega)⟩
  simp only at h
  rw [h]
  omega

theorem vput_len2 : ∀ (k n : Nat), n < 128 ^ (k + 1) → (vput n).length ≤ k + 1
  | 0, n, h => by rw [vput_lt (by simpa using h)]; simp
  | k + 1, n, h => by
    by_cases hn : n < 128
    · rw [vput_lt hn]; simp
    · rw [vput_ge hn, List.length_cons]
      have : n / 128 < 128 ^ (k + 1) := by
        rw [Nat.div_lt_iff_lt_mul (by omega)]
        rw [Nat.pow_succ] at h
        exact h
      have := vput_len2 k (n / 128) this
      omega
theorem vput_len10 {n : Nat} (h : n < 18446744073709551616) : (vput n).length ≤ 10 := vput_len2 9 n (Nat.lt_of_lt_of_le h (by decide))

theorem byte_of {m : Nat} (h : m < 256) : ((UInt8.ofNat m).toNat : Int) = (m : Int) := by
  rw [UInt8.toNat_ofNat_of_lt' (by simpa using h)]

theorem Put83_p (n : Nat) (hn : n < 18446744073709551616) : FnP Tryd.prog 40 [U64 (n : Int)] (· = .s (vput n)) := by
  refine FnP.intro Tryd.tabOK Tryd.wide_ Tryd.func40 rfl (by decide) rfl (fun X => ?_)
  repeat (first | refine sc rfl ?_ | refine so rfl ?_ | refine sb rfl ?_ | refine C_scope ?_)
  refine C_loop (fun p : Nat × List UInt8 => ⟨[(0, U64 (p.1 : Int)), (3, .own 16)], [VEC 16 5 1 U8c p.2]⟩) (fun p => p.1 ≤ n ∧ p.2 ++ vput p.1 = vput n) (fun p => p.1) (n, []) ⟨Nat.le_refl _, rfl⟩
    ((Le.nilvec (α := UInt8) U8c 3 16 5 1 rfl rfl rfl).trans (Le.sub [16] ⟨rfl, rfl, trivial⟩ rfl)) ?_
  rintro ⟨m, l⟩ ⟨hm, hl⟩
  simp only at hm hl
  have h10 := vput_len10 hn
  rw [← hl, List.length_append] at h10
  repeat (first | refine sc rfl ?_ | refine so rfl ?_ | refine sb rfl ?_)
  refine C_if rfl (fun h => ?_) (fun h => ?_) <;> simp only [decide_eq_true_eq, decide_eq_false_iff_not] at h
  · have hb : IntKind.u8.wrap (m : Int) = ((UInt8.ofNat m).toNat : Int) := by rw [byte_of (by omega), u8wrap (by omega) (by omega)]
    refine sc rfl ?_
    refine sc rfl ?_
    repeat (first | refine so rfl ?_)
    rw [hb]
    repeat (first | refine sb rfl ?_)
    refine O_push U8c l (UInt8.ofNat m) [(0, U64 (m : Int))] rfl rfl rfl rfl rfl rfl rfl rfl rfl rfl ⟨rfl, trivial⟩ rfl rfl (by omega) (by simp only [maxLen]; omega) ?_
    repeat (first | refine sc rfl ?_ | refine so rfl ?_ | refine sb rfl ?_)
    refine O_text (l ++ [UInt8.ofNat m]) rfl rfl rfl rfl rfl (by rw [List.length_append, List.length_singleton]; omega) rfl ?_
    repeat (first | refine sc rfl ?_ | refine so rfl ?_ | refine sb rfl ?_)
    exact ⟨_, rfl, rfl, by rw [← hl, vput_lt (by omega)]⟩
  · repeat (first | refine sc rfl ?_ | refine so rfl ?_)
    rw [or128, ← byte_of (show m % 128 + 128 < 256 by omega)]
    repeat (first | refine sb rfl ?_)
    refine O_push U8c l (UInt8.ofNat (m % 128 + 128)) [(0, U64 (m : Int))] rfl rfl rfl rfl rfl rfl rfl rfl rfl rfl ⟨rfl, trivial⟩ rfl rfl (by omega) (by simp only [maxLen]; omega) ?_
    repeat (first | refine sc rfl ?_ | refine so rfl ?_ | refine ⟨by decide, ?_⟩)
    have e1 : (m : Int).fdiv (2 ^ min (Int.toNat 7) IntKind.u64.bits) = ((m / 128 : Nat) : Int) := by
      rw [show (2 : Int) ^ min (Int.toNat 7) IntKind.u64.bits = 128 by decide, Int.fdiv_eq_ediv_of_nonneg _ (by decide)]
      omega
    rw [e1]
    repeat (first | refine sc rfl ?_ | refine so rfl ?_)
    exact ⟨(m / 128, l ++ [UInt8.ofNat (m % 128 + 128)]), ⟨by omega, by rw [← hl, vput_ge (show ¬ m < 128 by omega), List.append_assoc]; rfl⟩, by simp only; omega, Le.sub [16] ⟨rfl, rfl, trivial⟩ rfl⟩
end Go.Proofs

/- Contracts, part fourteen: the document's frame.Put; which kinds are known. -/
set_option linter.unusedSimpArgs false
set_option linter.unusedVariables false
namespace Go.Proofs
open Go.Sy

theorem known_p (k : Int) : FnP Tryd.prog 70 [I64 k] (· = B (decide (1 ≤ k ∧ k ≤ 9))) := by
  refine FnP.intro Tryd.tabOK Tryd.wide_ Tryd.func70 rfl (by decide) rfl (fun X => ?_)
  repeat (first | refine sc rfl ?_ | refine so rfl ?_ | refine sb rfl ?_)
  refine O_case 5 rfl (fun h => ?_) (fun h => ?_)
  · repeat (first | refine sc rfl ?_ | refine so rfl ?_ | refine sb rfl ?_)
    refine ⟨_, rfl, rfl, congrArg B ?_⟩
    simp at h
    simp [h]
  · repeat (first | refine sc rfl ?_ | refine so rfl ?_ | refine sb rfl ?_)
    refine ⟨_, rfl, rfl, congrArg B ?_⟩
    simp at h
    simp; omega

/-- A frame's bytes. -/
def b8 (n : Int) : UInt8 := UInt8.ofNat (IntKind.u8.wrap n).toNat
def fputL (k fl : Int) (b : List UInt8) : List UInt8 := if 1 ≤ k ∧ k ≤ 9 ∧ 0 ≤ fl ∧ fl ≤ 255 ∧ b.length ≤ 1024 then [b8 k, b8 fl, b8 (b.length / 256), b8 b.length] ++ b else []
def fputE (k fl : Int) (b : List UInt8) : Int := if ¬ (1 ≤ k ∧ k ≤ 9) then 4 else if ¬ (0 ≤ fl ∧ fl ≤ 255) then 1 else if 1024 < b.length then 3 else 0

theorem refPut05_p (k fl : Int) (b : List UInt8) (hb : b.length ≤ 9223372036854775807) : FnP Tryd.prog 79 [.agg [I64 k, I64 fl, .s b]] (· = .tup [.s (fputL k fl b), I64 (fputE k fl b)]) := by
  refine FnP.intro Tryd.tabOK Tryd.wide_ Tryd.func79 rfl (by decide) rfl (fun X => ?_)
  repeat (first | refine sc rfl ?_ | refine so rfl ?_ | refine sb rfl ?_)
  refine O_join ⟨[(1, .bp 1 0), (2, .s []), (3, I64 0), (12, B (decide (k < 1 ∨ 9 < k)))], [.box 1 58 [I64 k, I64 fl, .s b]]⟩ ?_ (fun s h => C_le _ h ?_)
  · refine O_case 8 rfl (fun h => ?_) (fun h => ?_) <;> simp at h
    · repeat (first | refine sc rfl ?_ | refine so rfl ?_ | refine sb rfl ?_)
      exact Le.sub [1] ⟨rfl, rfl, rfl, congrArg (fun x => some (B x)) (by rw [Bool.eq_iff_iff]; simp; omega), trivial⟩ rfl
    · repeat (first | refine sc rfl ?_ | refine so rfl ?_ | refine sb rfl ?_)
      exact Le.sub [1] ⟨rfl, rfl, rfl, congrArg (fun x => some (B x)) (by rw [Bool.eq_iff_iff]; simp; omega), trivial⟩ rfl
  refine C_if rfl (fun h1 => ?_) (fun h1 => ?_) <;> simp only [decide_eq_true_eq, decide_eq_false_iff_not] at h1
  · repeat (first | refine sc rfl ?_ | refine so rfl ?_ | refine sb rfl ?_)
    refine ⟨_, rfl, rfl, ?_⟩
    rw [fputL, fputE, if_neg (by omega), if_pos (by omega)]
  repeat (first | refine sc rfl ?_ | refine so rfl ?_ | refine sb rfl ?_)
  refine O_join ⟨[(1, .bp 1 0), (2, .s []), (3, I64 0), (20, B (decide (fl < 0 ∨ 255 < fl)))], [.box 1 58 [I64 k, I64 fl, .s b]]⟩ ?_ (fun s h => C_le _ h ?_)
  · refine O_case 16 rfl (fun h => ?_) (fun h => ?_) <;> simp at h
    · repeat (first | refine sc rfl ?_ | refine so rfl ?_ | refine sb rfl ?_)
      exact Le.sub [1] ⟨rfl, rfl, rfl, congrArg (fun x => some (B x)) (by rw [Bool.eq_iff_iff]; simp; omega), trivial⟩ rfl
    · repeat (first | refine sc rfl ?_ | refine so rfl ?_ | refine sb rfl ?_)
      exact Le.sub [1] ⟨rfl, rfl, rfl, congrArg (fun x => some (B x)) (by rw [Bool.eq_iff_iff]; simp; omega), trivial⟩ rfl
  refine C_if rfl (fun h2 => ?_) (fun h2 => ?_) <;> simp only [decide_eq_true_eq, decide_eq_false_iff_not] at h2
  · repeat (first | refine sc rfl ?_ | refine so rfl ?_ | refine sb rfl ?_)
    refine ⟨_, rfl, rfl, ?_⟩
    rw [fputL, fputE, if_neg (by omega), if_neg (by omega), if_pos (by omega)]
  repeat (first | refine sc rfl ?_ | refine so rfl ?_ | refine sb rfl ?_)
  refine C_if rfl (fun h3 => ?_) (fun h3 => ?_) <;> simp only [decide_eq_true_eq, decide_eq_false_iff_not] at h3
  · repeat (first | refine sc rfl ?_ | refine so rfl ?_ | refine sb rfl ?_)
    refine ⟨_, rfl, rfl, ?_⟩
    rw [fputL, fputE, if_neg (by omega), if_neg (by omega), if_neg (by omega), if_pos (by omega)]
  have e0 : fputE k fl b = 0 := by rw [fputE, if_neg (by omega), if_neg (by omega), if_neg (by omega)]
  have e1 : fputL k fl b = [b8 k, b8 fl, b8 (b.length / 256), b8 b.length] ++ b := by rw [fputL, if_pos (by omega)]
  rw [e0, e1]
  repeat (first | refine sc rfl ?_ | refine so rfl ?_ | refine sb rfl ?_)
  refine C_drawD rfl (by kernel_rfl) ?_
  repeat (first | refine sd rfl ?_)
  refine D_call (Byte_p k) rfl rfl rfl rfl ?_
  repeat (first | refine sd rfl ?_)
  refine D_call (Byte_p fl) rfl rfl rfl rfl ?_
  repeat (first | refine sd rfl ?_ | refine ⟨by simp only [List.length_singleton]; omega, ?_⟩ | refine ⟨by decide, ?_⟩)
  rw [quo64 (a := (b.length : Int)) (b := 256) (by omega) (by omega) (by omega)]
  refine D_call (Byte_p ((b.length : Int) / 256)) rfl rfl rfl rfl ?_
  repeat (first | refine sd rfl ?_ | refine ⟨by simp only [List.length_append, List.length_singleton]; omega, ?_⟩ | refine ⟨by decide, ?_⟩)
  refine D_call (Byte_p ((b.length : Int).tmod 256)) rfl rfl rfl rfl ?_
  rw [rem256]
  repeat (first | refine sd rfl ?_ | refine ⟨by simp only [List.length_append, List.length_singleton]; omega, ?_⟩)
  repeat (first | refine sc rfl ?_)
  exact ⟨_, rfl, rfl, rfl⟩
end Go.Proofs

/- Contracts, part fifteen: frame.Put. -/
set_option linter.unusedSimpArgs false
set_option linter.unusedVariables false
namespace Go.Proofs
open Go.Sy

theorem Put84_p (k fl : Int) (b : List UInt8) (hb : b.length ≤ 9223372036854775807) : FnP Tryd.prog 41 [.agg [I64 k, I64 fl, .s b]] (· = .tup [.s (fputL k fl b), I64 (fputE k fl b)]) := by
  refine FnP.intro Tryd.tabOK Tryd.wide_ Tryd.func41 rfl (by decide) rfl (fun X => ?_)
  repeat (first | refine sc rfl ?_ | refine so rfl ?_ | refine sb rfl ?_ | refine C_scope ?_)
  refine O_call (known_p k) (by rfl) (by rfl) (by rfl) (by rfl) (fun r hr => ?_)
  subst hr
  repeat (first | refine sc rfl ?_ | refine so rfl ?_ | refine sb rfl ?_)
  refine C_if rfl (fun h1 => ?_) (fun h1 => ?_) <;> simp only [Bool.not_eq_true', Bool.not_eq_false', decide_eq_true_eq, decide_eq_false_iff_not] at h1
  · repeat (first | refine sc rfl ?_ | refine so rfl ?_ | refine sb rfl ?_)
    refine ⟨_, rfl, rfl, ?_⟩
    rw [fputL, fputE, if_neg (by omega), if_pos (by omega)]
  repeat (first | refine sc rfl ?_ | refine so rfl ?_ | refine sb rfl ?_)
  refine O_join ⟨[(1, .bp 1 0), (2, .s []), (3, I64 0), (4, I64 (b.length : Int)), (14, B (decide (fl < 0 ∨ 255 < fl)))], [.box 1 58 [I64 k, I64 fl, .s b]]⟩ ?_ (fun s h => C_le _ h ?_)
  · refine O_case 18 rfl (fun h => ?_) (fun h => ?_) <;> simp at h
    · repeat (first | refine sc rfl ?_ | refine so rfl ?_ | refine sb rfl ?_)
      exact Le.sub [1] ⟨rfl, rfl, rfl, rfl, congrArg (fun x => some (B x)) (by rw [Bool.eq_iff_iff]; simp; omega), trivial⟩ rfl
    · repeat (first | refine sc rfl ?_ | refine so rfl ?_ | refine sb rfl ?_)
      exact Le.sub [1] ⟨rfl, rfl, rfl, rfl, congrArg (fun x => some (B x)) (by rw [Bool.eq_iff_iff]; simp; omega), trivial⟩ rfl
  refine C_if rfl (fun h2 => ?_) (fun h2 => ?_) <;> simp only [decide_eq_true_eq, decide_eq_false_iff_not] at h2
  · repeat (first | refine sc rfl ?_ | refine so rfl ?_ | refine sb rfl ?_)
    refine ⟨_, rfl, rfl, ?_⟩
    rw [fputL, fputE, if_neg (by omega), if_neg (by omega), if_pos (by omega)]
  repeat (first | refine sc rfl ?_ | refine so rfl ?_ | refine sb rfl ?_)
  refine C_if rfl (fun h3 => ?_) (fun h3 => ?_) <;> simp only [decide_eq_true_eq, decide_eq_false_iff_not] at h3
  · repeat (first | refine sc rfl ?_ | refine so rfl ?_ | refine sb rfl ?_)
    refine ⟨_, rfl, rfl, ?_⟩
    rw [fputL, fputE, if_neg (by omega), if_neg (by omega), if_neg (by omega), if_pos (by omega)]
  have e0 : fputE k fl b = 0 := by rw [fputE, if_neg (by omega), if_neg (by omega), if_neg (by omega)]
  have e1 : fputL k fl b = [b8 k, b8 fl, b8 (b.length / 256), b8 b.length] ++ b := by rw [fputL, if_pos (by omega)]
  rw [e0, e1]
  repeat (first | refine sc rfl ?_ | refine so rfl ?_ | refine sb rfl ?_ | refine ⟨by decide, ?_⟩)
  refine C_le _ (Le.freezebox 5 rfl rfl rfl) ?_
  refine C_drawD rfl (by kernel_rfl) ?_
  repeat (first | refine sd rfl ?_ | refine sda rfl ?_ | refine sdv rfl ?_ | refine ⟨by simp only [List.length_map, List.length_cons, List.length_nil]; omega, ?_⟩)
  repeat (first | refine sc rfl ?_)
  refine ⟨_, rfl, rfl, ?_⟩
  rw [show (2 : Int) ^ min (Int.toNat 8) IntKind.i64.bits = 256 by decide, Int.fdiv_eq_ediv_of_nonneg _ (by decide)]
  rfl
end Go.Proofs

/- Contracts, part sixteen: reply. -/
set_option linter.unusedSimpArgs false
set_option linter.unusedVariables false
namespace Go.Proofs
open Go.Sy

abbrev row3 (x y z : List UInt8) : AV := .sl 3 1 (chunkRow 1 [.s x, .s y, .s z])

theorem Join_p (x y z : List UInt8) (h : x.length + y.length + z.length ≤ 140737488355328) : FnP Tryd.prog 69 [row3 x y z, .s []] (· = .s (x ++ y ++ z)) := by
  refine ⟨⟨_, Tryd.func69, rfl, by decide⟩, fun G w cargs him hr => ?_⟩
  simp only [RepIT, RepI] at hr
  obtain ⟨v0, zs, rfl, ⟨aa, c, rfl, hc, ha⟩, v1, zs1, rfl, rfl, rfl⟩ := hr
  rcases ha with ha | ⟨b, o, rfl, ha⟩
  · omega
  have hcell : ∀ (j : Nat) (u : List UInt8), j < 3 → (chunkRow 1 [AV.s x, AV.s y, AV.s z]) j = [.s u] → w.cell? ⟨b, o + j, none⟩ = some (S u) := by
    intro j u hj he
    have h1 := ha j hj
    rw [he] at h1
    simp only [CellsAt, RepI] at h1
    obtain ⟨⟨q, q1, q2, _⟩, _⟩ := h1
    have := him b _ q q1
    rw [q2] at this
    rw [Nat.mul_one] at this
    exact this
  have c0 := hcell 0 x (by omega) rfl
  have hj := Tryd.strings_Join b o c [⟨x.toArray⟩, ⟨y.toArray⟩, ⟨z.toArray⟩] ⟨#[]⟩ w (fun j u hu => by
    match j, hu with
    | 0, hu => simp at hu; subst hu; exact c0
    | 1, hu => simp at hu; subst hu; exact hcell 1 y (by omega) rfl
    | 2, hu => simp at hu; subst hu; exact hcell 2 z (by omega) rfl
    | j + 3, hu => simp at hu) (block_lt_of_cell c0) (by simp only [List.length_cons, List.length_nil]; omega) hc (by simp [Lib.join]; omega)
  refine (show Calls Tryd.prog 69 _ w _ from hj).mono ?_
  rintro e w' ⟨rfl, hb⟩
  refine ⟨_, _, G, rfl, rfl, ?_, IM.le_refl _, fun b o u hu => .inl hu, fun b o u hu => ?_, hb⟩
  · simp [RepI, S, Lib.join]
  · have h1 := him b o u hu
    have h2 := Go.block_lt_of_cell h1
    simp only [World.cell?] at h1 ⊢
    rw [hb.block b h2]
    exact h1

theorem row_p (x y z : List UInt8) (h : x.length + y.length + z.length ≤ 140737488355328) : FnP Tryd.prog 39 [row3 x y z] (· = .s (x ++ y ++ z)) := by
  refine FnP.intro Tryd.tabOK Tryd.wide_ Tryd.func39 rfl (by decide) rfl (fun X => ?_)
  repeat (first | refine sc rfl ?_ | refine so rfl ?_ | refine sb rfl ?_)
  refine O_call (Join_p x y z h) (by rfl) (by rfl) (by rfl) (by rfl) (fun r hr => ?_)
  subst hr
  repeat (first | refine sc rfl ?_ | refine so rfl ?_ | refine sb rfl ?_)
  exact ⟨_, rfl, rfl, rfl⟩

theorem bounded_p (e : Int) : FnP Tryd.prog 38 [I64 e] (· = B (decide (0 ≤ e ∧ e ≤ 1048576))) := by
  refine FnP.intro Tryd.tabOK Tryd.wide_ Tryd.func38 rfl (by decide) rfl (fun X => ?_)
  repeat (first | refine sc rfl ?_ | refine so rfl ?_ | refine sb rfl ?_)
  refine O_case 5 rfl (fun h => ?_) (fun h => ?_)
  · repeat (first | refine sc rfl ?_ | refine so rfl ?_ | refine sb rfl ?_)
    refine ⟨_, rfl, rfl, congrArg B ?_⟩
    simp at h
    simp [h]
  · repeat (first | refine sc rfl ?_ | refine so rfl ?_ | refine sb rfl ?_)
    refine ⟨_, rfl, rfl, congrArg B ?_⟩
    simp at h
    simp; omega

theorem Long_p (n : Int) : FnP Tryd.prog 29 [I64 n] (· = B (decide (1011 < n))) := by
  refine FnP.intro Tryd.tabOK Tryd.wide_ Tryd.func29 rfl (by decide) rfl (fun X => ?_)
  repeat (first | refine sc rfl ?_ | refine so rfl ?_ | refine sb rfl ?_)
  refine O_call Most_p (by rfl) (by rfl) (by rfl) (by rfl) (fun r hr => ?_)
  subst hr
  repeat (first | refine sc rfl ?_ | refine so rfl ?_ | refine sb rfl ?_)
  exact ⟨_, rfl, rfl, congrArg B (by rw [show IntKind.i64.wrap (1022 - 11) = 1011 by decide])⟩

theorem ours35_p (id st : Int) (d : List UInt8) : FnP Tryd.prog 25 [.agg [U64 id, I64 st, .s d]] (· = .agg [U64 id, I64 st, .s d]) := by
  refine FnP.intro Tryd.tabOK Tryd.wide_ Tryd.func25 rfl (by decide) rfl (fun X => ?_)
  repeat (first | refine sc rfl ?_ | refine so rfl ?_ | refine sb rfl ?_)
  exact ⟨_, rfl, rfl, rfl⟩
end Go.Proofs

/- Contracts, part seventeen: reply.Put, and the document's. -/
set_option linter.unusedSimpArgs false
set_option linter.unusedVariables false
namespace Go.Proofs
open Go.Sy

def rp (n : Nat) (st : Int) (d : List UInt8) : List UInt8 := vput st.toNat ++ vput n ++ d
def rputL (n : Nat) (st : Int) (d : List UInt8) : List UInt8 := if 0 ≤ st ∧ st ≤ 1048576 then (if clsE (rp n st d).length = 0 then fputL 9 0 (padL (rp n st d)) else []) else []
def rputE (n : Nat) (st : Int) (d : List UInt8) : Int := if 0 ≤ st ∧ st ≤ 1048576 then (if clsE (rp n st d).length = 0 then fputE 9 0 (padL (rp n st d)) else 3) else 1

theorem padL_len (s : List UInt8) : (padL s).length ≤ 4096 := by
  unfold padL
  split
  · have := cls_bd (n := (s.length : Int)) (by omega) (by omega)
    rw [List.length_append, List.length_append, List.length_replicate, show (hd2 (s.length : Int)).length = 2 from rfl]
    omega
  · simp

theorem rPut_p (n : Nat) (st : Int) (d : List UInt8) (hn : n < 18446744073709551616) (hd : d.length ≤ 140737488355308) : FnP Tryd.prog 24 [.agg [U64 (n : Int), I64 st, .s d]] (· = .tup [.s (rputL n st d), I64 (rputE n st d)]) := by
  refine FnP.intro Tryd.tabOK Tryd.wide_ Tryd.func24 rfl (by decide) rfl (fun X => ?_)
  repeat (first | refine sc rfl ?_ | refine so rfl ?_ | refine sb rfl ?_)
  refine O_call (bounded_p st) (by rfl) (by rfl) (by rfl) (by rfl) (fun r hr => ?_)
  subst hr
  repeat (first | refine sc rfl ?_ | refine so rfl ?_ | refine sb rfl ?_)
  refine C_if rfl (fun h1 => ?_) (fun h1 => ?_) <;> simp only [Bool.not_eq_true', Bool.not_eq_false', decide_eq_true_eq, decide_eq_false_iff_not] at h1
  · repeat (first | refine sc rfl ?_ | refine so rfl ?_ | refine sb rfl ?_)
    exact ⟨_, rfl, rfl, by rw [rputL, rputE, if_neg h1, if_neg h1]⟩
  have l1 := vput_len10 (n := st.toNat) (by omega)
  have l2 := vput_len10 hn
  have hrp : (rp n st d).length = (vput st.toNat).length + (vput n).length + d.length := by unfold rp; rw [List.length_append, List.length_append]
  rw [rputL, rputE, if_pos h1, if_pos h1]
  repeat (first | refine sc rfl ?_ | refine so rfl ?_ | refine sb rfl ?_)
  refine C_drawD rfl (by kernel_rfl) ?_
  repeat (first | refine sd rfl ?_)
  rw [show IntKind.u64.wrap st = ((st.toNat : Nat) : Int) by rw [u64wrap (by omega) (by omega)]; omega]
  refine D_call (Put83_p st.toNat (by omega)) rfl rfl rfl rfl ?_
  repeat (first | refine sd rfl ?_)
  refine D_call (Put83_p n hn) rfl rfl rfl rfl ?_
  repeat (first | refine sd rfl ?_)
  refine sds rfl ?_
  refine D_call (row_p (vput st.toNat) (vput n) d (by omega)) rfl rfl rfl rfl ?_
  rw [show vput st.toNat ++ vput n ++ d = rp n st d from rfl]
  refine D_call (Pad_p (rp n st d) (by omega)) rfl rfl rfl rfl ?_
  repeat (first | refine sd rfl ?_ | refine sc rfl ?_ | refine so rfl ?_)
  have lp := padL_len (rp n st d)
  generalize rp n st d = q at *
  refine C_if rfl (fun h2 => ?_) (fun h2 => ?_)
  · have h3 : ¬ clsE q.length = 0 := by simpa using h2
    repeat (first | refine sc rfl ?_ | refine so rfl ?_ | refine sb rfl ?_)
    exact ⟨_, rfl, rfl, by rw [if_neg h3, if_neg h3]⟩
  · have h3 : clsE q.length = 0 := by simpa using h2
    rw [if_pos h3, if_pos h3]
    repeat (first | refine sc rfl ?_ | refine so rfl ?_ | refine sb rfl ?_)
    refine O_call (Put84_p 9 0 (padL q) (by omega)) (by rfl) (by rfl) (by rfl) (by rfl) (fun r hr => ?_)
    subst hr
    repeat (first | refine sc rfl ?_ | refine so rfl ?_ | refine sb rfl ?_)
    exact ⟨_, rfl, rfl, rfl⟩

theorem refrPut_p (n : Nat) (st : Int) (d : List UInt8) (hn : n < 18446744073709551616) (hd : d.length ≤ 140737488355308) : FnP Tryd.prog 51 [.agg [U64 (n : Int), I64 st, .s d]] (· = .tup [.s (rputL n st d), I64 (rputE n st d)]) := by
  refine FnP.intro Tryd.tabOK Tryd.wide_ Tryd.func51 rfl (by decide) rfl (fun X => ?_)
  repeat (first | refine sc rfl ?_ | refine so rfl ?_ | refine sb rfl ?_)
  refine O_join ⟨[(1, .bp 1 0), (2, .s []), (3, I64 0), (13, B (decide (¬ (0 ≤ st ∧ st ≤ 1048576))))], [.box 1 33 [U64 (n : Int), I64 st, .s d]]⟩ ?_ (fun s h => C_le _ h ?_)
  · refine O_case 9 rfl (fun h => ?_) (fun h => ?_) <;> simp at h
    · repeat (first | refine sc rfl ?_ | refine so rfl ?_ | refine sb rfl ?_)
      exact Le.sub [1] ⟨rfl, rfl, rfl, congrArg (fun x => some (B x)) (by rw [Bool.eq_iff_iff]; simp; omega), trivial⟩ rfl
    · repeat (first | refine sc rfl ?_ | refine so rfl ?_ | refine sb rfl ?_)
      exact Le.sub [1] ⟨rfl, rfl, rfl, congrArg (fun x => some (B x)) (by rw [Bool.eq_iff_iff]; simp; omega), trivial⟩ rfl
  refine C_if rfl (fun h1 => ?_) (fun h1 => ?_) <;> simp only [decide_eq_true_eq, decide_eq_false_iff_not, Decidable.not_not] at h1
  · repeat (first | refine sc rfl ?_ | refine so rfl ?_ | refine sb rfl ?_)
    exact ⟨_, rfl, rfl, by rw [rputL, rputE, if_neg h1, if_neg h1]⟩
  have l1 := vput_len10 (n := st.toNat) (by omega)
  have l2 := vput_len10 hn
  have hrp : (rp n st d).length = (vput st.toNat).length + (vput n).length + d.length := by unfold rp; rw [List.length_append, List.length_append]
  rw [rputL, rputE, if_pos h1, if_pos h1]
  repeat (first | refine sc rfl ?_ | refine so rfl ?_ | refine sb rfl ?_)
  refine C_drawD rfl (by kernel_rfl) ?_
  repeat (first | refine sd rfl ?_)
  rw [show IntKind.u64.wrap st = ((st.toNat : Nat) : Int) by rw [u64wrap (by omega) (by omega)]; omega]
  refine D_call (refPut01_p st.toNat (by omega)) rfl rfl rfl rfl ?_
  repeat (first | refine sd rfl ?_)
  refine D_call (refPut01_p n hn) rfl rfl rfl rfl ?_
  repeat (first | refine sd rfl ?_ | refine ⟨by first | omega | (rw [List.length_append]; omega), ?_⟩)
  rw [show vput st.toNat ++ vput n ++ d = rp n st d from rfl]
  refine D_call (refPad_p (rp n st d) (by omega)) rfl rfl rfl rfl ?_
  repeat (first | refine sd rfl ?_ | refine sc rfl ?_ | refine so rfl ?_)
  have lp := padL_len (rp n st d)
  generalize rp n st d = q at *
  refine C_if rfl (fun h2 => ?_) (fun h2 => ?_)
  · have h3 : ¬ clsE q.length = 0 := by simpa using h2
    repeat (first | refine sc rfl ?_ | refine so rfl ?_ | refine sb rfl ?_)
    exact ⟨_, rfl, rfl, by rw [if_neg h3, if_neg h3]⟩
  · have h3 : clsE q.length = 0 := by simpa using h2
    rw [if_pos h3, if_pos h3]
    repeat (first | refine sc rfl ?_ | refine so rfl ?_ | refine sb rfl ?_)
    refine O_call (refPut05_p 9 0 (padL q) (by omega)) (by rfl) (by rfl) (by rfl) (by rfl) (fun r hr => ?_)
    subst hr
    repeat (first | refine sc rfl ?_ | refine so rfl ?_ | refine sb rfl ?_)
    exact ⟨_, rfl, rfl, rfl⟩
end Go.Proofs

/- Contracts, part eighteen: reply.Fail, and the law ReplyPuts. -/
set_option linter.unusedSimpArgs false
set_option linter.unusedVariables false
namespace Go.Proofs
open Go.Sy

def rfail (n : Nat) (st : Int) : List UInt8 := rputL n (if 0 ≤ st ∧ st ≤ 1048576 then st else 1) []

theorem rFail_p (n : Nat) (st : Int) (hn : n < 18446744073709551616) : FnP Tryd.prog 30 [U64 (n : Int), I64 st] (· = .s (rfail n st)) := by
  refine FnP.intro Tryd.tabOK Tryd.wide_ Tryd.func30 rfl (by decide) rfl (fun X => ?_)
  repeat (first | refine sc rfl ?_ | refine so rfl ?_ | refine sb rfl ?_)
  refine O_call (bounded_p st) (by rfl) (by rfl) (by rfl) (by rfl) (fun r hr => ?_)
  subst hr
  repeat (first | refine sc rfl ?_ | refine so rfl ?_ | refine sb rfl ?_)
  refine C_ifJ ⟨[(0, U64 (n : Int)), (1, I64 (if 0 ≤ st ∧ st ≤ 1048576 then st else 1))], []⟩ rfl (fun h1 => ?_) (fun h1 => ?_) (fun s' h => C_le _ h ?_)
  · have h2 : ¬ (0 ≤ st ∧ st ≤ 1048576) := by simp at h1; omega
    repeat (first | refine sc rfl ?_ | refine so rfl ?_ | refine sb rfl ?_)
    exact Le.sub [] ⟨rfl, by rw [if_neg h2]; rfl, trivial⟩ rfl
  · have h2 : 0 ≤ st ∧ st ≤ 1048576 := by simp at h1; omega
    repeat (first | refine sc rfl ?_ | refine so rfl ?_ | refine sb rfl ?_)
    exact Le.sub [] ⟨rfl, by rw [if_pos h2]; rfl, trivial⟩ rfl
  repeat (first | refine sc rfl ?_ | refine so rfl ?_ | refine sb rfl ?_)
  refine O_call (rPut_p n (if 0 ≤ st ∧ st ≤ 1048576 then st else 1) [] hn (by decide)) (by rfl) (by rfl) (by rfl) (by rfl) (fun r hr => ?_)
  subst hr
  repeat (first | refine sc rfl ?_ | refine so rfl ?_ | refine sb rfl ?_)
  exact ⟨_, rfl, rfl, rfl⟩

theorem rfail1 : rfail 1 0 = [9, 0, 0, 32, 0, 2, 0, 1, 0, 0, 0, 0, 0, 0, 0, 0, 0, 0, 0, 0, 0, 0, 0, 0, 0, 0, 0, 0, 0, 0, 0, 0, 0, 0, 0, 0] := by
  have e : rp 1 0 [] = [0, 1] := by unfold rp; rw [show (0 : Int).toNat = 0 from rfl, vput_lt (by decide), vput_lt (by decide)]; rfl
  unfold rfail
  rw [if_pos (by decide)]
  unfold rputL
  rw [e]
  decide

theorem awake35_p : FnP Tryd.prog 26 [] (· = B true) := by
  refine FnP.intro Tryd.tabOK Tryd.wide_ Tryd.func26 rfl (by decide) rfl (fun X => ?_)
  repeat (first | refine sc rfl ?_ | refine so rfl ?_ | refine sb rfl ?_)
  refine O_call (rFail_p 1 0 (by decide)) (by rfl) (by rfl) (by rfl) (by rfl) (fun r hr => ?_)
  subst hr
  rw [rfail1]
  repeat (first | refine sc rfl ?_ | refine so rfl ?_ | refine sb rfl ?_ | refine ⟨by decide, ?_⟩)
  exact ⟨_, rfl, rfl, rfl⟩
end Go.Proofs
