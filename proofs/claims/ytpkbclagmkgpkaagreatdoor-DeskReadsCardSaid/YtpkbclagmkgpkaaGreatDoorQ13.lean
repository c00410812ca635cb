/- The document's answer's bytes, shapes, words taken. -/
import Derived.Test.YtpkbclagmkgpkaaGreatDoorQ12
import Derived.Test.YtpkbclagmkgpkaaGreatDoorQ5
import Derived.Test.YtpkbclagmkgpkaaGreatDoorQ2
import Derived.ScopeJumps
import Derived.Test.YtpkbclagmkgpkaaGreatDoorQ8
import Derived.Test.YtpkbclagmkgpkaaGreatDoorQ9
import Derived.Test.YtpkbclagmkgpkaaGreatDoorQ7
import Derived.Test.YtpkbclagmkgpkaaGreatDoorQ11
set_option linter.unusedSimpArgs false
set_option linter.unusedVariables false
set_option maxRecDepth 100000
namespace Go.Proofs
open Go.Sy Go.Lib

def figN (x : UInt8) : Nat := if dg x < 0 then 16 else (dg x).toNat
theorem figN_fin : ∀ n : Fin 256, figN (UInt8.ofNat n.val) = if 48 ≤ n.val ∧ n.val ≤ 57 then n.val - 48 else if 97 ≤ n.val ∧ n.val ≤ 102 then n.val - 97 + 10 else 16 := by decide +kernel
theorem figN_eq (x : UInt8) : figN x = if 48 ≤ x.toNat ∧ x.toNat ≤ 57 then x.toNat - 48 else if 97 ≤ x.toNat ∧ x.toNat ≤ 102 then x.toNat - 97 + 10 else 16 := by
  have h := figN_fin ⟨x.toNat, UInt8.toNat_lt x⟩
  simpa using h
theorem rFig_c (x : UInt8) : FnP Tryz.prog 118 [.v (.int .u8 (x.toNat : Int))] (· = I64 (figN x : Nat)) := by
  refine FnP.intro Tryz.tabOK Tryz.wide_ Tryz.func118 rfl (by decide) rfl (fun X => ?_)
  have hx := UInt8.toNat_lt x
  rw [figN_eq]
  repeat (first | refine sc rfl ?_ | refine so rfl ?_)
  refine O_case 5 rfl (fun k1 => ?_) (fun k1 => ?_) <;> simp only [pL] at k1
  · repeat refine so rfl ?_
    refine C_if rfl (fun k2 => ?_) (fun k2 => ?_) <;> simp only [pL] at k2
    · rw [if_pos (by omega)]
      repeat (first | refine sc rfl ?_ | refine so rfl ?_)
      rw [show IntKind.i64.wrap (IntKind.u8.wrap ((x.toNat : Int) - 48)) = ((x.toNat - 48 : Nat) : Int) from by rw [u8_s (by omega) (by omega), w64 (by omega) (by omega)]; omega]
      exact ⟨_, rfl, rfl, rfl⟩
    rw [if_neg (by omega)]
    repeat (first | refine sc rfl ?_ | refine so rfl ?_)
    refine O_case 14 rfl (fun k3 => ?_) (fun k3 => ?_) <;> simp only [pL] at k3
    · repeat refine so rfl ?_
      refine C_if rfl (fun k4 => ?_) (fun k4 => ?_) <;> simp only [pL] at k4
      · rw [if_pos (by omega)]
        repeat (first | refine sc rfl ?_ | refine so rfl ?_)
        rw [show IntKind.i64.wrap (IntKind.i64.wrap (IntKind.u8.wrap ((x.toNat : Int) - 97)) + 10) = ((x.toNat - 97 + 10 : Nat) : Int) from by rw [u8_s (by omega) (by omega), w64 (x := (x.toNat : Int) - 97) (by omega) (by omega), w64 (by omega) (by omega)]; omega]
        exact ⟨_, rfl, rfl, rfl⟩
      · rw [if_neg (by omega)]
        repeat (first | refine sc rfl ?_ | refine so rfl ?_)
        exact ⟨_, rfl, rfl, rfl⟩
    · rw [if_neg (by omega)]
      repeat refine so rfl ?_
      refine C_false rfl rfl ?_
      repeat (first | refine sc rfl ?_ | refine so rfl ?_)
      exact ⟨_, rfl, rfl, rfl⟩
  · rw [if_neg (by omega)]
    repeat refine so rfl ?_
    refine C_false rfl rfl ?_
    repeat (first | refine sc rfl ?_ | refine so rfl ?_)
    refine O_case 14 rfl (fun k3 => ?_) (fun k3 => ?_) <;> simp only [pL] at k3
    · repeat refine so rfl ?_
      refine C_if rfl (fun k4 => ?_) (fun k4 => ?_) <;> simp only [pL] at k4
      · rw [if_pos (by omega)]
        repeat (first | refine sc rfl ?_ | refine so rfl ?_)
        rw [show IntKind.i64.wrap (IntKind.i64.wrap (IntKind.u8.wrap ((x.toNat : Int) - 97)) + 10) = ((x.toNat - 97 + 10 : Nat) : Int) from by rw [u8_s (by omega) (by omega), w64 (x := (x.toNat : Int) - 97) (by omega) (by omega), w64 (by omega) (by omega)]; omega]
        exact ⟨_, rfl, rfl, rfl⟩
      · rw [if_neg (by omega)]
        repeat (first | refine sc rfl ?_ | refine so rfl ?_)
        exact ⟨_, rfl, rfl, rfl⟩
    · rw [if_neg (by omega)]
      repeat refine so rfl ?_
      refine C_false rfl rfl ?_
      repeat (first | refine sc rfl ?_ | refine so rfl ?_)
      exact ⟨_, rfl, rfl, rfl⟩
def mostF (x : UInt8) : Nat := if x = 67 then 15 else if x = 87 then 1048576 else if x = 79 then 8 else 18446744073709551615
theorem rMost_c (x : UInt8) : FnP Tryz.prog 74 [.v (.int .u8 (x.toNat : Int))] (· = U64 (mostF x : Nat)) := by
  refine FnP.intro Tryz.tabOK Tryz.wide_ Tryz.func74 rfl (by decide) rfl (fun X => ?_)
  have h : ∀ c : UInt8, ((x.toNat : Nat) : Int) = ((c.toNat : Nat) : Int) → x = c := fun c h => UInt8.toNat_inj.1 (by omega)
  repeat (first | refine sc rfl ?_ | refine so rfl ?_)
  refine C_if rfl (fun k1 => ?_) (fun k1 => ?_) <;> simp only [pL] at k1
  · obtain rfl := h 67 k1
    repeat (first | refine sc rfl ?_ | refine so rfl ?_)
    exact ⟨_, rfl, rfl, rfl⟩
  repeat (first | refine sc rfl ?_ | refine so rfl ?_)
  refine C_if rfl (fun k2 => ?_) (fun k2 => ?_) <;> simp only [pL] at k2
  · obtain rfl := h 87 k2
    repeat (first | refine sc rfl ?_ | refine so rfl ?_)
    exact ⟨_, rfl, rfl, rfl⟩
  repeat (first | refine sc rfl ?_ | refine so rfl ?_)
  refine C_if rfl (fun k3 => ?_) (fun k3 => ?_) <;> simp only [pL] at k3
  · obtain rfl := h 79 k3
    repeat (first | refine sc rfl ?_ | refine so rfl ?_)
    exact ⟨_, rfl, rfl, rfl⟩
  repeat (first | refine sc rfl ?_ | refine so rfl ?_)
  rw [show mostF x = 18446744073709551615 from by
    unfold mostF
    rw [if_neg (fun e => k1 (by rw [e]; rfl)), if_neg (fun e => k2 (by rw [e]; rfl)), if_neg (fun e => k3 (by rw [e]; rfl))]]
  exact ⟨_, rfl, rfl, rfl⟩
def shapeF (w : List UInt8) : Option (List UInt8) :=
  if w = [111, 112, 101, 110] ∨ w = [116, 105, 99, 107] ∨ w = [115, 101, 114, 118, 101] then some [] else
  if w = [107, 101, 121] ∨ w = [100, 114, 97, 119] then some [78] else
  if w = [100, 101, 108, 105, 118, 101, 114] ∨ w = [114, 101, 115, 101, 116] ∨ w = [98, 111, 115, 115] ∨ w = [112, 105, 110, 103] then some [67] else
  if w = [114, 97, 119] then some [67, 70] else
  if w = [104, 101, 108, 108, 111] then some [67, 79, 87, 78] else
  if w = [99, 97, 108, 108] ∨ w = [111, 110, 101, 119, 97, 121] then some [67, 78, 87, 87, 70] else
  if w = [99, 97, 110, 99, 101, 108] then some [67, 78] else
  if w = [115, 99, 104, 101, 109, 97] then some [67, 78, 84] else
  if w = [98, 105, 110, 100] then some [67, 78, 87, 83, 83, 87] else
  if w = [99, 114, 101, 97, 116, 101] ∨ w = [113, 117, 111, 116, 97] then some [67, 78, 79, 87, 87, 87, 87, 87, 87, 87, 87, 87] else
  if w = [115, 117, 115, 112, 101, 110, 100] ∨ w = [114, 101, 115, 117, 109, 101] ∨ w = [100, 101, 108, 101, 116, 101] ∨ w = [114, 101, 107, 101, 121] then some [67, 78, 79] else
  none
theorem rShape_c (w : List UInt8) : FnP Tryz.prog 34 [.s w] (· = .tup [.s ((shapeF w).getD []), B (shapeF w).isSome]) := by
  refine FnP.intro Tryz.tabOK Tryz.wide_ Tryz.func34 rfl (by decide) rfl (fun X => ?_)
  repeat (first | refine sc rfl ?_ | refine so rfl ?_)
  refine C_if rfl (fun k1 => ?_) (fun k1 => ?_) <;> simp only [pL] at k1
  · subst k1
    repeat refine sc rfl ?_
    refine C_true rfl rfl ?_
    repeat (first | refine sc rfl ?_ | refine so rfl ?_)
    exact ⟨_, rfl, rfl, rfl⟩
  repeat (first | refine sc rfl ?_ | refine so rfl ?_)
  refine C_if rfl (fun k2 => ?_) (fun k2 => ?_) <;> simp only [pL] at k2
  · subst k2
    repeat refine sc rfl ?_
    refine C_true rfl rfl ?_
    repeat (first | refine sc rfl ?_ | refine so rfl ?_)
    exact ⟨_, rfl, rfl, rfl⟩
  repeat (first | refine sc rfl ?_ | refine so rfl ?_)
  refine C_if rfl (fun k3 => ?_) (fun k3 => ?_) <;> simp only [pL] at k3
  · subst k3
    repeat (first | refine sc rfl ?_ | refine so rfl ?_)
    exact ⟨_, rfl, rfl, rfl⟩
  repeat (first | refine sc rfl ?_ | refine so rfl ?_)
  refine C_if rfl (fun k4 => ?_) (fun k4 => ?_) <;> simp only [pL] at k4
  · subst k4
    repeat refine sc rfl ?_
    refine C_true rfl rfl ?_
    repeat (first | refine sc rfl ?_ | refine so rfl ?_)
    exact ⟨_, rfl, rfl, rfl⟩
  repeat (first | refine sc rfl ?_ | refine so rfl ?_)
  refine C_if rfl (fun k5 => ?_) (fun k5 => ?_) <;> simp only [pL] at k5
  · subst k5
    repeat (first | refine sc rfl ?_ | refine so rfl ?_)
    exact ⟨_, rfl, rfl, rfl⟩
  repeat (first | refine sc rfl ?_ | refine so rfl ?_)
  refine C_if rfl (fun k6 => ?_) (fun k6 => ?_) <;> simp only [pL] at k6
  · subst k6
    repeat refine sc rfl ?_
    refine C_true rfl rfl ?_
    repeat (first | refine sc rfl ?_ | refine so rfl ?_)
    exact ⟨_, rfl, rfl, rfl⟩
  repeat (first | refine sc rfl ?_ | refine so rfl ?_)
  refine C_if rfl (fun k7 => ?_) (fun k7 => ?_) <;> simp only [pL] at k7
  · subst k7
    repeat refine sc rfl ?_
    refine C_true rfl rfl ?_
    repeat (first | refine sc rfl ?_ | refine so rfl ?_)
    exact ⟨_, rfl, rfl, rfl⟩
  repeat (first | refine sc rfl ?_ | refine so rfl ?_)
  refine C_if rfl (fun k8 => ?_) (fun k8 => ?_) <;> simp only [pL] at k8
  · subst k8
    repeat refine sc rfl ?_
    refine C_true rfl rfl ?_
    repeat (first | refine sc rfl ?_ | refine so rfl ?_)
    exact ⟨_, rfl, rfl, rfl⟩
  repeat (first | refine sc rfl ?_ | refine so rfl ?_)
  refine C_if rfl (fun k9 => ?_) (fun k9 => ?_) <;> simp only [pL] at k9
  · subst k9
    repeat (first | refine sc rfl ?_ | refine so rfl ?_)
    exact ⟨_, rfl, rfl, rfl⟩
  repeat (first | refine sc rfl ?_ | refine so rfl ?_)
  refine C_if rfl (fun k10 => ?_) (fun k10 => ?_) <;> simp only [pL] at k10
  · subst k10
    repeat (first | refine sc rfl ?_ | refine so rfl ?_)
    exact ⟨_, rfl, rfl, rfl⟩
  repeat (first | refine sc rfl ?_ | refine so rfl ?_)
  refine C_if rfl (fun k11 => ?_) (fun k11 => ?_) <;> simp only [pL] at k11
  · subst k11
    repeat (first | refine sc rfl ?_ | refine so rfl ?_)
    exact ⟨_, rfl, rfl, rfl⟩
  repeat (first | refine sc rfl ?_ | refine so rfl ?_)
  refine C_if rfl (fun k12 => ?_) (fun k12 => ?_) <;> simp only [pL] at k12
  · subst k12
    repeat refine sc rfl ?_
    refine C_true rfl rfl ?_
    repeat (first | refine sc rfl ?_ | refine so rfl ?_)
    exact ⟨_, rfl, rfl, rfl⟩
  repeat (first | refine sc rfl ?_ | refine so rfl ?_)
  refine C_if rfl (fun k13 => ?_) (fun k13 => ?_) <;> simp only [pL] at k13
  · subst k13
    repeat (first | refine sc rfl ?_ | refine so rfl ?_)
    exact ⟨_, rfl, rfl, rfl⟩
  repeat (first | refine sc rfl ?_ | refine so rfl ?_)
  refine C_if rfl (fun k14 => ?_) (fun k14 => ?_) <;> simp only [pL] at k14
  · subst k14
    repeat (first | refine sc rfl ?_ | refine so rfl ?_)
    exact ⟨_, rfl, rfl, rfl⟩
  repeat (first | refine sc rfl ?_ | refine so rfl ?_)
  refine C_if rfl (fun k15 => ?_) (fun k15 => ?_) <;> simp only [pL] at k15
  · subst k15
    repeat (first | refine sc rfl ?_ | refine so rfl ?_)
    exact ⟨_, rfl, rfl, rfl⟩
  repeat (first | refine sc rfl ?_ | refine so rfl ?_)
  refine C_if rfl (fun k16 => ?_) (fun k16 => ?_) <;> simp only [pL] at k16
  · subst k16
    repeat (first | refine sc rfl ?_ | refine so rfl ?_)
    exact ⟨_, rfl, rfl, rfl⟩
  repeat (first | refine sc rfl ?_ | refine so rfl ?_)
  refine C_if rfl (fun k17 => ?_) (fun k17 => ?_) <;> simp only [pL] at k17
  · subst k17
    repeat refine sc rfl ?_
    refine C_true rfl rfl ?_
    repeat (first | refine sc rfl ?_ | refine so rfl ?_)
    exact ⟨_, rfl, rfl, rfl⟩
  repeat (first | refine sc rfl ?_ | refine so rfl ?_)
  refine C_if rfl (fun k18 => ?_) (fun k18 => ?_) <;> simp only [pL] at k18
  · subst k18
    repeat (first | refine sc rfl ?_ | refine so rfl ?_)
    exact ⟨_, rfl, rfl, rfl⟩
  repeat (first | refine sc rfl ?_ | refine so rfl ?_)
  refine C_if rfl (fun k19 => ?_) (fun k19 => ?_) <;> simp only [pL] at k19
  · subst k19
    repeat refine sc rfl ?_
    refine C_true rfl rfl ?_
    repeat (first | refine sc rfl ?_ | refine so rfl ?_)
    exact ⟨_, rfl, rfl, rfl⟩
  repeat (first | refine sc rfl ?_ | refine so rfl ?_)
  refine C_if rfl (fun k20 => ?_) (fun k20 => ?_) <;> simp only [pL] at k20
  · subst k20
    repeat refine sc rfl ?_
    refine C_true rfl rfl ?_
    repeat (first | refine sc rfl ?_ | refine so rfl ?_)
    exact ⟨_, rfl, rfl, rfl⟩
  repeat (first | refine sc rfl ?_ | refine so rfl ?_)
  refine C_if rfl (fun k21 => ?_) (fun k21 => ?_) <;> simp only [pL] at k21
  · subst k21
    repeat refine sc rfl ?_
    refine C_true rfl rfl ?_
    repeat (first | refine sc rfl ?_ | refine so rfl ?_)
    exact ⟨_, rfl, rfl, rfl⟩
  repeat (first | refine sc rfl ?_ | refine so rfl ?_)
  refine C_if rfl (fun k22 => ?_) (fun k22 => ?_) <;> simp only [pL] at k22
  · subst k22
    repeat (first | refine sc rfl ?_ | refine so rfl ?_)
    exact ⟨_, rfl, rfl, rfl⟩
  repeat (first | refine sc rfl ?_ | refine so rfl ?_)
  rw [show shapeF w = none from by unfold shapeF; simp only [k1, k2, k3, k4, k5, k6, k7, k8, k9, k10, k11, k12, k13, k14, k15, k16, k17, k18, k19, k20, k21, k22, or_self, if_false]]
  exact ⟨_, rfl, rfl, rfl⟩
def rBytF (w : List UInt8) : List UInt8 × Bool := if w = [45] then ([], true) else if w = [] ∨ w.length % 2 ≠ 0 then ([], false) else match hexL w with
  | none => ([], false)
  | some a => (a, true)
theorem rByt_c (w : List UInt8) (hw : w.length ≤ 1000000) : FnP Tryz.prog 72 [.s w] (· = .tup [.s (rBytF w).1, B (rBytF w).2]) := by
  refine FnP.intro Tryz.tabOK Tryz.wide_ Tryz.func72 rfl (by decide) rfl (fun X => ?_)
  unfold rBytF
  repeat (first | refine sc rfl ?_ | refine so rfl ?_)
  refine C_if rfl (fun k1 => ?_) (fun k1 => ?_) <;> simp only [pL] at k1
  · rw [if_pos k1]
    repeat (first | refine sc rfl ?_ | refine so rfl ?_)
    exact ⟨_, rfl, rfl, rfl⟩
  rw [if_neg k1]
  refine sc rfl ?_
  refine C_seq (C_joinP (¬ (w = [] ∨ w.length % 2 ≠ 0)) ⟨[(0, .s w)], []⟩ ?_ (fun hb s0 hs0 => C_le _ hs0 ?_))
  · repeat (first | refine sc rfl ?_ | refine so rfl ?_)
    refine O_case 12 rfl (fun k2 => ?_) (fun k2 => ?_) <;> simp only [pL] at k2
    · repeat refine so rfl ?_
      refine C_true rfl rfl ?_
      repeat (first | refine sc rfl ?_ | refine so rfl ?_)
      rw [if_pos (.inl k2)]
      exact ⟨_, rfl, rfl, rfl⟩
    repeat refine so rfl ?_
    refine ⟨by decide, ?_⟩
    rw [show ((w.length : Nat) : Int).tmod 2 = ((w.length % 2 : Nat) : Int) from (Int.ofNat_tmod _ 2).symm]
    repeat refine so rfl ?_
    refine C_if rfl (fun k3 => ?_) (fun k3 => ?_) <;> simp only [pL] at k3
    · repeat (first | refine sc rfl ?_ | refine so rfl ?_)
      rw [if_pos (.inr (by omega))]
      exact ⟨_, rfl, rfl, rfl⟩
    · repeat refine sc rfl ?_
      exact ⟨by rintro (h | h); exact k2 h; omega, Le.pick [] ⟨rfl, trivial⟩ rfl⟩
  rw [if_neg hb]
  have hev : w.length % 2 = 0 := by
    rcases Nat.mod_two_eq_zero_or_one w.length with h | h
    · exact h
    · exact absurd (.inr (by omega)) hb
  repeat (first | refine sc rfl ?_ | refine so rfl ?_)
  refine C_loop (fun q : Nat × List UInt8 => ⟨[(0, .s w), (4, .s q.2), (5, I64 (q.1 : Nat))], []⟩) (fun q => q.1 ≤ w.length ∧ q.1 % 2 = 0 ∧ q.2.length ≤ q.1 ∧ hexL w = (hexL (w.drop q.1)).map (q.2 ++ ·)) (fun q => w.length - q.1) (0, []) ⟨Nat.zero_le _, rfl, Nat.le_refl _, by simp⟩ ?_ ?_
  · exact Le.pick [] ⟨rfl, rfl, rfl, trivial⟩ rfl
  rintro ⟨i, acc⟩ ⟨hi, hi2, hacc, hinv⟩
  simp only [] at hi hi2 hacc hinv
  repeat (first | refine sc rfl ?_ | refine so rfl ?_)
  refine C_if rfl (fun m1 => ?_) (fun m1 => ?_) <;> simp only [pL] at m1
  · have hil : i + 1 < w.length := by omega
    obtain ⟨x, hxe⟩ : ∃ x, w.getD i 0 = x := ⟨_, rfl⟩
    obtain ⟨y, hye⟩ : ∃ y, w.getD (i + 1) 0 = y := ⟨_, rfl⟩
    have hxg : w[i] = x := by rw [← hxe, List.getD_eq_getElem?_getD, List.getElem?_eq_getElem (by omega)]; rfl
    have hyg : w[i + 1] = y := by rw [← hye, List.getD_eq_getElem?_getD, List.getElem?_eq_getElem hil]; rfl
    have hdr : w.drop i = x :: y :: w.drop (i + 2) := by
      rw [List.drop_eq_getElem_cons (by omega), List.drop_eq_getElem_cons hil, hxg, hyg]
    have hfig : (15 < figN x ∨ 15 < figN y) → (dg x < 0 ∨ dg y < 0) := fun h => by
      have hx := dg_le x
      have hy := dg_le y
      unfold figN at h
      rcases h with h | h
      · split at h
        · left; assumption
        · omega
      · split at h
        · right; assumption
        · omega
    repeat (first | refine sc rfl ?_ | refine so rfl ?_)
    refine ⟨⟨by omega, by omega⟩, ?_⟩
    simp only [Int.toNat_natCast, hxe]
    repeat refine sc rfl ?_
    refine O_call (rFig_c x) (by rfl) (by rfl) (by rfl) (by rfl) (fun r hr => ?_)
    subst hr
    repeat (first | refine sc rfl ?_ | refine so rfl ?_)
    rw [w64 (x := (i : Int) + 1) (by omega) (by omega)]
    refine ⟨⟨by omega, by omega⟩, ?_⟩
    rw [show ((i : Int) + 1).toNat = i + 1 by omega]
    simp only [hye]
    repeat refine sc rfl ?_
    refine O_call (rFig_c y) (by rfl) (by rfl) (by rfl) (by rfl) (fun r hr => ?_)
    subst hr
    repeat (first | refine sc rfl ?_ | refine so rfl ?_)
    refine O_case 35 rfl (fun m2 => ?_) (fun m2 => ?_) <;> simp only [pL] at m2
    · repeat refine so rfl ?_
      refine C_true rfl rfl ?_
      repeat (first | refine sc rfl ?_ | refine so rfl ?_)
      rw [show hexL w = none from by rw [hinv, hdr]; unfold hexL; rw [if_pos (hfig (by omega))]; rfl]
      exact ⟨_, rfl, rfl, rfl⟩
    repeat refine so rfl ?_
    refine C_if rfl (fun m3 => ?_) (fun m3 => ?_) <;> simp only [pL] at m3
    · repeat (first | refine sc rfl ?_ | refine so rfl ?_)
      rw [show hexL w = none from by rw [hinv, hdr]; unfold hexL; rw [if_pos (hfig (by omega))]; rfl]
      exact ⟨_, rfl, rfl, rfl⟩
    have hnn : ¬ (dg x < 0 ∨ dg y < 0) := fun h => by
      unfold figN at m2 m3
      rcases h with h | h
      · rw [if_pos h] at m2; omega
      · rw [if_pos h] at m3; omega
    have hfx : figN x = (dg x).toNat := by unfold figN; rw [if_neg (fun h => hnn (.inl h))]
    have hfy : figN y = (dg y).toNat := by unfold figN; rw [if_neg (fun h => hnn (.inr h))]
    have hxl := dg_le x
    have hyl := dg_le y
    repeat (first | refine sc rfl ?_ | refine so rfl ?_)
    rw [w64 (x := 16 * ((figN x : Nat) : Int)) (by omega) (by omega), w64 (x := 16 * ((figN x : Nat) : Int) + ((figN y : Nat) : Int)) (by omega) (by omega), show 16 * ((figN x : Nat) : Int) + ((figN y : Nat) : Int) = ((figN x * 16 + figN y : Nat) : Int) by omega]
    refine O_call (rByte_c (figN x * 16 + figN y) (by omega)) (by rfl) (by rfl) (by rfl) (by rfl) (fun r hr => ?_)
    subst hr
    repeat refine so rfl ?_
    refine ⟨by simp only [List.length_cons, List.length_nil]; omega, ?_⟩
    repeat (first | refine sc rfl ?_ | refine so rfl ?_)
    rw [w64 (x := (i : Int) + 2) (by omega) (by omega)]
    refine ⟨(i + 2, acc ++ [UInt8.ofNat (figN x * 16 + figN y)]), ⟨by simp only []; omega, by simp only []; omega, by simp; omega, ?_⟩, by simp only []; omega, Le.pick [] ⟨rfl, rfl, rfl, trivial⟩ rfl⟩
    simp only []
    rw [hinv, hdr]
    conv => lhs; unfold hexL
    rw [if_neg hnn, Option.map_map, show UInt8.ofNat (figN x * 16 + figN y) = hexB x y from by unfold hexB; rw [hfx, hfy]]
    congr 1
    funext z
    simp
  · obtain rfl : i = w.length := by omega
    rw [show hexL w = some acc from by rw [hinv, List.drop_length]; simp [hexL]]
    repeat (first | refine sc rfl ?_ | refine so rfl ?_)
    exact ⟨_, rfl, rfl, rfl⟩
end Go.Proofs

namespace Go.Sy
open Go.RowKit
def Frz (A A' : Abs) : Prop := ∀ (G : IM) (w : World), A.ok G w → (∀ b ∈ A.bs, b < w.heap.size ∧ G.free b) → ∃ G' : IM, IM.le G G' ∧ (∀ b o v, G' b o = some v → G b o = some v ∨ (b ∈ A.bs ∧ w.cell? ⟨b, o, none⟩ = some v)) ∧
  (∀ b x, G'.m b = some x → G.m b = some x ∨ (b ∈ A.bs ∧ MzOK G' w b x)) ∧ A'.ok G' w
theorem frz_vec {h : Value} {t : TypeId} {esz m : Nat} {row row' : Nat → List AV} (hrow : ∀ i, i < m → row' i = row i) : Frz (vecA h t esz m row) (repA (.sl m esz row') h) := by
  rintro G w ⟨xs, g1, g2⟩ hb
  rcases g1.2 with ⟨rfl, rfl⟩ | ⟨g, cap, cur, rfl, _, hg, hcap, hmax, hcs, htake⟩
  · refine ⟨G, IM.le_refl _, fun _ _ _ h => .inl h, fun _ _ h => .inl h, ?_⟩
    simp only [repA, RepI]
    exact ⟨none, 0, rfl, Nat.le_refl _, .inl trivial⟩
  · have hf := hb g (by simp [vecA, Value.ownBlock])
    let G' : IM := ⟨fun b' o' => if b' = g then cur[o']? else G b' o', G.m⟩
    have hle : IM.le G G' := by
      refine ⟨?_, fun _ _ h => h⟩
      intro b' o' v hv
      show (if b' = g then cur[o']? else G b' o') = some v
      rw [if_neg]
      · exact hv
      · rintro rfl; rw [hf.2.1 o'] at hv; cases hv
    refine ⟨G', hle, ?_, fun _ _ h => .inl h, ?_⟩
    · intro b' o' v hv
      have hv' : (if b' = g then cur[o']? else G b' o') = some v := hv
      split at hv'
      · rename_i hbb; subst hbb
        refine .inr ⟨by simp [vecA, Value.ownBlock], ?_⟩
        rw [cell_of_row w b' o' cur t (0, 0) hg]; exact hv'
      · exact .inl hv'
    · simp only [repA, RepI]
      refine ⟨some ⟨g, 0, none⟩, cap, rfl, hcap, .inr ⟨g, 0, rfl, fun i hi => CellsAt.mk (fun j c hc => ?_)⟩⟩
      rw [hrow i hi] at hc
      obtain ⟨z, z1, z2, z3⟩ := (g2 i hi).get j c hc
      have hj : j < esz := by
        rcases Nat.lt_or_ge j esz with h | h
        · exact h
        · rw [List.getElem?_eq_none (by simp; omega)] at z1; cases z1
      have hlt : i * esz + j < m * esz := by
        have : (i + 1) * esz ≤ m * esz := Nat.mul_le_mul_right _ hi
        rw [Nat.add_mul] at this; omega
      rw [List.getElem?_take, if_pos hj, List.getElem?_drop, ← htake, List.getElem?_take, if_pos hlt] at z1
      refine ⟨z, ?_, RepI.mono hle _ z2, z3⟩
      show (if g = g then cur[0 + i * esz + j]? else G g (0 + i * esz + j)) = some z
      rw [if_pos rfl, Nat.zero_add]; simpa using z1
theorem AbsOK.frz {G : IM} {w : World} {A A' : Abs} {cs : List Abs} (hz : Frz A A') (h : AbsOK G w (A :: cs)) (him : ImOK G w) : ∃ G' : IM, IM.le G G' ∧ ImOK G' w ∧ (∀ b o v, G' b o = some v → G b o = some v ∨ b ∈ A.bs) ∧ (∀ b x, G'.m b = some x → G.m b = some x ∨ b ∈ A.bs) ∧ A'.ok G' w ∧ AbsOK G' w cs := by
  have hbl : blocks (A :: cs) = A.bs ++ blocks cs := by simp [blocks]
  obtain ⟨G', g1, g2, g3, g4⟩ := hz G w (h.1 A (List.mem_cons_self ..)) (fun b hb => h.2.2 b (by rw [hbl]; exact List.mem_append_left _ hb))
  refine ⟨G', g1, ⟨?_, ?_⟩, fun b o v hv => (g2 b o v hv).imp id (·.1), fun b x hx => (g3 b x hx).imp id (·.1), g4, ⟨fun B hB => B.keep g1 (fun _ _ => rfl) (h.1 B (List.mem_cons_of_mem _ hB)), ?_, ?_⟩⟩
  · intro b o v hv
    rcases g2 b o v hv with k | k
    · exact him.1 b o v k
    · exact k.2
  · intro b x hx
    rcases g3 b x hx with k | k
    · refine (him.2 b x k).keep g1 rfl (fun o v hv => ?_)
      rcases g2 b o v hv with q | q
      · exact ⟨v, q⟩
      · have := (h.2.2 b (by rw [hbl]; exact List.mem_append_left _ q.1)).2.2; rw [this] at k; cases k
    · exact k.2
  · have := h.2.1
    rw [hbl] at this
    exact (List.nodup_append.1 this).2.1
  · intro b hb
    have h1 := h.2.2 b (by rw [hbl]; exact List.mem_append_right _ hb)
    have hnot : b ∉ A.bs := fun hA => by
      have := h.2.1
      rw [hbl] at this
      exact (List.nodup_append.1 this).2.2 b hA b hb rfl
    refine ⟨h1.1, fun o => ?_, ?_⟩
    · cases hx : G' b o with
      | none => rfl
      | some v =>
        rcases g2 b o v hx with k | k
        · rw [h1.2.1 o] at k; cases k
        · exact absurd k.1 hnot
    · cases hx : G'.m b with
      | none => rfl
      | some v =>
        rcases g3 b v hx with k | k
        · rw [h1.2.2] at k; cases k
        · exact absurd k.1 hnot
theorem FnA.frz2 {P : Program} {f : FuncId} {args : List AV} {post : AV → List Abs → Prop} {t1 t2 e1 e2 m1 m2 : Nat} {row1 row2 : Nat → List AV} {R : AV} (h : FnA P f args [] post)
    (hp : ∀ r cs', post r cs' → ∃ h1 h2, cs' = [vecA h1 t1 e1 m1 row1, vecA h2 t2 e2 m2 row2] ∧ ∀ (G : IM) v, RepI G r v → RepI G (.sl m1 e1 row1) h1 → RepI G (.sl m2 e2 row2) h2 → RepI G R v) : FnP P f args (· = R) := by
  refine ⟨h.1, fun G w c a1 a2 => (h.2 G w c a1 a2 ⟨by simp, by simp [blocks], by simp [blocks]⟩).mono ?_⟩
  rintro e w' ⟨r, cr, cs', G1, hpost, he, g1, g2, g3, g4, g5, g6, o1, o2, o3, o4, o5⟩
  obtain ⟨h1, h2, rfl, hR⟩ := hp r cs' hpost
  obtain ⟨G2, k1, k2, k3, k4, k5, k6⟩ := AbsOK.frz (frz_vec (row' := row1) (fun _ _ => rfl)) g5 g4
  obtain ⟨G3, l1, l2, l3, l4, l5, _⟩ := AbsOK.frz (frz_vec (row' := row2) (fun _ _ => rfl)) k6 k2
  have hb : ∀ b, b ∈ (vecA h1 t1 e1 m1 row1).bs ∨ b ∈ (vecA h2 t2 e2 m2 row2).bs → w.heap.size ≤ b := fun b hb => by
    rcases g6 b (by simp only [blocks, List.flatMap_cons, List.flatMap_nil, List.append_nil, List.mem_append]; exact hb) with q | q
    · exact q
    · simp [blocks] at q
  refine ⟨R, cr, G3, rfl, he, hR G3 cr (RepI.mono (IM.le_trans k1 l1) _ g1) ?_ ?_, IM.le_trans g2 (IM.le_trans k1 l1), ⟨fun b o v hv => ?_, fun b x hx => ?_⟩, l2, ⟨o1, o2, o3, o4, fun k hk hs => o5 k hk (by simp [blocks]) hs⟩⟩
  · have : RepI G2 (.sl m1 e1 row1) h1 := k5
    exact RepI.mono l1 _ this
  · exact l5
  · rcases l3 b o v hv with q | q
    · rcases k3 b o v q with q | q
      · rcases g3.1 b o v q with q | q | q
        · exact .inl q
        · exact .inr q
        · simp [blocks] at q
      · exact .inr (hb b (.inl q))
    · exact .inr (hb b (.inr q))
  · rcases l4 b x hx with q | q
    · rcases k4 b x q with q | q
      · rcases g3.2 b x q with q | q | q
        · exact .inl q
        · exact .inr q
        · simp [blocks] at q
      · exact .inr (hb b (.inl q))
    · exact .inr (hb b (.inr q))
end Go.Sy

namespace Go.Proofs
open Go.Sy Go.Lib

theorem kindWord5_c : FnP Tryz.prog 52 [I64 5] (· = .s [112, 105, 110, 103]) := by
  refine FnP.intro Tryz.tabOK Tryz.wide_ Tryz.func52 rfl (by decide) rfl (fun X => ?_)
  repeat (first|refine sc rfl ?_|refine so rfl ?_|refine sb rfl ?_)
  iterate 4
    refine C_false rfl (by decide) ?_
    repeat (first|refine sc rfl ?_|refine so rfl ?_|refine sb rfl ?_)
  refine C_true rfl (by decide) ?_
  repeat (first|refine sc rfl ?_|refine so rfl ?_|refine sb rfl ?_)
  exact ⟨_, rfl, rfl, rfl⟩
theorem figures0_c : FnP Tryz.prog 89 [.s []] (· = .s [45]) := by
  refine FnP.intro Tryz.tabOK Tryz.wide_ Tryz.func89 rfl (by decide) rfl (fun X => ?_)
  repeat (first|refine sc rfl ?_|refine so rfl ?_|refine sb rfl ?_)
  refine C_true rfl (by decide) ?_
  repeat (first|refine sc rfl ?_|refine so rfl ?_|refine sb rfl ?_)
  exact ⟨_, rfl, rfl, rfl⟩
theorem tell_c (ws : List (List UInt8)) (hl : ws.length ≤ 1000) (h : (Lib.join ws [32]).length ≤ 1000000) : FnP Tryz.prog 20 [SL 1 wc1 ws] (· = .s (Lib.join ws [32] ++ [10])) := by
  refine FnP.intro Tryz.tabOK Tryz.wide_ Tryz.func20 rfl (by decide) rfl (fun X => ?_)
  repeat (first|refine sc rfl ?_|refine so rfl ?_|refine sb rfl ?_)
  refine O_call (join_c ws (by omega) (by omega)) (by rfl) (by rfl) (by rfl) (by rfl) (fun r hr => ?_)
  subst hr
  repeat (first|refine sc rfl ?_|refine so rfl ?_|refine sb rfl ?_)
  refine ⟨by simp only [List.length_cons, List.length_nil]; omega, ?_⟩
  repeat (first|refine sc rfl ?_|refine so rfl ?_|refine sb rfl ?_)
  exact ⟨_, rfl, rfl, rfl⟩
end Go.Proofs

namespace Go.Sy
open Go.RowKit

section
variable {P : Program} {T : Tab} {X : Ctx P T} {n : Nat} {st : St}

theorem C_goto {l : Nat} {Q : Exit → St → Prop} (h : Q (.goto l) st) : SymC X n (.goto l) st Q := fun e _ _ r => wp_goto ⟨e, st, r, h⟩

theorem wp_scope_jumps_ghost {Q : Exit → Act → World → Prop} {a : Act} {w : World} {c rest : Code} (l : Nat) (J : Nat → Act → World → Prop) (hf : findLabel c l = some rest)
    (first : c.wp P (Exit.jump l (fun a w => ∃ k, J k a w) Q) a w)
    (pass : ∀ k a w, J k a w → rest.wp P (Exit.jump l (fun a' w' => ∃ j, j < k ∧ J j a' w') Q) a w) : (Code.scope c).wp P Q a w := by
  intro b k cs
  have hg : gotoIn l (.inScope c :: k) = some (.code rest :: .inScope c :: k) := by simp [gotoIn, hf]
  have key : ∀ n a w, J n a w → ∃ e a' w', Q e a' w' ∧ Arrives P (lone (b.at a (.code rest :: .inScope c :: k)) cs w) b k cs e a' w' := by
    intro n
    induction n using Nat.strongRecOn with
    | _ n ih =>
      intro a w hJ
      obtain ⟨e, a₁, w₁, hq, harr⟩ := pass n a w hJ b (.inScope c :: k) cs
      cases e with
      | normal => exact ⟨.normal, a₁, w₁, hq, Steps.trans harr (.one step_inScope)⟩
      | exit id => exact ⟨.exit id, a₁, w₁, hq, fun k' hk => harr k' (by simp [exitTo, hk])⟩
      | goto l' =>
        obtain ⟨rfl, j, hlt, hJ'⟩ := hq
        obtain ⟨e₂, a₂, w₂, hq₂, harr₂⟩ := ih j hlt a₁ w₁ hJ'
        exact ⟨e₂, a₂, w₂, hq₂, .of_steps (harr _ hg) harr₂⟩
      | ret => exact ⟨_, a₁, w₁, hq, harr⟩
      | panic ch => exact ⟨_, a₁, w₁, hq, harr⟩
      | outgrown => exact ⟨_, a₁, w₁, hq, harr⟩
  obtain ⟨e, a₁, w₁, hq, harr⟩ := first b (.inScope c :: k) cs
  cases e with
  | normal => exact ⟨.normal, a₁, w₁, hq, .head step_scope (Steps.trans harr (.one step_inScope))⟩
  | exit id => exact ⟨.exit id, a₁, w₁, hq, fun k' hk => .head step_scope (harr k' (by simp [exitTo, hk]))⟩
  | goto l' =>
    obtain ⟨rfl, j, hJ'⟩ := hq
    obtain ⟨e₂, a₂, w₂, hq₂, harr₂⟩ := key j a₁ w₁ hJ'
    exact ⟨e₂, a₂, w₂, hq₂, .of_steps (.head step_scope (harr _ hg)) harr₂⟩
  | ret => exact ⟨_, a₁, w₁, hq, .of_steps (.one step_scope) harr⟩
  | panic ch => exact ⟨_, a₁, w₁, hq, .of_steps (.one step_scope) harr⟩
  | outgrown => exact ⟨_, a₁, w₁, hq, .of_steps (.one step_scope) harr⟩

theorem C_jumps {α : Type} {Q : Exit → St → Prop} {c rest : Code} (l : Nat) (hf : findLabel c l = some rest) (S : α → St) (I : α → Prop) (m : α → Nat)
    (first : SymC X n c st (fun ex s => match ex with
      | .goto l' => l' = l ∧ ∃ y, I y ∧ Le X n s (S y)
      | ex => Q ex s))
    (round : ∀ x, I x → SymC X n rest (S x) (fun ex s => match ex with
      | .goto l' => l' = l ∧ ∃ y, I y ∧ m y < m x ∧ Le X n s (S y)
      | ex => Q ex s)) : SymC X n (.scope c) st Q := by
  intro e a w r
  refine wp_scope_jumps_ghost l (fun k a w => ∃ x e, m x = k ∧ I x ∧ Rel X n e (S x) a w) hf ?_ ?_
  · refine Code.wp_mono (fun ex a' w' hc => ?_) (first e a w r)
    cases ex with
    | goto l' =>
      obtain ⟨e', st', h1, h2, y, hy, hle⟩ := hc
      obtain ⟨e2, h3⟩ := hle e' a' w' h1
      exact ⟨h2, m y, y, e2, rfl, hy, h3⟩
    | normal => exact hc
    | exit id => exact hc
    | ret => exact hc
    | panic ch => exact hc
    | outgrown => exact hc
  · rintro k a w ⟨x, e, rfl, hx, r⟩
    refine Code.wp_mono (fun ex a' w' hc => ?_) (round x hx e a w r)
    cases ex with
    | goto l' =>
      obtain ⟨e', st', h1, h2, y, hy, hlt, hle⟩ := hc
      obtain ⟨e2, h3⟩ := hle e' a' w' h1
      exact ⟨h2, m y, hlt, y, e2, rfl, hy, h3⟩
    | normal => exact hc
    | exit id => exact hc
    | ret => exact hc
    | panic ch => exact hc
    | outgrown => exact hc
end
end Go.Sy

namespace Go.Proofs
open Go.Sy Go.Lib

abbrev srvL (s mg tm : Nat) (now : Int) (L : Value) : Abs := boxA s 115 (PT mg 0 :: (z66 ++ [.v L, NM, NS, NS, NS, NS, NS, NS, NS, NS, NS, NS, NM, .v (.map (some tm)), I64 now]))
abbrev lnA (b : Nat) (rest : List UInt8) (e st own : Int) (out : Value) : Abs := boxA b 257 [.s rest, I64 e, I64 st, I64 own, .v out]
abbrev lnsA (h : Value) (b : Nat) : Abs := vecA h 252 1 1 (fun _ => [PT b 0])
abbrev outA (h : Value) (x : List UInt8) : Abs := vecA h 9 1 1 (fun _ => [.s x])
theorem find_A (s mg tm : Nat) (now : Int) (g cc b : Nat) : FnA Tryz.prog 156 [PT s 67, I64 0] [srvL s mg tm now (HD g 1 cc), lnsA (HD g 1 cc) b] (fun r cs' => r = .tup [PT b 0, I64 0] ∧ cs' = [srvL s mg tm now (HD g 1 cc), lnsA (HD g 1 cc) b]) := by
  refine FnA.intro Tryz.tabOK Tryz.wide_ Tryz.func156 rfl (by decide) rfl (fun X => ?_)
  repeat (first | refine sc rfl ?_ | refine so rfl ?_)
  refine O_Xd (X_ptrnil Tryz.underlying251 rfl rfl rfl) ?_
  repeat refine so rfl ?_
  refine O_loadP 0 (reads_box 67) rfl rfl rfl rfl rfl rfl ?_
  repeat refine so rfl ?_
  refine C_false rfl (by decide) ?_
  repeat (first | refine sc rfl ?_ | refine so rfl ?_)
  refine O_loadP 0 (reads_box 67) rfl rfl rfl rfl rfl rfl ?_
  repeat refine so rfl ?_
  refine ⟨by decide, ?_⟩
  repeat refine sc rfl ?_
  refine O_loadP 1 (reads_vec (q := 0) (j := 0) (by decide) rfl) rfl rfl rfl rfl rfl rfl ?_
  repeat (first | refine sc rfl ?_ | refine so rfl ?_)
  exact ⟨_, [_, _], _, rfl, pickA_perm (is := [0, 0]) (As := [_, _]) rfl, rfl, rfl, rfl⟩
theorem takes_A (b : Nat) (rest : List UInt8) (e st own : Int) (out : Value) : FnA Tryz.prog 191 [PT b 0] [lnA b rest e st own out] (fun r cs' => r = B (decide (st < 2)) ∧ cs' = [lnA b rest e st own out]) := by
  refine FnA.intro Tryz.tabOK Tryz.wide_ Tryz.func191 rfl (by decide) rfl (fun X => ?_)
  repeat (first | refine sc rfl ?_ | refine so rfl ?_)
  refine O_loadP 0 (reads_box 2) rfl rfl rfl rfl rfl rfl ?_
  repeat (first | refine sc rfl ?_ | refine so rfl ?_)
  exact ⟨_, [_], _, rfl, pickA_perm (is := [0]) (As := [_]) rfl, rfl, rfl, rfl⟩
theorem owner_A (s mg tm : Nat) (now : Int) (g cc b : Nat) (rest : List UInt8) (e st own : Int) (out : Value) : FnA Tryz.prog 157 [PT s 67, I64 0] [srvL s mg tm now (HD g 1 cc), lnsA (HD g 1 cc) b, lnA b rest e st own out] (fun r cs' => r = I64 own ∧ cs' = [srvL s mg tm now (HD g 1 cc), lnsA (HD g 1 cc) b, lnA b rest e st own out]) := by
  refine FnA.intro Tryz.tabOK Tryz.wide_ Tryz.func157 rfl (by decide) rfl (fun X => ?_)
  repeat (first | refine sc rfl ?_ | refine so rfl ?_)
  refine O_callA [0, 0] (find_A s mg tm now g cc b) (by rfl) (by rfl) (by rfl) (by rfl) (by rfl) ?_
  rintro r' cs' ⟨rfl, rfl⟩
  repeat (first | refine sc rfl ?_ | refine so rfl ?_)
  refine C_false rfl rfl ?_
  repeat (first | refine sc rfl ?_ | refine so rfl ?_)
  refine O_loadP 2 (reads_box 3) rfl rfl rfl rfl rfl rfl ?_
  repeat (first | refine sc rfl ?_ | refine so rfl ?_)
  exact ⟨_, [_, _, _], _, rfl, pickA_perm (is := [0, 0, 0]) (As := [_, _, _]) rfl, rfl, rfl, rfl⟩
theorem open_A (s mg tm : Nat) (now : Int) : FnA Tryz.prog 91 [PT s 67] [srvL s mg tm now (.slice none 0 0)] (fun r cs' => ∃ g cc b, r = .tup [I64 0, I64 0] ∧ cs' = [srvL s mg tm now (HD g 1 cc), lnsA (HD g 1 cc) b, lnA b [] 0 0 (-1) (.slice none 0 0)]) := by
  refine FnA.intro Tryz.tabOK Tryz.wide_ Tryz.func91 rfl (by decide) rfl (fun X => ?_)
  repeat (first | refine sc rfl ?_ | refine so rfl ?_)
  refine O_Xd (X_ptrnil Tryz.underlying251 rfl rfl rfl) ?_
  repeat refine so rfl ?_
  refine C_false rfl rfl ?_
  repeat (first | refine sc rfl ?_ | refine so rfl ?_)
  refine O_loadP 0 (reads_box 67) rfl rfl rfl rfl rfl rfl ?_
  repeat refine so rfl ?_
  refine C_false rfl (by decide) ?_
  repeat (first | refine sc rfl ?_ | refine so rfl ?_)
  refine O_loadP 0 (reads_box 67) rfl rfl rfl rfl rfl rfl ?_
  iterate 2 refine so rfl ?_
  refine O_absb 20 rfl rfl rfl (fun b => ?_)
  repeat refine sb rfl ?_
  refine O_le _ (Le.freeze 21 rfl rfl) ?_
  refine O_le _ (Le.addVec 252 1 (fun _ => [PT b 0])) ?_
  refine O_appendV 0 (m2 := 1) (m3 := 1) (row3 := fun _ => [PT b 0]) rfl rfl rfl rfl rfl rfl (fun i hi => ?_) rfl (by decide) (by decide) rfl (fun i hi => ?_) (fun v' hv' => ?_)
  · obtain rfl : i = 0 := Nat.lt_one_iff.1 hi
    rfl
  · obtain rfl : i = 0 := Nat.lt_one_iff.1 hi
    rfl
  obtain ⟨g, cc, rfl⟩ := hv'.resolve_left (fun h => by simp at h)
  repeat refine so rfl ?_
  refine O_Xn (X_storeP 2 (writes_box (by show 67 < 82; decide)) rfl rfl rfl rfl rfl rfl rfl) ?_
  repeat (first | refine sc rfl ?_ | refine so rfl ?_)
  refine O_loadP 0 (reads_box 67) rfl rfl rfl rfl rfl rfl ?_
  repeat (first | refine sc rfl ?_ | refine so rfl ?_)
  exact ⟨_, [_, _, _], _, rfl, pickA_perm (is := [0, 0, 0]) (As := [_, _, _]) rfl, rfl, g, cc, b, rfl, rfl⟩
theorem vec_cap {g m cc : Nat} {t : TypeId} {esz : Nat} {row : Nat → List AV} {G : IM} {w : World} (h : (vecA (HD g m cc) t esz m row).ok G w) : m ≤ cc := by
  obtain ⟨xs, h1, h2⟩ := h
  rcases h1.2 with ⟨hnil, hm⟩ | ⟨g', cap, cur, hsl, _, hg, hcap, hmax, hcs, htake⟩
  · cases hnil
  · simp only [HD, Value.slice.injEq, Option.some.injEq, Addr.mk.injEq, and_true, true_and] at hsl
    obtain ⟨rfl, h3⟩ := hsl
    omega
theorem shut_A (s mg tm : Nat) (now : Int) (g cc b : Nat) (rest : List UInt8) (e own : Int) (out : Value) : FnA Tryz.prog 136 [PT s 67, I64 0] [srvL s mg tm now (HD g 1 cc), lnsA (HD g 1 cc) b, lnA b rest e 0 own out] (fun r cs' => r = I64 0 ∧ cs' = [srvL s mg tm now (HD g 1 cc), lnsA (HD g 1 cc) b, lnA b rest e 2 own out]) := by
  refine FnA.intro Tryz.tabOK Tryz.wide_ Tryz.func136 rfl (by decide) rfl (fun X => ?_)
  repeat (first | refine sc rfl ?_ | refine so rfl ?_)
  refine O_callA [0, 0] (find_A s mg tm now g cc b) (by rfl) (by rfl) (by rfl) (by rfl) (by rfl) ?_
  rintro r' cs' ⟨rfl, rfl⟩
  repeat (first | refine sc rfl ?_ | refine so rfl ?_)
  refine C_false rfl rfl ?_
  repeat (first | refine sc rfl ?_ | refine so rfl ?_)
  refine O_callA [2] (takes_A b rest e 0 own out) (by rfl) (by rfl) (by rfl) (by rfl) (by rfl) ?_
  rintro r' cs' ⟨rfl, rfl⟩
  repeat refine so rfl ?_
  refine C_false rfl rfl ?_
  repeat (first | refine sc rfl ?_ | refine so rfl ?_)
  refine O_Xn (X_storeP 0 (writes_box (by show 2 < 5; decide)) rfl rfl rfl rfl rfl rfl rfl) ?_
  repeat (first | refine sc rfl ?_ | refine so rfl ?_)
  exact ⟨_, [_, _, _], _, rfl, pickA_perm (is := [1, 1, 0]) (As := [_, _, _]) rfl, rfl, rfl, rfl⟩
theorem send_A (s mg tm : Nat) (now : Int) (g cc b : Nat) (rest x : List UInt8) (e own : Int) : FnA Tryz.prog 96 [PT s 67, I64 0, .s x] [srvL s mg tm now (HD g 1 cc), lnsA (HD g 1 cc) b, lnA b rest e 0 own (.slice none 0 0)] (fun r cs' => ∃ h d, 1 ≤ d ∧ r = I64 0 ∧ cs' = [srvL s mg tm now (HD g 1 cc), lnsA (HD g 1 cc) b, lnA b rest e 0 own (HD h 1 d), outA (HD h 1 d) x]) := by
  refine FnA.intro Tryz.tabOK Tryz.wide_ Tryz.func96 rfl (by decide) rfl (fun X => ?_)
  repeat (first | refine sc rfl ?_ | refine so rfl ?_)
  refine O_callA [0, 0] (find_A s mg tm now g cc b) (by rfl) (by rfl) (by rfl) (by rfl) (by rfl) ?_
  rintro r' cs' ⟨rfl, rfl⟩
  repeat (first | refine sc rfl ?_ | refine so rfl ?_)
  refine C_false rfl rfl ?_
  repeat (first | refine sc rfl ?_ | refine so rfl ?_)
  refine O_loadP 2 (reads_box 2) rfl rfl rfl rfl rfl rfl ?_
  repeat refine so rfl ?_
  refine C_false rfl rfl ?_
  repeat (first | refine sc rfl ?_ | refine so rfl ?_)
  refine O_loadP 2 (reads_box 4) rfl rfl rfl rfl rfl rfl ?_
  repeat (first|refine so rfl ?_|refine sb rfl ?_)
  refine O_le _ (Le.freeze 31 rfl rfl) ?_
  refine O_le _ (Le.addVec 9 1 (fun _ => [.s x])) ?_
  refine O_appendV 0 (m2 := 1) (m3 := 1) (row3 := fun _ => [.s x]) rfl rfl rfl rfl rfl rfl (fun i hi => ?_) rfl (by decide) (by decide) rfl (fun i hi => ?_) (fun v' hv' => ?_)
  · obtain rfl : i = 0 := Nat.lt_one_iff.1 hi
    rfl
  · obtain rfl : i = 0 := Nat.lt_one_iff.1 hi
    rfl
  obtain ⟨h, d, rfl⟩ := hv'.resolve_left (fun h => by simp at h)
  refine O_know 0 (1 ≤ d) rfl (fun G w hok _ => vec_cap hok) (fun hd => ?_)
  repeat refine so rfl ?_
  refine O_Xn (X_storeP 3 (writes_box (by show 4 < 5; decide)) rfl rfl rfl rfl rfl rfl rfl) ?_
  repeat (first | refine sc rfl ?_ | refine so rfl ?_)
  exact ⟨_, [_, _, _, _], _, rfl, pickA_perm (is := [2, 2, 0, 0]) (As := [_, _, _, _]) rfl, rfl, h, d, hd, rfl, rfl⟩
theorem waits_A (s mg tm : Nat) (now : Int) (g cc b : Nat) (rest : List UInt8) (e st own : Int) (a : Option Addr) (m c : Nat) : FnA Tryz.prog 137 [PT s 67, I64 0] [srvL s mg tm now (HD g 1 cc), lnsA (HD g 1 cc) b, lnA b rest e st own (.slice a m c)] (fun r cs' => r = I64 (m : Nat) ∧ cs' = [srvL s mg tm now (HD g 1 cc), lnsA (HD g 1 cc) b, lnA b rest e st own (.slice a m c)]) := by
  refine FnA.intro Tryz.tabOK Tryz.wide_ Tryz.func137 rfl (by decide) rfl (fun X => ?_)
  repeat (first | refine sc rfl ?_ | refine so rfl ?_)
  refine O_callA [0, 0] (find_A s mg tm now g cc b) (by rfl) (by rfl) (by rfl) (by rfl) (by rfl) ?_
  rintro r' cs' ⟨rfl, rfl⟩
  repeat (first | refine sc rfl ?_ | refine so rfl ?_)
  refine C_false rfl rfl ?_
  repeat (first | refine sc rfl ?_ | refine so rfl ?_)
  refine O_loadP 2 (reads_box 4) rfl rfl rfl rfl rfl rfl ?_
  repeat (first | refine sc rfl ?_ | refine so rfl ?_)
  exact ⟨_, [_, _, _], _, rfl, pickA_perm (is := [0, 0, 0]) (As := [_, _, _]) rfl, rfl, rfl, rfl⟩
theorem deliver1_A (s mg tm : Nat) (now : Int) (g cc b : Nat) (rest x : List UInt8) (e own : Int) (h d : Nat) (hd : 1 ≤ d) : FnA Tryz.prog 138 [PT s 67, I64 0] [srvL s mg tm now (HD g 1 cc), lnsA (HD g 1 cc) b, lnA b rest e 2 own (HD h 1 d), outA (HD h 1 d) x] (fun r cs' => ∃ a c, r = .tup [.s x, B false, I64 0] ∧ cs' = [srvL s mg tm now (HD g 1 cc), lnsA (HD g 1 cc) b, lnA b rest e 2 own (.slice a 0 c)]) := by
  refine FnA.intro Tryz.tabOK Tryz.wide_ Tryz.func138 rfl (by decide) rfl (fun X => ?_)
  repeat (first | refine sc rfl ?_ | refine so rfl ?_)
  refine O_callA [0, 0] (find_A s mg tm now g cc b) (by rfl) (by rfl) (by rfl) (by rfl) (by rfl) ?_
  rintro r' cs' ⟨rfl, rfl⟩
  repeat (first | refine sc rfl ?_ | refine so rfl ?_)
  refine C_false rfl rfl ?_
  repeat (first | refine sc rfl ?_ | refine so rfl ?_)
  refine O_loadP 2 (reads_box 2) rfl rfl rfl rfl rfl rfl ?_
  repeat refine so rfl ?_
  refine C_false rfl rfl ?_
  repeat (first | refine sc rfl ?_ | refine so rfl ?_)
  refine O_loadP 2 (reads_box 4) rfl rfl rfl rfl rfl rfl ?_
  repeat refine so rfl ?_
  refine C_true rfl (by decide) ?_
  repeat (first | refine sc rfl ?_ | refine so rfl ?_)
  refine O_loadP 2 (reads_box 4) rfl rfl rfl rfl rfl rfl ?_
  repeat refine so rfl ?_
  refine ⟨by decide, ?_⟩
  repeat refine sc rfl ?_
  refine O_loadP 3 (reads_vec (q := 0) (j := 0) (by decide) rfl) rfl rfl rfl rfl rfl rfl ?_
  repeat (first | refine sc rfl ?_ | refine so rfl ?_)
  refine O_loadP 2 (reads_box 4) rfl rfl rfl rfl rfl rfl ?_
  repeat refine sc rfl ?_
  refine O_Xd (X_sliceFrom (i := 1) (r := 0) rfl rfl rfl rfl rfl rfl (by decide) hd rfl) ?_
  repeat refine so rfl ?_
  refine O_Xn (X_storeP 2 (writes_box (by show 4 < 5; decide)) rfl rfl rfl rfl rfl rfl rfl) ?_
  repeat (first | refine sc rfl ?_ | refine so rfl ?_)
  exact ⟨_, [_, _, _], _, rfl, pickA_perm (is := [1, 1, 0]) (As := [_, _, _]) rfl, rfl, _, _, rfl, rfl⟩
end Go.Proofs

namespace Go.Proofs
open Go.Sy Go.Lib

abbrev rdr (g : Nat) (b : List UInt8) (at_ : Nat) (e : Int) : Abs := boxA g 298 [.s b, I64 (at_ : Nat), I64 e]
def rdAt (at_ k : Nat) (e e2 : Int) : Nat := if e ≠ 0 then at_ else if e2 ≠ 0 then at_ else at_ + k
def rdE (e e2 : Int) : Int := if e ≠ 0 then e else e2
def rdV {α : Type} (z x : α) (e e2 : Int) : α := if e ≠ 0 then z else if e2 ≠ 0 then z else x

theorem takeU_A (g : Nat) (b : List UInt8) (at_ : Nat) (e : Int) (fv : AV) (f : FuncId) (caps : List AV) (k : Nat) (e2 : Int) (x : Int) (hclo : IsClo fv f caps) (himm : fv.imm = true) (hat : at_ ≤ b.length) (hfv : fv = .p (cloRP f caps) ∨ ∃ v, fv = .v v)
    (hf : e = 0 → FnP Tryz.prog f ([.s (b.drop at_)] ++ caps) (· = .tup [U64 x, I64 (k : Nat), I64 e2])) (hk : e = 0 → e2 = 0 → at_ + k ≤ b.length) (hb : b.length ≤ 9223372036854775807) :
    FnA Tryz.prog 202 [PT g 0, fv] [rdr g b at_ e] (fun r cs' => r = U64 (rdV 0 x e e2) ∧ cs' = [rdr g b (rdAt at_ k e e2) (rdE e e2)]) := by
  rcases hfv with rfl | ⟨v, rfl⟩
  · refine FnA.intro Tryz.tabOK Tryz.wide_ Tryz.func202 rfl (by decide) rfl (fun X => ?_)
    repeat (first | refine sc rfl ?_ | refine so rfl ?_)
    refine O_Xd (X_ptrnil Tryz.underlying249 rfl rfl rfl) ?_
    repeat refine so rfl ?_
    refine O_loadP 0 (reads_box 2) rfl rfl rfl rfl rfl rfl ?_
    repeat refine so rfl ?_
    refine C_if rfl (fun h0 => ?_) (fun h0 => ?_) <;> simp only [pL] at h0
    · repeat (first | refine sc rfl ?_ | refine so rfl ?_)
      exact ⟨_, [_], _, rfl, pickA_perm (is := [0]) (As := [_]) rfl, rfl, by unfold rdV; rw [if_pos h0], by unfold rdAt rdE; rw [if_pos h0, if_pos h0]⟩
    subst h0
    repeat refine sc rfl ?_
    refine C_drawD rfl (by kernel_rfl) ?_
    repeat refine sd rfl ?_
    refine D_X (.s b) (X_loadP 0 (A := rdr g b at_ 0) (reads_box 0) rfl rfl rfl rfl rfl rfl) ?_
    repeat refine sd rfl ?_
    refine D_X (I64 (at_ : Nat)) (X_loadP 0 (A := rdr g b at_ 0) (reads_box 1) rfl rfl rfl rfl rfl rfl) ?_
    repeat (first | refine sd rfl ?_ | refine ⟨by omega, ?_⟩)
    rw [Int.toNat_natCast]
    refine D_callV hclo himm (hf rfl) rfl rfl rfl rfl rfl ?_
    repeat refine sd rfl ?_
    repeat (first | refine sc rfl ?_ | refine so rfl ?_)
    refine C_if rfl (fun h1 => ?_) (fun h1 => ?_) <;> simp only [pL] at h1
    · repeat (first | refine sc rfl ?_ | refine so rfl ?_)
      refine O_Xn (X_storeP 0 (writes_box (b := g) (t := 298) (cells := [.s b, I64 (at_ : Nat), I64 0]) (by simp)) rfl rfl rfl rfl rfl rfl rfl) ?_
      repeat (first | refine sc rfl ?_ | refine so rfl ?_)
      exact ⟨_, [_], _, rfl, pickA_perm (is := [0]) (As := [_]) rfl, rfl, by unfold rdV; rw [if_neg (by decide), if_pos h1], by unfold rdAt rdE; rw [if_neg (by decide), if_pos h1, if_neg (by decide)]; rfl⟩
    · subst h1
      have hk' := hk rfl rfl
      repeat (first | refine sc rfl ?_ | refine so rfl ?_)
      refine O_loadP 0 (reads_box 1) rfl rfl rfl rfl rfl rfl ?_
      repeat refine so rfl ?_
      rw [w64 (x := (at_ : Int) + (k : Int)) (by omega) (by omega)]
      refine O_Xn (X_storeP 0 (writes_box (b := g) (t := 298) (cells := [.s b, I64 (at_ : Nat), I64 0]) (by simp)) rfl rfl rfl rfl rfl rfl rfl) ?_
      repeat (first | refine sc rfl ?_ | refine so rfl ?_)
      exact ⟨_, [_], _, rfl, pickA_perm (is := [0]) (As := [_]) rfl, rfl, by unfold rdV; rw [if_neg (by decide), if_neg (by decide)], by unfold rdAt rdE; rw [if_neg (by decide), if_neg (by decide), if_neg (by decide)]; rfl⟩
  · refine FnA.intro Tryz.tabOK Tryz.wide_ Tryz.func202 rfl (by decide) rfl (fun X => ?_)
    repeat (first | refine sc rfl ?_ | refine so rfl ?_)
    refine O_Xd (X_ptrnil Tryz.underlying249 rfl rfl rfl) ?_
    repeat refine so rfl ?_
    refine O_loadP 0 (reads_box 2) rfl rfl rfl rfl rfl rfl ?_
    repeat refine so rfl ?_
    refine C_if rfl (fun h0 => ?_) (fun h0 => ?_) <;> simp only [pL] at h0
    · repeat (first | refine sc rfl ?_ | refine so rfl ?_)
      exact ⟨_, [_], _, rfl, pickA_perm (is := [0]) (As := [_]) rfl, rfl, by unfold rdV; rw [if_pos h0], by unfold rdAt rdE; rw [if_pos h0, if_pos h0]⟩
    subst h0
    repeat refine sc rfl ?_
    refine C_drawD rfl (by kernel_rfl) ?_
    repeat refine sd rfl ?_
    refine D_X (.s b) (X_loadP 0 (A := rdr g b at_ 0) (reads_box 0) rfl rfl rfl rfl rfl rfl) ?_
    repeat refine sd rfl ?_
    refine D_X (I64 (at_ : Nat)) (X_loadP 0 (A := rdr g b at_ 0) (reads_box 1) rfl rfl rfl rfl rfl rfl) ?_
    repeat (first | refine sd rfl ?_ | refine ⟨by omega, ?_⟩)
    rw [Int.toNat_natCast]
    refine D_callV hclo himm (hf rfl) rfl rfl rfl rfl rfl ?_
    repeat refine sd rfl ?_
    repeat (first | refine sc rfl ?_ | refine so rfl ?_)
    refine C_if rfl (fun h1 => ?_) (fun h1 => ?_) <;> simp only [pL] at h1
    · repeat (first | refine sc rfl ?_ | refine so rfl ?_)
      refine O_Xn (X_storeP 0 (writes_box (b := g) (t := 298) (cells := [.s b, I64 (at_ : Nat), I64 0]) (by simp)) rfl rfl rfl rfl rfl rfl rfl) ?_
      repeat (first | refine sc rfl ?_ | refine so rfl ?_)
      exact ⟨_, [_], _, rfl, pickA_perm (is := [0]) (As := [_]) rfl, rfl, by unfold rdV; rw [if_neg (by decide), if_pos h1], by unfold rdAt rdE; rw [if_neg (by decide), if_pos h1, if_neg (by decide)]; rfl⟩
    · subst h1
      have hk' := hk rfl rfl
      repeat (first | refine sc rfl ?_ | refine so rfl ?_)
      refine O_loadP 0 (reads_box 1) rfl rfl rfl rfl rfl rfl ?_
      repeat refine so rfl ?_
      rw [w64 (x := (at_ : Int) + (k : Int)) (by omega) (by omega)]
      refine O_Xn (X_storeP 0 (writes_box (b := g) (t := 298) (cells := [.s b, I64 (at_ : Nat), I64 0]) (by simp)) rfl rfl rfl rfl rfl rfl rfl) ?_
      repeat (first | refine sc rfl ?_ | refine so rfl ?_)
      exact ⟨_, [_], _, rfl, pickA_perm (is := [0]) (As := [_]) rfl, rfl, by unfold rdV; rw [if_neg (by decide), if_neg (by decide)], by unfold rdAt rdE; rw [if_neg (by decide), if_neg (by decide), if_neg (by decide)]; rfl⟩

theorem takeI_A (g : Nat) (b : List UInt8) (at_ : Nat) (e : Int) (fv : AV) (f : FuncId) (caps : List AV) (k : Nat) (e2 : Int) (x : Int) (hclo : IsClo fv f caps) (himm : fv.imm = true) (hat : at_ ≤ b.length) (hfv : fv = .p (cloRP f caps) ∨ ∃ v, fv = .v v)
    (hf : e = 0 → FnP Tryz.prog f ([.s (b.drop at_)] ++ caps) (· = .tup [I64 x, I64 (k : Nat), I64 e2])) (hk : e = 0 → e2 = 0 → at_ + k ≤ b.length) (hb : b.length ≤ 9223372036854775807) :
    FnA Tryz.prog 199 [PT g 0, fv] [rdr g b at_ e] (fun r cs' => r = I64 (rdV 0 x e e2) ∧ cs' = [rdr g b (rdAt at_ k e e2) (rdE e e2)]) := by
  rcases hfv with rfl | ⟨v, rfl⟩
  · refine FnA.intro Tryz.tabOK Tryz.wide_ Tryz.func199 rfl (by decide) rfl (fun X => ?_)
    repeat (first | refine sc rfl ?_ | refine so rfl ?_)
    refine O_Xd (X_ptrnil Tryz.underlying249 rfl rfl rfl) ?_
    repeat refine so rfl ?_
    refine O_loadP 0 (reads_box 2) rfl rfl rfl rfl rfl rfl ?_
    repeat refine so rfl ?_
    refine C_if rfl (fun h0 => ?_) (fun h0 => ?_) <;> simp only [pL] at h0
    · repeat (first | refine sc rfl ?_ | refine so rfl ?_)
      exact ⟨_, [_], _, rfl, pickA_perm (is := [0]) (As := [_]) rfl, rfl, by unfold rdV; rw [if_pos h0], by unfold rdAt rdE; rw [if_pos h0, if_pos h0]⟩
    subst h0
    repeat refine sc rfl ?_
    refine C_drawD rfl (by kernel_rfl) ?_
    repeat refine sd rfl ?_
    refine D_X (.s b) (X_loadP 0 (A := rdr g b at_ 0) (reads_box 0) rfl rfl rfl rfl rfl rfl) ?_
    repeat refine sd rfl ?_
    refine D_X (I64 (at_ : Nat)) (X_loadP 0 (A := rdr g b at_ 0) (reads_box 1) rfl rfl rfl rfl rfl rfl) ?_
    repeat (first | refine sd rfl ?_ | refine ⟨by omega, ?_⟩)
    rw [Int.toNat_natCast]
    refine D_callV hclo himm (hf rfl) rfl rfl rfl rfl rfl ?_
    repeat refine sd rfl ?_
    repeat (first | refine sc rfl ?_ | refine so rfl ?_)
    refine C_if rfl (fun h1 => ?_) (fun h1 => ?_) <;> simp only [pL] at h1
    · repeat (first | refine sc rfl ?_ | refine so rfl ?_)
      refine O_Xn (X_storeP 0 (writes_box (b := g) (t := 298) (cells := [.s b, I64 (at_ : Nat), I64 0]) (by simp)) rfl rfl rfl rfl rfl rfl rfl) ?_
      repeat (first | refine sc rfl ?_ | refine so rfl ?_)
      exact ⟨_, [_], _, rfl, pickA_perm (is := [0]) (As := [_]) rfl, rfl, by unfold rdV; rw [if_neg (by decide), if_pos h1], by unfold rdAt rdE; rw [if_neg (by decide), if_pos h1, if_neg (by decide)]; rfl⟩
    · subst h1
      have hk' := hk rfl rfl
      repeat (first | refine sc rfl ?_ | refine so rfl ?_)
      refine O_loadP 0 (reads_box 1) rfl rfl rfl rfl rfl rfl ?_
      repeat refine so rfl ?_
      rw [w64 (x := (at_ : Int) + (k : Int)) (by omega) (by omega)]
      refine O_Xn (X_storeP 0 (writes_box (b := g) (t := 298) (cells := [.s b, I64 (at_ : Nat), I64 0]) (by simp)) rfl rfl rfl rfl rfl rfl rfl) ?_
      repeat (first | refine sc rfl ?_ | refine so rfl ?_)
      exact ⟨_, [_], _, rfl, pickA_perm (is := [0]) (As := [_]) rfl, rfl, by unfold rdV; rw [if_neg (by decide), if_neg (by decide)], by unfold rdAt rdE; rw [if_neg (by decide), if_neg (by decide), if_neg (by decide)]; rfl⟩
  · refine FnA.intro Tryz.tabOK Tryz.wide_ Tryz.func199 rfl (by decide) rfl (fun X => ?_)
    repeat (first | refine sc rfl ?_ | refine so rfl ?_)
    refine O_Xd (X_ptrnil Tryz.underlying249 rfl rfl rfl) ?_
    repeat refine so rfl ?_
    refine O_loadP 0 (reads_box 2) rfl rfl rfl rfl rfl rfl ?_
    repeat refine so rfl ?_
    refine C_if rfl (fun h0 => ?_) (fun h0 => ?_) <;> simp only [pL] at h0
    · repeat (first | refine sc rfl ?_ | refine so rfl ?_)
      exact ⟨_, [_], _, rfl, pickA_perm (is := [0]) (As := [_]) rfl, rfl, by unfold rdV; rw [if_pos h0], by unfold rdAt rdE; rw [if_pos h0, if_pos h0]⟩
    subst h0
    repeat refine sc rfl ?_
    refine C_drawD rfl (by kernel_rfl) ?_
    repeat refine sd rfl ?_
    refine D_X (.s b) (X_loadP 0 (A := rdr g b at_ 0) (reads_box 0) rfl rfl rfl rfl rfl rfl) ?_
    repeat refine sd rfl ?_
    refine D_X (I64 (at_ : Nat)) (X_loadP 0 (A := rdr g b at_ 0) (reads_box 1) rfl rfl rfl rfl rfl rfl) ?_
    repeat (first | refine sd rfl ?_ | refine ⟨by omega, ?_⟩)
    rw [Int.toNat_natCast]
    refine D_callV hclo himm (hf rfl) rfl rfl rfl rfl rfl ?_
    repeat refine sd rfl ?_
    repeat (first | refine sc rfl ?_ | refine so rfl ?_)
    refine C_if rfl (fun h1 => ?_) (fun h1 => ?_) <;> simp only [pL] at h1
    · repeat (first | refine sc rfl ?_ | refine so rfl ?_)
      refine O_Xn (X_storeP 0 (writes_box (b := g) (t := 298) (cells := [.s b, I64 (at_ : Nat), I64 0]) (by simp)) rfl rfl rfl rfl rfl rfl rfl) ?_
      repeat (first | refine sc rfl ?_ | refine so rfl ?_)
      exact ⟨_, [_], _, rfl, pickA_perm (is := [0]) (As := [_]) rfl, rfl, by unfold rdV; rw [if_neg (by decide), if_pos h1], by unfold rdAt rdE; rw [if_neg (by decide), if_pos h1, if_neg (by decide)]; rfl⟩
    · subst h1
      have hk' := hk rfl rfl
      repeat (first | refine sc rfl ?_ | refine so rfl ?_)
      refine O_loadP 0 (reads_box 1) rfl rfl rfl rfl rfl rfl ?_
      repeat refine so rfl ?_
      rw [w64 (x := (at_ : Int) + (k : Int)) (by omega) (by omega)]
      refine O_Xn (X_storeP 0 (writes_box (b := g) (t := 298) (cells := [.s b, I64 (at_ : Nat), I64 0]) (by simp)) rfl rfl rfl rfl rfl rfl rfl) ?_
      repeat (first | refine sc rfl ?_ | refine so rfl ?_)
      exact ⟨_, [_], _, rfl, pickA_perm (is := [0]) (As := [_]) rfl, rfl, by unfold rdV; rw [if_neg (by decide), if_neg (by decide)], by unfold rdAt rdE; rw [if_neg (by decide), if_neg (by decide), if_neg (by decide)]; rfl⟩

theorem takeS_A (g : Nat) (b : List UInt8) (at_ : Nat) (e : Int) (fv : AV) (f : FuncId) (caps : List AV) (k : Nat) (e2 : Int) (x : List UInt8) (hclo : IsClo fv f caps) (himm : fv.imm = true) (hat : at_ ≤ b.length) (hfv : fv = .p (cloRP f caps) ∨ ∃ v, fv = .v v)
    (hf : e = 0 → FnP Tryz.prog f ([.s (b.drop at_)] ++ caps) (· = .tup [.s x, I64 (k : Nat), I64 e2])) (hk : e = 0 → e2 = 0 → at_ + k ≤ b.length) (hb : b.length ≤ 9223372036854775807) :
    FnA Tryz.prog 203 [PT g 0, fv] [rdr g b at_ e] (fun r cs' => r = .s (rdV [] x e e2) ∧ cs' = [rdr g b (rdAt at_ k e e2) (rdE e e2)]) := by
  rcases hfv with rfl | ⟨v, rfl⟩
  · refine FnA.intro Tryz.tabOK Tryz.wide_ Tryz.func203 rfl (by decide) rfl (fun X => ?_)
    repeat (first | refine sc rfl ?_ | refine so rfl ?_)
    refine O_Xd (X_ptrnil Tryz.underlying249 rfl rfl rfl) ?_
    repeat refine so rfl ?_
    refine O_loadP 0 (reads_box 2) rfl rfl rfl rfl rfl rfl ?_
    repeat refine so rfl ?_
    refine C_if rfl (fun h0 => ?_) (fun h0 => ?_) <;> simp only [pL] at h0
    · repeat (first | refine sc rfl ?_ | refine so rfl ?_)
      exact ⟨_, [_], _, rfl, pickA_perm (is := [0]) (As := [_]) rfl, rfl, by unfold rdV; rw [if_pos h0], by unfold rdAt rdE; rw [if_pos h0, if_pos h0]⟩
    subst h0
    repeat refine sc rfl ?_
    refine C_drawD rfl (by kernel_rfl) ?_
    repeat refine sd rfl ?_
    refine D_X (.s b) (X_loadP 0 (A := rdr g b at_ 0) (reads_box 0) rfl rfl rfl rfl rfl rfl) ?_
    repeat refine sd rfl ?_
    refine D_X (I64 (at_ : Nat)) (X_loadP 0 (A := rdr g b at_ 0) (reads_box 1) rfl rfl rfl rfl rfl rfl) ?_
    repeat (first | refine sd rfl ?_ | refine ⟨by omega, ?_⟩)
    rw [Int.toNat_natCast]
    refine D_callV hclo himm (hf rfl) rfl rfl rfl rfl rfl ?_
    repeat refine sd rfl ?_
    repeat (first | refine sc rfl ?_ | refine so rfl ?_)
    refine C_if rfl (fun h1 => ?_) (fun h1 => ?_) <;> simp only [pL] at h1
    · repeat (first | refine sc rfl ?_ | refine so rfl ?_)
      refine O_Xn (X_storeP 0 (writes_box (b := g) (t := 298) (cells := [.s b, I64 (at_ : Nat), I64 0]) (by simp)) rfl rfl rfl rfl rfl rfl rfl) ?_
      repeat (first | refine sc rfl ?_ | refine so rfl ?_)
      exact ⟨_, [_], _, rfl, pickA_perm (is := [0]) (As := [_]) rfl, rfl, by unfold rdV; rw [if_neg (by decide), if_pos h1], by unfold rdAt rdE; rw [if_neg (by decide), if_pos h1, if_neg (by decide)]; rfl⟩
    · subst h1
      have hk' := hk rfl rfl
      repeat (first | refine sc rfl ?_ | refine so rfl ?_)
      refine O_loadP 0 (reads_box 1) rfl rfl rfl rfl rfl rfl ?_
      repeat refine so rfl ?_
      rw [w64 (x := (at_ : Int) + (k : Int)) (by omega) (by omega)]
      refine O_Xn (X_storeP 0 (writes_box (b := g) (t := 298) (cells := [.s b, I64 (at_ : Nat), I64 0]) (by simp)) rfl rfl rfl rfl rfl rfl rfl) ?_
      repeat (first | refine sc rfl ?_ | refine so rfl ?_)
      exact ⟨_, [_], _, rfl, pickA_perm (is := [0]) (As := [_]) rfl, rfl, by unfold rdV; rw [if_neg (by decide), if_neg (by decide)], by unfold rdAt rdE; rw [if_neg (by decide), if_neg (by decide), if_neg (by decide)]; rfl⟩
  · refine FnA.intro Tryz.tabOK Tryz.wide_ Tryz.func203 rfl (by decide) rfl (fun X => ?_)
    repeat (first | refine sc rfl ?_ | refine so rfl ?_)
    refine O_Xd (X_ptrnil Tryz.underlying249 rfl rfl rfl) ?_
    repeat refine so rfl ?_
    refine O_loadP 0 (reads_box 2) rfl rfl rfl rfl rfl rfl ?_
    repeat refine so rfl ?_
    refine C_if rfl (fun h0 => ?_) (fun h0 => ?_) <;> simp only [pL] at h0
    · repeat (first | refine sc rfl ?_ | refine so rfl ?_)
      exact ⟨_, [_], _, rfl, pickA_perm (is := [0]) (As := [_]) rfl, rfl, by unfold rdV; rw [if_pos h0], by unfold rdAt rdE; rw [if_pos h0, if_pos h0]⟩
    subst h0
    repeat refine sc rfl ?_
    refine C_drawD rfl (by kernel_rfl) ?_
    repeat refine sd rfl ?_
    refine D_X (.s b) (X_loadP 0 (A := rdr g b at_ 0) (reads_box 0) rfl rfl rfl rfl rfl rfl) ?_
    repeat refine sd rfl ?_
    refine D_X (I64 (at_ : Nat)) (X_loadP 0 (A := rdr g b at_ 0) (reads_box 1) rfl rfl rfl rfl rfl rfl) ?_
    repeat (first | refine sd rfl ?_ | refine ⟨by omega, ?_⟩)
    rw [Int.toNat_natCast]
    refine D_callV hclo himm (hf rfl) rfl rfl rfl rfl rfl ?_
    repeat refine sd rfl ?_
    repeat (first | refine sc rfl ?_ | refine so rfl ?_)
    refine C_if rfl (fun h1 => ?_) (fun h1 => ?_) <;> simp only [pL] at h1
    · repeat (first | refine sc rfl ?_ | refine so rfl ?_)
      refine O_Xn (X_storeP 0 (writes_box (b := g) (t := 298) (cells := [.s b, I64 (at_ : Nat), I64 0]) (by simp)) rfl rfl rfl rfl rfl rfl rfl) ?_
      repeat (first | refine sc rfl ?_ | refine so rfl ?_)
      exact ⟨_, [_], _, rfl, pickA_perm (is := [0]) (As := [_]) rfl, rfl, by unfold rdV; rw [if_neg (by decide), if_pos h1], by unfold rdAt rdE; rw [if_neg (by decide), if_pos h1, if_neg (by decide)]; rfl⟩
    · subst h1
      have hk' := hk rfl rfl
      repeat (first | refine sc rfl ?_ | refine so rfl ?_)
      refine O_loadP 0 (reads_box 1) rfl rfl rfl rfl rfl rfl ?_
      repeat refine so rfl ?_
      rw [w64 (x := (at_ : Int) + (k : Int)) (by omega) (by omega)]
      refine O_Xn (X_storeP 0 (writes_box (b := g) (t := 298) (cells := [.s b, I64 (at_ : Nat), I64 0]) (by simp)) rfl rfl rfl rfl rfl rfl rfl) ?_
      repeat (first | refine sc rfl ?_ | refine so rfl ?_)
      exact ⟨_, [_], _, rfl, pickA_perm (is := [0]) (As := [_]) rfl, rfl, by unfold rdV; rw [if_neg (by decide), if_neg (by decide)], by unfold rdAt rdE; rw [if_neg (by decide), if_neg (by decide), if_neg (by decide)]; rfl⟩
end Go.Proofs

namespace Go.Proofs
open Go.Sy Go.Lib

def intT (m : Nat) (l : List UInt8) : Int × Nat × Int := (IntKind.i64.wrap ((tk l).1 : Nat), (tk l).2.1, if (tk l).2.2 = 0 ∧ m < (tk l).1 then 3 else (tk l).2.2)

theorem IntF_p (m : Nat) (hm : m ≤ 9223372036854775807) (l : List UInt8) (hl : l.length ≤ 9223372036854775807) : FnP Tryz.prog 200 [.s l, .cp [I64 (m : Nat)]]
    (· = .tup [I64 (intT m l).1, I64 (((intT m l).2.1 : Nat) : Int), I64 (intT m l).2.2]) := by
  refine FnP.intro Tryz.tabOK Tryz.wide_ Tryz.func200 rfl (by decide) rfl (fun X => ?_)
  unfold intT
  repeat (first | refine sc rfl ?_ | refine so rfl ?_)
  refine O_call (vTake_p l hl) (by rfl) (by rfl) (by rfl) (by rfl) (fun r hr => ?_)
  subst hr
  obtain ⟨n, k, e, ht⟩ : ∃ n k e, tk l = (n, k, e) := ⟨_, _, _, rfl⟩
  rw [ht]
  simp only []
  repeat (first | refine sc rfl ?_ | refine so rfl ?_)
  refine O_join ⟨[(6, U64 (n : Nat)), (7, I64 (k : Nat)), (8, I64 e), (23, B (decide (e = 0 ∧ m < n)))], []⟩ ?_ (fun s h => C_le _ h ?_)
  · have fin2 : ∀ x : Bool, x = decide (e = 0 ∧ m < n) → some (B x) = some (B (decide (e = 0 ∧ m < n))) := fun x hb => by rw [hb]
    refine O_case 17 rfl (fun h5 => ?_) (fun h5 => ?_) <;> simp at h5 <;> repeat refine so rfl ?_
    · rw [show max (m : Int) 0 = (m : Int) by omega, u64wrap (x := (m : Int)) (by omega) (by omega)]
      refine Le.sub [] ⟨rfl, rfl, rfl, fin2 _ ?_, trivial⟩ rfl
      rw [Bool.eq_iff_iff, decide_eq_true_eq, decide_eq_true_eq]
      omega
    · exact Le.sub [] ⟨rfl, rfl, rfl, fin2 _ (by rw [Bool.eq_iff_iff]; simp; omega), trivial⟩ rfl
  refine C_ifJ ⟨[(6, U64 (n : Nat)), (7, I64 (k : Nat)), (8, I64 (if e = 0 ∧ m < n then 3 else e))], []⟩ rfl (fun h1 => ?_) (fun h1 => ?_) (fun s h => C_le _ h ?_)
  · rw [if_pos (of_decide_eq_true h1)]
    repeat (first | refine sc rfl ?_ | refine so rfl ?_)
    exact Le.sub [] ⟨rfl, rfl, rfl, trivial⟩ rfl
  · rw [if_neg (of_decide_eq_false h1)]
    repeat refine sc rfl ?_
    exact Le.sub [] ⟨rfl, rfl, rfl, trivial⟩ rfl
  repeat (first | refine sc rfl ?_ | refine so rfl ?_)
  exact ⟨_, rfl, rfl, rfl⟩

theorem Read_A0 (b : List UInt8) : FnA Tryz.prog 141 [.s b] [] (fun r cs' => ∃ g, r = PT g 0 ∧ cs' = [rdr g b 0 0]) := by
  refine FnA.intro Tryz.tabOK Tryz.wide_ Tryz.func141 rfl (by decide) rfl (fun X => ?_)
  iterate 11 (first | refine sc rfl ?_ | refine so rfl ?_)
  refine C_absb 2 rfl rfl rfl (fun g => ?_)
  repeat refine sc rfl ?_
  exact ⟨_, [_], _, rfl, pickA_perm (is := [0]) (As := [_]) rfl, rfl, g, rfl, rfl⟩

theorem tk_end {l : List UInt8} (h : (tk l).2.2 = 0) : (tk l).2.1 ≤ l.length := by
  obtain ⟨n, k, e, ht⟩ : ∃ n k e, tk l = (n, k, e) := ⟨_, _, _, rfl⟩
  rw [ht] at h ⊢
  simp only [] at h
  subst h
  exact (tk_take ht).2.2.1

theorem Num_A (g : Nat) (b : List UInt8) (at_ : Nat) (e : Int) (hat : at_ ≤ b.length) (hb : b.length ≤ 9223372036854775807) :
    FnA Tryz.prog 143 [PT g 0] [rdr g b at_ e] (fun r cs' => r = U64 (rdV 0 ((tk (b.drop at_)).1 : Nat) e (tk (b.drop at_)).2.2) ∧ cs' = [rdr g b (rdAt at_ (tk (b.drop at_)).2.1 e (tk (b.drop at_)).2.2) (rdE e (tk (b.drop at_)).2.2)]) := by
  refine FnA.intro Tryz.tabOK Tryz.wide_ Tryz.func143 rfl (by decide) rfl (fun X => ?_)
  repeat (first | refine sc rfl ?_ | refine so rfl ?_)
  refine O_callA [0] (takeU_A g b at_ e (.v (.func (.func 201) #[] #[])) 201 [] (tk (b.drop at_)).2.1 (tk (b.drop at_)).2.2 ((tk (b.drop at_)).1 : Nat) (isClo_func 201) rfl hat (.inr ⟨_, rfl⟩) (fun _ => vTake_p (b.drop at_) (by simp; omega)) (fun _ h => by have := tk_end h; simp at this; omega) hb) (by rfl) (by rfl) (by rfl) (by rfl) (by rfl) ?_
  rintro r cs' ⟨rfl, rfl⟩
  repeat (first | refine sc rfl ?_ | refine so rfl ?_)
  exact ⟨_, [_], _, rfl, pickA_perm (is := [0]) (As := [_]) rfl, rfl, rfl, rfl⟩

theorem intT_end {m : Nat} {l : List UInt8} (h : (intT m l).2.2 = 0) : (intT m l).2.1 ≤ l.length := by
  unfold intT at h ⊢
  simp only [] at h ⊢
  split at h
  · cases h
  · exact tk_end h

theorem Int_A (g : Nat) (b : List UInt8) (at_ : Nat) (e : Int) (m : Nat) (hm : m ≤ 9223372036854775807) (hat : at_ ≤ b.length) (hb : b.length ≤ 9223372036854775807) :
    FnA Tryz.prog 142 [PT g 0, I64 (m : Nat)] [rdr g b at_ e] (fun r cs' => r = I64 (rdV 0 (intT m (b.drop at_)).1 e (intT m (b.drop at_)).2.2) ∧ cs' = [rdr g b (rdAt at_ (intT m (b.drop at_)).2.1 e (intT m (b.drop at_)).2.2) (rdE e (intT m (b.drop at_)).2.2)]) := by
  refine FnA.intro Tryz.tabOK Tryz.wide_ Tryz.func142 rfl (by decide) rfl (fun X => ?_)
  repeat (first | refine sc rfl ?_ | refine so rfl ?_)
  refine O_le _ (Le.freezebox 3 rfl rfl rfl) ?_
  repeat refine sc rfl ?_
  refine O_makeFunc rfl rfl rfl rfl ?_
  repeat refine sc rfl ?_
  refine O_callA [0] (takeI_A g b at_ e (.p (cloRP 200 [.cp [I64 (m : Nat)]])) 200 [.cp [I64 (m : Nat)]] (intT m (b.drop at_)).2.1 (intT m (b.drop at_)).2.2 (intT m (b.drop at_)).1 (isClo_p _ _) rfl hat (.inl rfl) (fun _ => IntF_p m hm (b.drop at_) (by simp; omega)) (fun _ h => by have := intT_end h; simp at this; omega) hb) (by rfl) (by rfl) (by rfl) (by rfl) (by rfl) ?_
  rintro r cs' ⟨rfl, rfl⟩
  repeat (first | refine sc rfl ?_ | refine so rfl ?_)
  exact ⟨_, [_], _, rfl, pickA_perm (is := [0]) (As := [_]) rfl, rfl, rfl, rfl⟩

theorem RestF_c (b : List UInt8) : FnP Tryz.prog 204 [.s b] (· = .tup [.s b, I64 (b.length : Nat), I64 0]) := by
  refine FnP.intro Tryz.tabOK Tryz.wide_ Tryz.func204 rfl (by decide) rfl (fun X => ?_)
  repeat (first | refine sc rfl ?_ | refine so rfl ?_)
  exact ⟨_, rfl, rfl, rfl⟩

theorem Rest_A (g : Nat) (b : List UInt8) (at_ : Nat) (e : Int) (hat : at_ ≤ b.length) (hb : b.length ≤ 9223372036854775807) :
    FnA Tryz.prog 144 [PT g 0] [rdr g b at_ e] (fun r cs' => r = .s (rdV [] (b.drop at_) e 0) ∧ cs' = [rdr g b (rdAt at_ (b.length - at_) e 0) (rdE e 0)]) := by
  refine FnA.intro Tryz.tabOK Tryz.wide_ Tryz.func144 rfl (by decide) rfl (fun X => ?_)
  repeat (first | refine sc rfl ?_ | refine so rfl ?_)
  refine O_callA [0] (takeS_A g b at_ e (.v (.func (.func 204) #[] #[])) 204 [] (b.length - at_) 0 (b.drop at_) (isClo_func 204) rfl hat (.inr ⟨_, rfl⟩) (fun _ => by have h := RestF_c (b.drop at_); rw [List.length_drop] at h; exact h) (fun _ _ => by omega) hb) (by rfl) (by rfl) (by rfl) (by rfl) (by rfl) ?_
  rintro r cs' ⟨rfl, rfl⟩
  repeat (first | refine sc rfl ?_ | refine so rfl ?_)
  exact ⟨_, [_], _, rfl, pickA_perm (is := [0]) (As := [_]) rfl, rfl, rfl, rfl⟩

def rdDone (b : List UInt8) (at_ : Nat) (e : Int) : Int := if e ≠ 0 then e else if at_ < b.length then 1 else 0
theorem Done_A (g : Nat) (b : List UInt8) (at_ : Nat) (e : Int) : FnA Tryz.prog 145 [PT g 0] [rdr g b at_ e] (fun r cs' => r = I64 (rdDone b at_ e) ∧ cs' = [rdr g b at_ e]) := by
  refine FnA.intro Tryz.tabOK Tryz.wide_ Tryz.func145 rfl (by decide) rfl (fun X => ?_)
  unfold rdDone
  repeat (first | refine sc rfl ?_ | refine so rfl ?_)
  refine O_Xd (X_ptrnil Tryz.underlying249 rfl rfl rfl) ?_
  repeat refine so rfl ?_
  refine C_false rfl rfl ?_
  repeat (first | refine sc rfl ?_ | refine so rfl ?_)
  refine O_loadP 0 (reads_box 2) rfl rfl rfl rfl rfl rfl ?_
  repeat refine so rfl ?_
  refine C_if rfl (fun h0 => ?_) (fun h0 => ?_) <;> simp only [pL] at h0
  · repeat (first | refine sc rfl ?_ | refine so rfl ?_)
    refine O_loadP 0 (reads_box 2) rfl rfl rfl rfl rfl rfl ?_
    repeat (first | refine sc rfl ?_ | refine so rfl ?_)
    exact ⟨_, [_], _, rfl, pickA_perm (is := [0]) (As := [_]) rfl, rfl, by rw [if_pos h0], rfl⟩
  subst h0
  rw [if_neg (by decide)]
  repeat refine sc rfl ?_
  refine C_drawD rfl (by kernel_rfl) ?_
  repeat refine sd rfl ?_
  refine D_X (I64 (at_ : Nat)) (X_loadP 0 (A := rdr g b at_ 0) (reads_box 1) rfl rfl rfl rfl rfl rfl) ?_
  repeat refine sd rfl ?_
  refine D_X (.s b) (X_loadP 0 (A := rdr g b at_ 0) (reads_box 0) rfl rfl rfl rfl rfl rfl) ?_
  repeat refine sd rfl ?_
  repeat refine sc rfl ?_
  refine C_if rfl (fun h1 => ?_) (fun h1 => ?_) <;> simp only [pL] at h1
  · rw [if_pos (by omega)]
    repeat (first | refine sc rfl ?_ | refine so rfl ?_)
    exact ⟨_, [_], _, rfl, pickA_perm (is := [0]) (As := [_]) rfl, rfl, rfl, rfl⟩
  · rw [if_neg (by omega)]
    repeat (first | refine sc rfl ?_ | refine so rfl ?_)
    exact ⟨_, [_], _, rfl, pickA_perm (is := [0]) (As := [_]) rfl, rfl, rfl, rfl⟩
end Go.Proofs

namespace Go.Sy
open Go.RowKit
section
variable {P : Program} {T : Tab} {X : Ctx P T} {n : Nat} {e : Env} {st : St} {a : Act} {w : World} {ops : Array Oper} {K : St → Prop}

end
end Go.Sy

namespace Go.Proofs
open Go.Sy Go.Lib

theorem head2_c : FnP Tryz.prog 196 [.s [5, 0, 0, 0]] (· = .tup [I64 5, I64 0, I64 0, I64 0]) := by
  refine FnP.intro Tryz.tabOK Tryz.wide_ Tryz.func196 rfl (by decide) rfl (fun X => ?_)
  repeat (first | refine sc rfl ?_ | refine so rfl ?_)
  refine C_false rfl (by decide) ?_
  repeat refine sc rfl ?_
  refine C_drawD rfl (by kernel_rfl) ?_
  repeat (first | refine sd rfl ?_ | refine sdb rfl ?_ | refine sds rfl ?_ | refine ⟨by decide, ?_⟩)
  repeat (first | refine sc rfl ?_ | refine so rfl ?_)
  refine O_call (known_p _) (by rfl) (by rfl) (by rfl) (by rfl) (fun r hr => ?_)
  subst hr
  repeat refine so rfl ?_
  refine C_false rfl (by decide) ?_
  repeat (first | refine sc rfl ?_ | refine so rfl ?_)
  refine C_false rfl (by decide) ?_
  repeat refine sc rfl ?_
  refine C_drawD rfl (by kernel_rfl) ?_
  repeat (first | refine sd rfl ?_ | refine sdb rfl ?_ | refine sds rfl ?_ | refine ⟨by decide, ?_⟩)
  repeat refine sc rfl ?_
  exact ⟨_, rfl, rfl, rfl⟩
theorem head0_c : FnP Tryz.prog 196 [.s []] (· = .tup [I64 0, I64 0, I64 0, I64 2]) := by
  refine FnP.intro Tryz.tabOK Tryz.wide_ Tryz.func196 rfl (by decide) rfl (fun X => ?_)
  repeat (first | refine sc rfl ?_ | refine so rfl ?_)
  refine C_true rfl (by decide) ?_
  repeat (first | refine sc rfl ?_ | refine so rfl ?_)
  exact ⟨_, rfl, rfl, rfl⟩
theorem fTake2_c : FnP Tryz.prog 139 [.s [5, 0, 0, 0]] (· = .tup [.agg [I64 5, I64 0, .s []], I64 4, I64 0]) := by
  refine FnP.intro Tryz.tabOK Tryz.wide_ Tryz.func139 rfl (by decide) rfl (fun X => ?_)
  repeat (first | refine sc rfl ?_ | refine so rfl ?_)
  refine O_call head2_c (by rfl) (by rfl) (by rfl) (by rfl) (fun r hr => ?_)
  subst hr
  repeat (first | refine sc rfl ?_ | refine so rfl ?_)
  refine C_false rfl rfl ?_
  repeat (first | refine sc rfl ?_ | refine so rfl ?_)
  refine C_false rfl (by decide) ?_
  repeat (first | refine sc rfl ?_ | refine so rfl ?_)
  refine ⟨by decide, ?_⟩
  repeat (first | refine sc rfl ?_ | refine so rfl ?_)
  exact ⟨_, rfl, rfl, rfl⟩
theorem fTake0_c : FnP Tryz.prog 139 [.s []] (· = .tup [.agg [I64 0, I64 0, .s []], I64 0, I64 2]) := by
  refine FnP.intro Tryz.tabOK Tryz.wide_ Tryz.func139 rfl (by decide) rfl (fun X => ?_)
  repeat (first | refine sc rfl ?_ | refine so rfl ?_)
  refine O_call head0_c (by rfl) (by rfl) (by rfl) (by rfl) (fun r hr => ?_)
  subst hr
  repeat (first | refine sc rfl ?_ | refine so rfl ?_)
  refine C_true rfl rfl ?_
  repeat (first | refine sc rfl ?_ | refine so rfl ?_)
  exact ⟨_, rfl, rfl, rfl⟩
theorem fPush_A (b : Nat) (st own : Int) (out : Value) : FnA Tryz.prog 192 [PT b 0, .s [5, 0, 0, 0]] [lnA b [] 0 st own out] (fun r cs' => r = SL 3 Frm.c [⟨5, 0, []⟩] ∧ cs' = [lnA b [] 0 st own out]) := by
  refine FnA.intro Tryz.tabOK Tryz.wide_ Tryz.func192 rfl (by decide) rfl (fun X => ?_)
  repeat (first | refine sc rfl ?_ | refine so rfl ?_)
  refine C_jumps (α := Unit) 0 rfl (fun _ => ⟨[(0, PT b 0), (5, .own 49)], [VEC 49 157 3 Frm.c [⟨5, 0, []⟩], .abs (lnA b [] 0 st own out)]⟩) (fun _ => True) (fun _ => 0) ?_ ?_
  · repeat (first | refine sc rfl ?_ | refine so rfl ?_)
    refine O_Xd (X_ptrnil Tryz.underlying370 rfl rfl rfl) ?_
    repeat refine so rfl ?_
    refine O_loadP 0 (reads_box 1) rfl rfl rfl rfl rfl rfl ?_
    repeat refine so rfl ?_
    refine C_false rfl rfl ?_
    repeat (first | refine sc rfl ?_ | refine so rfl ?_)
    refine O_loadP 0 (reads_box 0) rfl rfl rfl rfl rfl rfl ?_
    repeat refine so rfl ?_
    refine ⟨by decide, ?_⟩
    repeat refine so rfl ?_
    refine O_Xn (X_storeP 0 (writes_box (by show 0 < 5; decide)) rfl rfl rfl rfl rfl rfl rfl) ?_
    repeat (first | refine sc rfl ?_ | refine so rfl ?_)
    refine O_loadP 0 (reads_box 0) rfl rfl rfl rfl rfl rfl ?_
    repeat refine sc rfl ?_
    refine O_call fTake2_c (by rfl) (by rfl) (by rfl) (by rfl) (fun r hr => ?_)
    subst hr
    repeat (first | refine sc rfl ?_ | refine so rfl ?_)
    refine C_true rfl rfl ?_
    refine C_le _ (Le.nilvec Frm.c 5 49 157 3 rfl rfl rfl) ?_
    repeat (first|refine sc rfl ?_|refine so rfl ?_|refine sb rfl ?_)
    refine O_push Frm.c [] ⟨5, 0, []⟩ [(0, PT b 0), (7, I64 4)] rfl rfl rfl rfl rfl rfl rfl rfl rfl rfl ⟨rfl, rfl, trivial⟩ rfl rfl (by decide) (by decide) ?_
    repeat (first | refine sc rfl ?_ | refine so rfl ?_)
    refine O_loadP 3 (reads_box 0) rfl rfl rfl rfl rfl rfl ?_
    repeat refine so rfl ?_
    refine ⟨by decide, ?_⟩
    repeat refine so rfl ?_
    refine O_Xn (X_storeP 3 (writes_box (by show 0 < 5; decide)) rfl rfl rfl rfl rfl rfl rfl) ?_
    repeat refine so rfl ?_
    refine C_goto ⟨rfl, (), trivial, ?_⟩
    exact Le.pick [1, 0] ⟨rfl, rfl, trivial⟩ rfl
  · intro _ _
    repeat (first | refine sc rfl ?_ | refine so rfl ?_)
    refine O_loadP 1 (reads_box 0) rfl rfl rfl rfl rfl rfl ?_
    repeat refine sc rfl ?_
    refine O_call fTake0_c (by rfl) (by rfl) (by rfl) (by rfl) (fun r hr => ?_)
    subst hr
    repeat (first | refine sc rfl ?_ | refine so rfl ?_)
    refine C_false rfl rfl ?_
    repeat (first | refine sc rfl ?_ | refine so rfl ?_)
    refine C_true rfl rfl ?_
    refine C_le _ (Le.freezeL (l := [(⟨5, 0, []⟩ : Frm)]) (cells := Frm.c) 5 rfl rfl) ?_
    repeat (first | refine sc rfl ?_ | refine so rfl ?_)
    exact ⟨_, [_], _, rfl, pickA_perm (is := [1]) (As := [_]) rfl, rfl, rfl, rfl⟩
theorem helloTake0_c : FnP Tryz.prog 263 [.s []] (· = .tup [.agg [I64 0, I64 0, U64 0], I64 1]) := by
  refine FnP.intro Tryz.tabOK Tryz.wide_ Tryz.func263 rfl (by decide) rfl (fun X => ?_)
  repeat (first | refine sc rfl ?_ | refine so rfl ?_)
  refine O_callA [] (Read_A0 []) (by rfl) (by rfl) (by rfl) (by rfl) (by rfl) ?_
  rintro r' cs' ⟨g, rfl, rfl⟩
  repeat (first | refine sc rfl ?_ | refine so rfl ?_)
  refine O_makeBound rfl rfl rfl rfl ?_
  repeat (first | refine sc rfl ?_ | refine so rfl ?_)
  refine O_callBound [0] (Int_A g [] 0 0 2147483647 (by decide) (Nat.zero_le _) (by decide)) rfl rfl rfl rfl rfl rfl ?_
  rintro r' cs' ⟨rfl, rfl⟩
  rw [show (intT 2147483647 (List.drop 0 ([] : List UInt8))).1 = 0 from rfl, show (intT 2147483647 (List.drop 0 ([] : List UInt8))).2.1 = 0 from rfl, show (intT 2147483647 (List.drop 0 ([] : List UInt8))).2.2 = 2 from rfl, show rdV (0 : Int) 0 0 2 = 0 from rfl, show rdAt 0 0 0 2 = 0 from rfl, show rdE 0 2 = 2 from rfl]
  repeat refine so rfl ?_
  refine O_callBound [0] (Int_A g [] 0 2 2147483647 (by decide) (Nat.zero_le _) (by decide)) rfl rfl rfl rfl rfl rfl ?_
  rintro r' cs' ⟨rfl, rfl⟩
  rw [show (intT 2147483647 (List.drop 0 ([] : List UInt8))).1 = 0 from rfl, show (intT 2147483647 (List.drop 0 ([] : List UInt8))).2.1 = 0 from rfl, show (intT 2147483647 (List.drop 0 ([] : List UInt8))).2.2 = 2 from rfl, show rdV (0 : Int) 0 2 2 = 0 from rfl, show rdAt 0 0 2 2 = 0 from rfl, show rdE 2 2 = 2 from rfl]
  repeat refine so rfl ?_
  refine O_callA [0] (Num_A g [] 0 2 (Nat.zero_le _) (by decide)) (by rfl) (by rfl) (by rfl) (by rfl) (by rfl) ?_
  rintro r' cs' ⟨rfl, rfl⟩
  rw [show (tk (List.drop 0 ([] : List UInt8))).2.1 = 0 from rfl, show (tk (List.drop 0 ([] : List UInt8))).2.2 = 2 from rfl, show rdAt 0 0 2 2 = 0 from rfl, show rdE 2 2 = 2 from rfl]
  repeat (first | refine sc rfl ?_ | refine so rfl ?_)
  refine O_callA [1] (Done_A g [] 0 2) (by rfl) (by rfl) (by rfl) (by rfl) (by rfl) ?_
  rintro r' cs' ⟨rfl, rfl⟩
  rw [show rdDone [] 0 2 = 2 from rfl]
  repeat refine so rfl ?_
  refine C_true rfl rfl ?_
  repeat (first | refine sc rfl ?_ | refine so rfl ?_)
  exact ⟨_, rfl, rfl, rfl⟩
theorem verify0_c (t : Nat) : FnP Tryz.prog 228 [PT t 0, .s []] (· = .tup [I64 0, I64 16]) := by
  refine FnP.intro Tryz.tabOK Tryz.wide_ Tryz.func228 rfl (by decide) rfl (fun X => ?_)
  repeat (first | refine sc rfl ?_ | refine so rfl ?_)
  refine O_call helloTake0_c (by rfl) (by rfl) (by rfl) (by rfl) (fun r hr => ?_)
  subst hr
  repeat (first | refine sc rfl ?_ | refine so rfl ?_)
  refine C_true rfl rfl ?_
  repeat (first | refine sc rfl ?_ | refine so rfl ?_)
  exact ⟨_, rfl, rfl, rfl⟩
end Go.Proofs
