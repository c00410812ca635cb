/- Contracts of pad.Unpad and the document's; the law PadUnpads. -/
import Derived.Test.YtgdlhcaidfokkaaDoorD31
set_option linter.unusedSimpArgs false
set_option linter.unusedVariables false
set_option maxRecDepth 100000
namespace Go.Proofs
open Go.Sy Go.Lib

theorem Trim_p (l : List UInt8) (hl : l.length ≤ 9223372036854775807) : FnP Tryd.prog 34 [.s l, .s [0]] (· = .s (Lib.trimB l 0)) := by
  refine FnP.ofCalls (vs := [S l, S [0]]) (v := S (Lib.trimB l 0)) ⟨_, Tryd.func34, rfl, by decide⟩ rfl rfl (fun G => by simp only [RepI]) (fun w => ?_)
  refine (Tryd.strings_Trim_one ⟨l.toArray⟩ 0 (by decide) w (by rw [Go.Sy.len_S]; exact hl)).mono ?_
  rintro e w' ⟨rfl, hw⟩
  refine ⟨rfl, ?_⟩
  rcases hw with rfl | rfl
  · exact RowKit.Below.refl _ _
  · exact (RowKit.Below.refl _ _).drew

theorem nOf_prog (b : List UInt8) : bitsV .or .i64 (IntKind.i64.wrap (IntKind.i64.wrap ((b.getD (Int.toNat 0) 0).toNat : Int) * 2 ^ min (Int.toNat 8) IntKind.i64.bits)) (IntKind.i64.wrap ((b.getD (Int.toNat 1) 0).toNat : Int)) = (nOf b : Int) := by
  have h0 := by_lt b 0
  have h1 := by_lt b 1
  rw [show (2 : Int) ^ min (Int.toNat 8) IntKind.i64.bits = 256 by decide]
  show bitsV .or .i64 (IntKind.i64.wrap (IntKind.i64.wrap (by_ b 0 : Int) * 256)) (IntKind.i64.wrap (by_ b 1 : Int)) = _
  rw [w64 (x := (by_ b 0 : Int)) (by omega) (by omega), w64 (x := (by_ b 1 : Int)) (by omega) (by omega), w64 (by omega) (by omega), show ((by_ b 0 : Int) * 256) = ((by_ b 0 * 256 : Nat) : Int) by omega, or8 _ _ (by omega) h1]
  rfl
theorem nOf_ref (b : List UInt8) : IntKind.i64.wrap (IntKind.i64.wrap (IntKind.i64.wrap ((b.getD (Int.toNat 0) 0).toNat : Int) * 256) + IntKind.i64.wrap ((b.getD (Int.toNat 1) 0).toNat : Int)) = (nOf b : Int) := by
  have h0 := by_lt b 0
  have h1 := by_lt b 1
  show IntKind.i64.wrap (IntKind.i64.wrap (IntKind.i64.wrap (by_ b 0 : Int) * 256) + IntKind.i64.wrap (by_ b 1 : Int)) = _
  rw [w64 (x := (by_ b 0 : Int)) (by omega) (by omega), w64 (x := (by_ b 1 : Int)) (by omega) (by omega), w64 (x := (by_ b 0 : Int) * 256) (by omega) (by omega), w64 (by omega) (by omega)]
  unfold nOf
  omega

theorem Unpad_p (b : List UInt8) (hb : b.length ≤ 9223372036854775000) : FnP Tryd.prog 20 [.s b] (· = .tup [.s (unpL b), I64 (unpE b)]) := by
  refine FnP.intro Tryd.tabOK Tryd.wide_ Tryd.func20 rfl (by decide) rfl (fun X => ?_)
  have fin : ∀ r : AV, upOK b = false → r = .tup [.s [], I64 1] → r = .tup [.s (unpL b), I64 (unpE b)] := fun r h hr => by
    rw [hr]; unfold unpL unpE; rw [h]; rfl
  repeat (first | refine sc rfl ?_ | refine so rfl ?_ | refine sb rfl ?_)
  refine C_if rfl (fun h => ?_) (fun h => ?_) <;> simp only [decide_eq_true_eq, decide_eq_false_iff_not] at h
  · repeat (first | refine sc rfl ?_ | refine so rfl ?_ | refine sb rfl ?_)
    exact ⟨_, rfl, rfl, fin _ (by unfold upOK; rw [decide_eq_false_iff_not]; omega) rfl⟩
  have h2 : 2 ≤ b.length := by omega
  have hn16 := nOf_lt b
  repeat (first | refine sc rfl ?_ | refine so rfl ?_ | refine sb rfl ?_)
  refine C_drawD rfl (by kernel_rfl) ?_
  repeat (first | refine sd rfl ?_ | refine sds rfl ?_ | refine sdv rfl ?_ | refine ⟨by omega, ?_⟩ | refine ⟨by decide, ?_⟩)
  rw [nOf_prog]
  obtain ⟨n, hn⟩ : ∃ n, nOf b = n := ⟨_, rfl⟩
  rw [hn] at hn16 ⊢
  repeat (first | refine sc rfl ?_ | refine so rfl ?_ | refine sb rfl ?_)
  refine O_call (Class_p n) (by rfl) (by rfl) (by rfl) (by rfl) (fun r hr => ?_)
  subst hr
  repeat (first | refine sc rfl ?_ | refine so rfl ?_ | refine sb rfl ?_)
  refine O_join ⟨[(0, .s b), (4, I64 n), (38, B (!upOK b))], []⟩ ?_ (fun s h => C_le _ h ?_)
  · have fin2 : ∀ x : Bool, x = (!upOK b) → some (B x) = some (B (!upOK b)) := fun x hb => by rw [hb]
    have hce : clsE n ≠ 0 → upOK b = false := fun he => by
      unfold upOK; rw [decide_eq_false_iff_not, hn]
      rintro ⟨_, h3, _⟩
      apply he
      unfold clsE
      rw [if_neg (by omega), if_neg (by omega)]
    refine O_case 25 rfl (fun h3 => ?_) (fun h3 => ?_) <;> repeat (first | refine sc rfl ?_ | refine so rfl ?_ | refine sb rfl ?_)
    · exact Le.sub [] ⟨rfl, rfl, fin2 _ (by rw [hce (by simpa using h3)]; rfl), trivial⟩ rfl
    · have h4 : clsE n = 0 := by simpa using h3
      have h5 : n ≤ 1022 := by
        unfold clsE at h4
        split at h4
        · omega
        · split at h4 <;> omega
      have h6 := cls_bd (n := (n : Int)) (by omega) (by omega)
      refine O_case 31 rfl (fun h7 => ?_) (fun h7 => ?_) <;> repeat (first | refine sc rfl ?_ | refine so rfl ?_ | refine sb rfl ?_)
      · refine Le.sub [] ⟨rfl, rfl, fin2 _ ?_, trivial⟩ rfl
        have : upOK b = false := by
          unfold upOK; rw [decide_eq_false_iff_not, hn]
          rintro ⟨_, _, h8, _⟩
          rw [h8] at h7
          simp at h7
        rw [this]; rfl
      · have h8 : cls n = b.length := by simpa using h7
        rw [w64 (by omega) (by omega)]
        repeat (first | refine sc rfl ?_ | refine so rfl ?_ | refine sb rfl ?_ | refine ⟨by omega, ?_⟩)
        refine O_call (Trim_p (b.drop ((2 : Int) + (n : Int)).toNat) (by rw [List.length_drop]; omega)) (by rfl) (by rfl) (by rfl) (by rfl) (fun r hr => ?_)
        subst hr
        repeat (first | refine sc rfl ?_ | refine so rfl ?_ | refine sb rfl ?_ | refine ⟨by omega, ?_⟩)
        refine Le.sub [] ⟨rfl, rfl, fin2 _ ?_, trivial⟩ rfl
        rw [show ((2 : Int) + (n : Int)).toNat = 2 + n by omega]
        unfold upOK
        rw [hn]
        by_cases ht : Lib.trimB (b.drop (2 + n)) 0 = []
        · rw [ht, decide_eq_true ⟨h2, h5, h8, rfl⟩]; rfl
        · rw [decide_eq_false (fun h => ht h.2.2.2)]; simpa using ht
  refine C_if rfl (fun h3 => ?_) (fun h3 => ?_) <;> simp only [Bool.not_eq_true', Bool.not_eq_false'] at h3
  · repeat (first | refine sc rfl ?_ | refine so rfl ?_ | refine sb rfl ?_)
    exact ⟨_, rfl, rfl, fin _ h3 rfl⟩
  · have h4 := h3
    unfold upOK at h4
    rw [decide_eq_true_eq, hn] at h4
    have h6 := cls_bd (n := (n : Int)) (by omega) (by omega)
    repeat (first | refine sc rfl ?_ | refine so rfl ?_ | refine sb rfl ?_)
    rw [w64 (by omega) (by omega)]
    repeat (first | refine sc rfl ?_ | refine so rfl ?_ | refine sb rfl ?_ | refine ⟨by omega, ?_⟩)
    refine ⟨_, rfl, rfl, ?_⟩
    unfold unpL unpE
    rw [if_pos h3, if_pos h3, hn, show ((2 : Int) + (n : Int)).toNat - Int.toNat 2 = n by omega]
    rfl

theorem refUnpad_p (b : List UInt8) (hb : b.length ≤ 9223372036854775000) : FnP Tryd.prog 21 [.s b] (· = .tup [.s (unpL b), I64 (unpE b)]) := by
  refine FnP.intro Tryd.tabOK Tryd.wide_ Tryd.func21 rfl (by decide) rfl (fun X => ?_)
  have fin : ∀ r : AV, upOK b = false → r = .tup [.s [], I64 1] → r = .tup [.s (unpL b), I64 (unpE b)] := fun r h hr => by
    rw [hr]; unfold unpL unpE; rw [h]; rfl
  repeat (first | refine sc rfl ?_ | refine so rfl ?_ | refine sb rfl ?_)
  refine C_if rfl (fun h => ?_) (fun h => ?_) <;> simp only [decide_eq_true_eq, decide_eq_false_iff_not] at h
  · repeat (first | refine sc rfl ?_ | refine so rfl ?_ | refine sb rfl ?_)
    exact ⟨_, rfl, rfl, fin _ (by unfold upOK; rw [decide_eq_false_iff_not]; omega) rfl⟩
  have h2 : 2 ≤ b.length := by omega
  have hn16 := nOf_lt b
  repeat (first | refine sc rfl ?_ | refine so rfl ?_ | refine sb rfl ?_)
  refine C_drawD rfl (by kernel_rfl) ?_
  repeat (first | refine sd rfl ?_ | refine sds rfl ?_ | refine sdv rfl ?_ | refine ⟨by omega, ?_⟩ | refine ⟨by decide, ?_⟩)
  rw [nOf_ref]
  have hiff := upOK_iff b h2
  obtain ⟨n, hn⟩ : ∃ n, nOf b = n := ⟨_, rfl⟩
  rw [hn] at hn16 hiff ⊢
  repeat (first | refine sc rfl ?_ | refine so rfl ?_ | refine sb rfl ?_)
  rw [w64 (by omega) (by omega)]
  refine C_if rfl (fun h3 => ?_) (fun h3 => ?_) <;> simp only [decide_eq_true_eq, decide_eq_false_iff_not] at h3
  · repeat (first | refine sc rfl ?_ | refine so rfl ?_ | refine sb rfl ?_)
    refine ⟨_, rfl, rfl, fin _ ?_ rfl⟩
    unfold upOK
    rw [decide_eq_false_iff_not, hn]
    rintro ⟨_, h4, h5, _⟩
    have h6 := cls_bd (n := (n : Int)) (by omega) (by omega)
    omega
  have hle : n ≤ b.length - 2 := by omega
  replace hiff := hiff hle
  obtain ⟨s, hs⟩ : ∃ s, (b.drop 2).take n = s := ⟨_, rfl⟩
  rw [hs] at hiff
  have hsl : s.length = n := by rw [← hs, List.length_take, List.length_drop]; omega
  repeat (first | refine sc rfl ?_ | refine so rfl ?_ | refine sb rfl ?_)
  rw [w64 (by omega) (by omega)]
  repeat (first | refine sc rfl ?_ | refine so rfl ?_ | refine sb rfl ?_ | refine ⟨by omega, ?_⟩)
  rw [show List.take (((2 : Int) + (n : Int)).toNat - Int.toNat 2) (List.drop (Int.toNat 2) b) = s by rw [show ((2 : Int) + (n : Int)).toNat - Int.toNat 2 = n by omega]; exact hs]
  refine O_call (refPad_p s (by omega)) (by rfl) (by rfl) (by rfl) (by rfl) (fun r hr => ?_)
  subst hr
  rw [hsl]
  repeat (first | refine sc rfl ?_ | refine so rfl ?_ | refine sb rfl ?_)
  refine O_join ⟨[(0, .s b), (4, I64 n), (37, B (!upOK b))], []⟩ ?_ (fun s h => C_le _ h ?_)
  · have fin2 : ∀ x : Bool, x = (!upOK b) → some (B x) = some (B (!upOK b)) := fun x hb => by rw [hb]
    refine O_case 33 rfl (fun h3 => ?_) (fun h3 => ?_) <;> repeat (first | refine sc rfl ?_ | refine so rfl ?_ | refine sb rfl ?_)
    · refine Le.sub [] ⟨rfl, rfl, fin2 _ ?_, trivial⟩ rfl
      have h4 : clsE n ≠ 0 := by simpa using h3
      cases hu : upOK b with
      | false => rfl
      | true => exact absurd (hiff.1 hu).1 h4
    · refine Le.sub [] ⟨rfl, rfl, fin2 _ ?_, trivial⟩ rfl
      have h4 : clsE n = 0 := by simpa using h3
      cases hu : upOK b with
      | true => rw [(hiff.1 hu).2]; simp
      | false =>
        have : padL s ≠ b := fun h5 => by rw [hiff.2 ⟨h4, h5⟩] at hu; cases hu
        simpa using this
  refine C_if rfl (fun h3 => ?_) (fun h3 => ?_) <;> simp only [Bool.not_eq_true', Bool.not_eq_false'] at h3
  · repeat (first | refine sc rfl ?_ | refine so rfl ?_ | refine sb rfl ?_)
    exact ⟨_, rfl, rfl, fin _ h3 rfl⟩
  · repeat (first | refine sc rfl ?_ | refine so rfl ?_ | refine sb rfl ?_)
    rw [w64 (by omega) (by omega)]
    repeat (first | refine sc rfl ?_ | refine so rfl ?_ | refine sb rfl ?_ | refine ⟨by omega, ?_⟩)
    refine ⟨_, rfl, rfl, ?_⟩
    unfold unpL unpE
    rw [if_pos h3, if_pos h3, hn, show ((2 : Int) + (n : Int)).toNat - Int.toNat 2 = n by omega]
    rfl

theorem lawUnpads_p (b : List UInt8) (hb : b.length ≤ 9223372036854775000) : FnP Tryd.prog 6 [.s b] (· = B true) := by
  refine FnP.intro Tryd.tabOK Tryd.wide_ Tryd.func6 rfl (by decide) rfl (fun X => ?_)
  repeat (first | refine sc rfl ?_ | refine so rfl ?_ | refine sb rfl ?_)
  refine C_if rfl (fun h => ?_) (fun h => ?_)
  · repeat (first | refine sc rfl ?_ | refine so rfl ?_ | refine sb rfl ?_)
    refine O_call awake07_p (by rfl) (by rfl) (by rfl) (by rfl) (fun r hr => ?_)
    subst hr
    repeat (first | refine sc rfl ?_ | refine so rfl ?_ | refine sb rfl ?_)
    exact ⟨_, rfl, rfl, rfl⟩
  repeat (first | refine sc rfl ?_ | refine so rfl ?_ | refine sb rfl ?_)
  refine O_call (Unpad_p b hb) (by rfl) (by rfl) (by rfl) (by rfl) (fun r hr => ?_)
  subst hr
  repeat (first | refine sc rfl ?_ | refine so rfl ?_ | refine sb rfl ?_)
  refine O_call (refUnpad_p b hb) (by rfl) (by rfl) (by rfl) (by rfl) (fun r hr => ?_)
  subst hr
  repeat (first | refine sc rfl ?_ | refine so rfl ?_ | refine sb rfl ?_)
  refine O_true 24 rfl (by simp) ?_
  repeat (first | refine sc rfl ?_ | refine so rfl ?_ | refine sb rfl ?_)
  refine O_true 29 rfl (by simp) ?_
  repeat (first | refine sc rfl ?_ | refine so rfl ?_ | refine sb rfl ?_)
  refine O_call awake07_p (by rfl) (by rfl) (by rfl) (by rfl) (fun r hr => ?_)
  subst hr
  repeat (first | refine sc rfl ?_ | refine so rfl ?_ | refine sb rfl ?_)
  exact ⟨_, rfl, rfl, rfl⟩
end Go.Proofs
