/- The plain law of unpadding, and the contracts of pad.Unpad and the document's. -/
import Derived.Test.YtgdlhcaidfokkaaDoorGA
import Derived.Test.YtgdlhcaidfokkaaDoorT22
set_option linter.unusedSimpArgs false
set_option linter.unusedVariables false
set_option maxRecDepth 100000
namespace Go.Proofs
open Go.Sy Go.Lib

theorem dw_all {α : Type} (p : α → Bool) : ∀ m : List α, (∀ x ∈ m.dropWhile p, p x = true) → m.dropWhile p = []
  | [], _ => rfl
  | x :: xs, h => by
    by_cases hx : p x = true
    · rw [List.dropWhile_cons_of_pos hx] at h ⊢
      exact dw_all p xs h
    · rw [List.dropWhile_cons_of_neg hx] at h
      exact absurd (h x (List.mem_cons_self ..)) hx
theorem dw_nil {α : Type} (p : α → Bool) : ∀ m : List α, m.dropWhile p = [] ↔ ∀ x ∈ m, p x = true
  | [] => by simp
  | x :: xs => by
    by_cases hx : p x = true
    · rw [List.dropWhile_cons_of_pos hx, dw_nil p xs]
      simp [hx]
    · rw [List.dropWhile_cons_of_neg hx]
      simp [hx]
theorem trimB_nil (l : List UInt8) (c : UInt8) : Lib.trimB l c = [] ↔ ∀ x ∈ l, x = c := by
  unfold Lib.trimB Lib.trimLeftB Lib.trimRightB
  rw [dw_nil]
  constructor
  · intro h
    have h1 : l.reverse.dropWhile (· == c) = [] := dw_all _ _ fun x hx => h x (List.mem_reverse.2 hx)
    rw [dw_nil] at h1
    intro x hx
    simpa using h1 x (List.mem_reverse.2 hx)
  · intro h x hx
    have h1 : l.reverse.dropWhile (· == c) = [] := (dw_nil _ _).2 fun x hx => by simpa using h x (List.mem_reverse.1 hx)
    rw [h1] at hx
    simp at hx

theorem or8 (a b : Nat) (ha : a < 32768) (hb : b < 256) : bitsV .or .i64 ((a * 256 : Nat) : Int) (b : Int) = ((a * 256 + b : Nat) : Int) := by
  have h1 : (a * 256) ||| b = a * 256 + b := by
    have := Nat.two_pow_add_eq_or_of_lt (i := 8) hb a
    rw [show (2 : Nat) ^ 8 = 256 from rfl, Nat.mul_comm] at this
    exact this.symm
  simp only [bitsV]
  rw [show IntKind.i64.bits = 64 from rfl, BitVec.toNat_or, BitVec.ofInt_natCast, BitVec.ofInt_natCast, BitVec.toNat_ofNat, BitVec.toNat_ofNat, Nat.mod_eq_of_lt (by omega), Nat.mod_eq_of_lt (by omega), h1]
  exact w64 (by omega) (by omega)

def nOf (b : List UInt8) : Nat := by_ b 0 * 256 + by_ b 1
def upOK (b : List UInt8) : Bool := decide (2 ≤ b.length ∧ nOf b ≤ 1022 ∧ cls (nOf b) = b.length ∧ Lib.trimB (b.drop (2 + nOf b)) 0 = [])
def unpL (b : List UInt8) : List UInt8 := if upOK b then (b.drop 2).take (nOf b) else []
def unpE (b : List UInt8) : Int := if upOK b then 0 else 1
theorem nOf_lt (b : List UInt8) : nOf b < 65536 := by
  have := by_lt b 0; have := by_lt b 1; unfold nOf; omega

theorem u8_of (x : UInt8) (n : Int) (h : n = (x.toNat : Int)) : UInt8.ofNat (IntKind.u8.wrap n).toNat = x := by
  subst h
  have h1 := UInt8.toNat_lt x
  rw [show IntKind.u8.wrap (x.toNat : Int) = (x.toNat : Int) by
    simp only [IntKind.wrap, IntKind.bits, IntKind.signed, Bool.false_and]
    simp; omega]
  simp
theorem hd2_of (x y : UInt8) : hd2 ((x.toNat * 256 + y.toNat : Nat) : Int) = [x, y] := by
  have := UInt8.toNat_lt x; have := UInt8.toNat_lt y
  unfold hd2
  congr 1
  · exact u8_of x _ (by omega)
  · congr 1
    have h3 : IntKind.u8.wrap ((x.toNat * 256 + y.toNat : Nat) : Int) = IntKind.u8.wrap (y.toNat : Int) := by
      simp only [IntKind.wrap, IntKind.bits, IntKind.signed, Bool.false_and]
      simp
    rw [h3]
    exact u8_of y _ rfl
theorem hd2_by (n : Int) (h0 : 0 ≤ n) (h1 : n ≤ 1022) : ∃ x y : UInt8, hd2 n = [x, y] ∧ x.toNat * 256 + y.toNat = n.toNat := by
  refine ⟨UInt8.ofNat (n.toNat / 256), UInt8.ofNat (n.toNat % 256), ?_, ?_⟩
  · have := hd2_of (UInt8.ofNat (n.toNat / 256)) (UInt8.ofNat (n.toNat % 256))
    rw [UInt8.toNat_ofNat', UInt8.toNat_ofNat', Nat.mod_eq_of_lt (by omega), Nat.mod_eq_of_lt (by omega)] at this
    rw [← this]
    congr 1
    omega
  · rw [UInt8.toNat_ofNat', UInt8.toNat_ofNat', Nat.mod_eq_of_lt (by omega), Nat.mod_eq_of_lt (by omega)]
    omega

theorem pad_len (s : List UInt8) (h : s.length ≤ 1022) : ((padL s).length : Int) = cls s.length := by
  have := cls_bd (n := (s.length : Int)) (by omega) (by omega)
  unfold padL
  rw [if_pos h]
  simp only [List.length_append, List.length_replicate, hd2, List.length_cons, List.length_nil]
  omega
/-- What is padded is unpadded. -/
theorem unp_pad (s : List UInt8) (h : s.length ≤ 1022) : nOf (padL s) = s.length ∧ upOK (padL s) = true ∧ unpL (padL s) = s := by
  obtain ⟨x, y, h1, h2⟩ := hd2_by s.length (by omega) (by omega)
  have hb := cls_bd (n := (s.length : Int)) (by omega) (by omega)
  have hl := pad_len s h
  have hp : padL s = x :: y :: (s ++ List.replicate (cls s.length - 2 - s.length).toNat 0) := by
    unfold padL; rw [if_pos h, h1]; rfl
  have hn : nOf (padL s) = s.length := by
    rw [hp]; unfold nOf by_
    simp only [List.getD_cons_zero, List.getD_cons_succ]
    omega
  have hu : upOK (padL s) = true := by
    unfold upOK
    rw [decide_eq_true_eq, hn, trimB_nil]
    refine ⟨by omega, h, by omega, fun z hz => ?_⟩
    rw [hp, show 2 + s.length = s.length + 1 + 1 by omega, List.drop_succ_cons, List.drop_succ_cons, List.drop_left] at hz
    exact (List.mem_replicate.1 hz).2
  refine ⟨hn, hu, ?_⟩
  unfold unpL
  rw [if_pos hu, hn, hp]
  simp
/-- What was unpadded is padded so. -/
theorem pad_unp (b : List UInt8) (h : upOK b = true) : padL (unpL b) = b ∧ (unpL b).length = nOf b ∧ nOf b ≤ 1022 := by
  have h' := h
  unfold upOK at h'
  rw [decide_eq_true_eq, trimB_nil] at h'
  obtain ⟨h1, h2, h3, h4⟩ := h'
  have hb := cls_bd (n := (nOf b : Int)) (by omega) (by omega)
  match b, h1 with
  | x :: y :: r, _ =>
    have hu : unpL (x :: y :: r) = r.take (nOf (x :: y :: r)) := by unfold unpL; rw [if_pos h]; rfl
    have hn : ((nOf (x :: y :: r) : Nat) : Int) = ((x.toNat * 256 + y.toNat : Nat) : Int) := by unfold nOf by_; simp
    rw [hu]
    generalize nOf (x :: y :: r) = n at *
    have hr : n ≤ r.length := by simp only [List.length_cons] at h3; omega
    have hlen : (r.take n).length = n := by rw [List.length_take]; omega
    refine ⟨?_, hlen, h2⟩
    unfold padL
    rw [hlen, if_pos h2]
    have e1 : hd2 (n : Int) = [x, y] := by rw [hn]; exact hd2_of x y
    have e2 : r.drop n = List.replicate (cls n - 2 - n).toNat 0 := by
      rw [List.eq_replicate_iff]
      refine ⟨by rw [List.length_drop]; simp only [List.length_cons] at h3; omega, fun z hz => h4 z ?_⟩
      rw [show 2 + n = n + 1 + 1 by omega]
      exact hz
    rw [e1, ← e2, List.append_assoc, List.take_append_drop]
    rfl
theorem upOK_iff (b : List UInt8) (h2 : 2 ≤ b.length) (hn : nOf b ≤ b.length - 2) : upOK b = true ↔ clsE (nOf b : Int) = 0 ∧ padL ((b.drop 2).take (nOf b)) = b := by
  constructor
  · intro h
    have h3 := pad_unp b h
    have h4 : unpL b = (b.drop 2).take (nOf b) := by unfold unpL; rw [if_pos h]
    rw [h4] at h3
    refine ⟨?_, h3.1⟩
    unfold clsE
    rw [if_neg (by omega), if_neg (by omega)]
  · rintro ⟨h3, h4⟩
    have h5 : nOf b ≤ 1022 := by
      unfold clsE at h3
      split at h3
      · omega
      · split at h3
        · omega
        · omega
    have := unp_pad ((b.drop 2).take (nOf b)) (by rw [List.length_take]; omega)
    rw [h4] at this
    exact this.2.1
end Go.Proofs

/- Contracts of pad.Unpad and the document's; the law PadUnpads. -/
set_option linter.unusedSimpArgs false
set_option linter.unusedVariables false
set_option maxRecDepth 100000
namespace Go.Proofs
open Go.Sy Go.Lib

theorem Trim_p (l : List UInt8) (hl : l.length ≤ 9223372036854775807) : FnP Tryd.prog 34 [.s l, .s [0]] (· = .s (Lib.trimB l 0)) := by
  refine FnP.ofCalls (vs := [S l, S [0]]) (v := S (Lib.trimB l 0)) ⟨_, Tryd.func34, rfl, by decide⟩ rfl rfl (fun G => by simp only [RepI]) (fun w => ?_)
  refine (Tryd.strings_Trim_one ⟨l.toArray⟩ 0 (by decide) w (by rw [Go.Sy.len_S]; exact hl)).mono ?_
  rintro e w' ⟨rfl, hw⟩
  refine ⟨rfl, ?_⟩
  rcases hw with rfl | rfl
  · exact RowKit.Below.refl _ _
  · exact (RowKit.Below.refl _ _).drew

theorem nOf_prog (b : List UInt8) : bitsV .or .i64 (IntKind.i64.wrap (IntKind.i64.wrap ((b.getD (Int.toNat 0) 0).toNat : Int) * 2 ^ min (Int.toNat 8) IntKind.i64.bits)) (IntKind.i64.wrap ((b.getD (Int.toNat 1) 0).toNat : Int)) = (nOf b : Int) := by
  have h0 := by_lt b 0
  have h1 := by_lt b 1
  rw [show (2 : Int) ^ min (Int.toNat 8) IntKind.i64.bits = 256 by decide]
  show bitsV .or .i64 (IntKind.i64.wrap (IntKind.i64.wrap (by_ b 0 : Int) * 256)) (IntKind.i64.wrap (by_ b 1 : Int)) = _
  rw [w64 (x := (by_ b 0 : Int)) (by omega) (by omega), w64 (x := (by_ b 1 : Int)) (by omega) (by omega), w64 (by omega) (by omega), show ((by_ b 0 : Int) * 256) = ((by_ b 0 * 256 : Nat) : Int) by omega, or8 _ _ (by omega) h1]
  rfl
theorem nOf_ref (b : List UInt8) : IntKind.i64.wrap (IntKind.i64.wrap (IntKind.i64.wrap ((b.getD (Int.toNat 0) 0).toNat : Int) * 256) + IntKind.i64.wrap ((b.getD (Int.toNat 1) 0).toNat : Int)) = (nOf b : Int) := by
  have h0 := by_lt b 0
  have h1 := by_lt b 1
  show IntKind.i64.wrap (IntKind.i64.wrap (IntKind.i64.wrap (by_ b 0 : Int) * 256) + IntKind.i64.wrap (by_ b 1 : Int)) = _
  rw [w64 (x := (by_ b 0 : Int)) (by omega) (by omega), w64 (x := (by_ b 1 : Int)) (by omega) (by omega), w64 (x := (by_ b 0 : Int) * 256) (by omega) (by omega), w64 (by omega) (by omega)]
  unfold nOf
  omega

theorem Unpad_p (b : List UInt8) (hb : b.length ≤ 9223372036854775000) : FnP Tryd.prog 20 [.s b] (· = .tup [.s (unpL b), I64 (unpE b)]) := by
  refine FnP.intro Tryd.tabOK Tryd.wide_ Tryd.func20 rfl (by decide) rfl (fun X => ?_)
  have fin : ∀ r : AV, upOK b = false → r = .tup [.s [], I64 1] → r = .tup [.s (unpL b), I64 (unpE b)] := fun r h hr => by
    rw [hr]; unfold unpL unpE; rw [h]; rfl
  repeat (first | refine sc rfl ?_ | refine so rfl ?_ | refine sb rfl ?_)
  refine C_if rfl (fun h => ?_) (fun h => ?_) <;> simp only [decide_eq_true_eq, decide_eq_false_iff_not] at h
  · repeat (first | refine sc rfl ?_ | refine so rfl ?_ | refine sb rfl ?_)
    exact ⟨_, rfl, rfl, fin _ (by unfold upOK; rw [decide_eq_false_iff_not]; omega) rfl⟩
  have h2 : 2 ≤ b.length := by omega
  have hn16 := nOf_lt b
  repeat (first | refine sc rfl ?_ | refine so rfl ?_ | refine sb rfl ?_)
  refine C_drawD rfl (by kernel_rfl) ?_
  repeat (first | refine sd rfl ?_ | refine sds rfl ?_ | refine sdv rfl ?_ | refine ⟨by omega, ?_⟩ | refine ⟨by decide, ?_⟩)
  rw [nOf_prog]
  obtain ⟨n, hn⟩ : ∃ n, nOf b = n := ⟨_, rfl⟩
  rw [hn] at hn16 ⊢
  repeat (first | refine sc rfl ?_ | refine so rfl ?_ | refine sb rfl ?_)
  refine O_call (Class_p n) (by rfl) (by rfl) (by rfl) (by rfl) (fun r hr => ?_)
  subst hr
  repeat (first | refine sc rfl ?_ | refine so rfl ?_ | refine sb rfl ?_)
  refine O_join ⟨[(0, .s b), (4, I64 n), (38, B (!upOK b))], []⟩ ?_ (fun s h => C_le _ h ?_)
  · have fin2 : ∀ x : Bool, x = (!upOK b) → some (B x) = some (B (!upOK b)) := fun x hb => by rw [hb]
    have hce : clsE n ≠ 0 → upOK b = false := fun he => by
      unfold upOK; rw [decide_eq_false_iff_not, hn]
      rintro ⟨_, h3, _⟩
      apply he
      unfold clsE
      rw [if_neg (by omega), if_neg (by omega)]
    refine O_case 25 rfl (fun h3 => ?_) (fun h3 => ?_) <;> repeat (first | refine sc rfl ?_ | refine so rfl ?_ | refine sb rfl ?_)
    · exact Le.sub [] ⟨rfl, rfl, fin2 _ (by rw [hce (by simpa using h3)]; rfl), trivial⟩ rfl
    · have h4 : clsE n = 0 := by simpa using h3
      have h5 : n ≤ 1022 := by
        unfold clsE at h4
        split at h4
        · omega
        · split at h4 <;> omega
      have h6 := cls_bd (n := (n : Int)) (by omega) (by omega)
      refine O_case 31 rfl (fun h7 => ?_) (fun h7 => ?_) <;> repeat (first | refine sc rfl ?_ | refine so rfl ?_ | refine sb rfl ?_)
      · refine Le.sub [] ⟨rfl, rfl, fin2 _ ?_, trivial⟩ rfl
        have : upOK b = false := by
          unfold upOK; rw [decide_eq_false_iff_not, hn]
          rintro ⟨_, _, h8, _⟩
          rw [h8] at h7
          simp at h7
        rw [this]; rfl
      · have h8 : cls n = b.length := by simpa using h7
        rw [w64 (by omega) (by omega)]
        repeat (first | refine sc rfl ?_ | refine so rfl ?_ | refine sb rfl ?_ | refine ⟨by omega, ?_⟩)
        refine O_call (Trim_p (b.drop ((2 : Int) + (n : Int)).toNat) (by rw [List.length_drop]; omega)) (by rfl) (by rfl) (by rfl) (by rfl) (fun r hr => ?_)
        subst hr
        repeat (first | refine sc rfl ?_ | refine so rfl ?_ | refine sb rfl ?_ | refine ⟨by omega, ?_⟩)
        refine Le.sub [] ⟨rfl, rfl, fin2 _ ?_, trivial⟩ rfl
        rw [show ((2 : Int) + (n : Int)).toNat = 2 + n by omega]
        unfold upOK
        rw [hn]
        by_cases ht : Lib.trimB (b.drop (2 + n)) 0 = []
        · rw [ht, decide_eq_true ⟨h2, h5, h8, rfl⟩]; rfl
        · rw [decide_eq_false (fun h => ht h.2.2.2)]; simpa using ht
  refine C_if rfl (fun h3 => ?_) (fun h3 => ?_) <;> simp only [Bool.not_eq_true', Bool.not_eq_false'] at h3
  · repeat (first | refine sc rfl ?_ | refine so rfl ?_ | refine sb rfl ?_)
    exact ⟨_, rfl, rfl, fin _ h3 rfl⟩
  · have h4 := h3
    unfold upOK at h4
    rw [decide_eq_true_eq, hn] at h4
    have h6 := cls_bd (n := (n : Int)) (by omega) (by omega)
    repeat (first | refine sc rfl ?_ | refine so rfl ?_ | refine sb rfl ?_)
    rw [w64 (by omega) (by omega)]
    repeat (first | refine sc rfl ?_ | refine so rfl ?_ | refine sb rfl ?_ | refine ⟨by omega, ?_⟩)
    refine ⟨_, rfl, rfl, ?_⟩
    unfold unpL unpE
    rw [if_pos h3, if_pos h3, hn, show ((2 : Int) + (n : Int)).toNat - Int.toNat 2 = n by omega]
    rfl

theorem refUnpad_p (b : List UInt8) (hb : b.length ≤ 9223372036854775000) : FnP Tryd.prog 21 [.s b] (· = .tup [.s (unpL b), I64 (unpE b)]) := by
  refine FnP.intro Tryd.tabOK Tryd.wide_ Tryd.func21 rfl (by decide) rfl (fun X => ?_)
  have fin : ∀ r : AV, upOK b = false → r = .tup [.s [], I64 1] → r = .tup [.s (unpL b), I64 (unpE b)] := fun r h hr => by
    rw [hr]; unfold unpL unpE; rw [h]; rfl
  repeat (first | refine sc rfl ?_ | refine so rfl ?_ | refine sb rfl ?_)
  refine C_if rfl (fun h => ?_) (fun h => ?_) <;> simp only [decide_eq_true_eq, decide_eq_false_iff_not] at h
  · repeat (first | refine sc rfl ?_ | refine so rfl ?_ | refine sb rfl ?_)
    exact ⟨_, rfl, rfl, fin _ (by unfold upOK; rw [decide_eq_false_iff_not]; omega) rfl⟩
  have h2 : 2 ≤ b.length := by omega
  have hn16 := nOf_lt b
  repeat (first | refine sc rfl ?_ | refine so rfl ?_ | refine sb rfl ?_)
  refine C_drawD rfl (by kernel_rfl) ?_
  repeat (first | refine sd rfl ?_ | refine sds rfl ?_ | refine sdv rfl ?_ | refine ⟨by omega, ?_⟩ | refine ⟨by decide, ?_⟩)
  rw [nOf_ref]
  have hiff := upOK_iff b h2
  obtain ⟨n, hn⟩ : ∃ n, nOf b = n := ⟨_, rfl⟩
  rw [hn] at hn16 hiff ⊢
  repeat (first | refine sc rfl ?_ | refine so rfl ?_ | refine sb rfl ?_)
  rw [w64 (by omega) (by omega)]
  refine C_if rfl (fun h3 => ?_) (fun h3 => ?_) <;> simp only [decide_eq_true_eq, decide_eq_false_iff_not] at h3
  · repeat (first | refine sc rfl ?_ | refine so rfl ?_ | refine sb rfl ?_)
    refine ⟨_, rfl, rfl, fin _ ?_ rfl⟩
    unfold upOK
    rw [decide_eq_false_iff_not, hn]
    rintro ⟨_, h4, h5, _⟩
    have h6 := cls_bd (n := (n : Int)) (by omega) (by omega)
    omega
  have hle : n ≤ b.length - 2 := by omega
  replace hiff := hiff hle
  obtain ⟨s, hs⟩ : ∃ s, (b.drop 2).take n = s := ⟨_, rfl⟩
  rw [hs] at hiff
  have hsl : s.length = n := by rw [← hs, List.length_take, List.length_drop]; omega
  repeat (first | refine sc rfl ?_ | refine so rfl ?_ | refine sb rfl ?_)
  rw [w64 (by omega) (by omega)]
  repeat (first | refine sc rfl ?_ | refine so rfl ?_ | refine sb rfl ?_ | refine ⟨by omega, ?_⟩)
  rw [show List.take (((2 : Int) + (n : Int)).toNat - Int.toNat 2) (List.drop (Int.toNat 2) b) = s by rw [show ((2 : Int) + (n : Int)).toNat - Int.toNat 2 = n by omega]; exact hs]
  refine O_call (refPad_p s (by omega)) (by rfl) (by rfl) (by rfl) (by rfl) (fun r hr => ?_)
  subst hr
  rw [hsl]
  repeat (first | refine sc rfl ?_ | refine so rfl ?_ | refine sb rfl ?_)
  refine O_join ⟨[(0, .s b), (4, I64 n), (37, B (!upOK b))], []⟩ ?_ (fun s h => C_le _ h ?_)
  · have fin2 : ∀ x : Bool, x = (!upOK b) → some (B x) = some (B (!upOK b)) := fun x hb => by rw [hb]
    refine O_case 33 rfl (fun h3 => ?_) (fun h3 => ?_) <;> repeat (first | refine sc rfl ?_ | refine so rfl ?_ | refine sb rfl ?_)
    · refine Le.sub [] ⟨rfl, rfl, fin2 _ ?_, trivial⟩ rfl
      have h4 : clsE n ≠ 0 := by simpa using h3
      cases hu : upOK b with
      | false => rfl
      | true => exact absurd (hiff.1 hu).1 h4
    · refine Le.sub [] ⟨rfl, rfl, fin2 _ ?_, trivial⟩ rfl
      have h4 : clsE n = 0 := by simpa using h3
      cases hu : upOK b with
      | true => rw [(hiff.1 hu).2]; simp
      | false =>
        have : padL s ≠ b := fun h5 => by rw [hiff.2 ⟨h4, h5⟩] at hu; cases hu
        simpa using this
  refine C_if rfl (fun h3 => ?_) (fun h3 => ?_) <;> simp only [Bool.not_eq_true', Bool.not_eq_false'] at h3
  · repeat (first | refine sc rfl ?_ | refine so rfl ?_ | refine sb rfl ?_)
    exact ⟨_, rfl, rfl, fin _ h3 rfl⟩
  · repeat (first | refine sc rfl ?_ | refine so rfl ?_ | refine sb rfl ?_)
    rw [w64 (by omega) (by omega)]
    repeat (first | refine sc rfl ?_ | refine so rfl ?_ | refine sb rfl ?_ | refine ⟨by omega, ?_⟩)
    refine ⟨_, rfl, rfl, ?_⟩
    unfold unpL unpE
    rw [if_pos h3, if_pos h3, hn, show ((2 : Int) + (n : Int)).toNat - Int.toNat 2 = n by omega]
    rfl

theorem lawUnpads_p (b : List UInt8) (hb : b.length ≤ 9223372036854775000) : FnP Tryd.prog 6 [.s b] (· = B true) := by
  refine FnP.intro Tryd.tabOK Tryd.wide_ Tryd.func6 rfl (by decide) rfl (fun X => ?_)
  repeat (first | refine sc rfl ?_ | refine so rfl ?_ | refine sb rfl ?_)
  refine C_if rfl (fun h => ?_) (fun h => ?_)
  · repeat (first | refine sc rfl ?_ | refine so rfl ?_ | refine sb rfl ?_)
    refine O_call awake07_p (by rfl) (by rfl) (by rfl) (by rfl) (fun r hr => ?_)
    subst hr
    repeat (first | refine sc rfl ?_ | refine so rfl ?_ | refine sb rfl ?_)
    exact ⟨_, rfl, rfl, rfl⟩
  repeat (first | refine sc rfl ?_ | refine so rfl ?_ | refine sb rfl ?_)
  refine O_call (Unpad_p b hb) (by rfl) (by rfl) (by rfl) (by rfl) (fun r hr => ?_)
  subst hr
  repeat (first | refine sc rfl ?_ | refine so rfl ?_ | refine sb rfl ?_)
  refine O_call (refUnpad_p b hb) (by rfl) (by rfl) (by rfl) (by rfl) (fun r hr => ?_)
  subst hr
  repeat (first | refine sc rfl ?_ | refine so rfl ?_ | refine sb rfl ?_)
  refine O_true 24 rfl (by simp) ?_
  repeat (first | refine sc rfl ?_ | refine so rfl ?_ | refine sb rfl ?_)
  refine O_true 29 rfl (by simp) ?_
  repeat (first | refine sc rfl ?_ | refine so rfl ?_ | refine sb rfl ?_)
  refine O_call awake07_p (by rfl) (by rfl) (by rfl) (by rfl) (fun r hr => ?_)
  subst hr
  repeat (first | refine sc rfl ?_ | refine so rfl ?_ | refine sb rfl ?_)
  exact ⟨_, rfl, rfl, rfl⟩
end Go.Proofs

/- The law PadBack. -/
set_option linter.unusedSimpArgs false
set_option linter.unusedVariables false
set_option maxRecDepth 100000
namespace Go.Proofs
open Go.Sy Go.Lib

theorem clsE_iff (s : List UInt8) : clsE (s.length : Int) = 0 ↔ s.length ≤ 1022 := by
  unfold clsE
  rw [if_neg (by omega)]
  split <;> simp <;> omega
theorem unpE_iff (b : List UInt8) : unpE b = 0 ↔ upOK b = true := by
  unfold unpE
  split <;> simp_all

theorem lawBack_p (a b : List UInt8) (ha : a.length ≤ 9223372036854775000) (hb : b.length ≤ 9223372036854775000) : FnP Tryd.prog 7 [.s a, .s b] (· = B true) := by
  refine FnP.intro Tryd.tabOK Tryd.wide_ Tryd.func7 rfl (by decide) rfl (fun X => ?_)
  repeat (first | refine sc rfl ?_ | refine so rfl ?_ | refine sb rfl ?_)
  refine O_join ⟨[(0, .s a), (1, .s b), (26, B (decide (5000 < a.length ∨ 5000 < b.length)))], []⟩ ?_ (fun s h => C_le _ h ?_)
  · have fin : ∀ x : Bool, x = decide (5000 < a.length ∨ 5000 < b.length) → some (B x) = some (B (decide (5000 < a.length ∨ 5000 < b.length))) := fun x hb => by rw [hb]
    refine O_case 22 rfl (fun h5 => ?_) (fun h5 => ?_) <;> simp only [decide_eq_true_eq, decide_eq_false_iff_not] at h5 <;> repeat (first | refine sc rfl ?_ | refine so rfl ?_ | refine sb rfl ?_)
    · exact Le.sub [] ⟨rfl, rfl, fin _ (by rw [Bool.eq_iff_iff]; simp only [decide_eq_true_eq, true_iff]; omega), trivial⟩ rfl
    · exact Le.sub [] ⟨rfl, rfl, fin _ (by rw [Bool.eq_iff_iff]; simp only [decide_eq_true_eq]; omega), trivial⟩ rfl
  refine C_if rfl (fun h => ?_) (fun h => ?_)
  · repeat (first | refine sc rfl ?_ | refine so rfl ?_ | refine sb rfl ?_)
    refine O_call awake07_p (by rfl) (by rfl) (by rfl) (by rfl) (fun r hr => ?_)
    subst hr
    repeat (first | refine sc rfl ?_ | refine so rfl ?_ | refine sb rfl ?_)
    exact ⟨_, rfl, rfl, rfl⟩
  repeat (first | refine sc rfl ?_ | refine so rfl ?_ | refine sb rfl ?_)
  refine O_call (Pad_p a (by omega)) (by rfl) (by rfl) (by rfl) (by rfl) (fun r hr => ?_)
  subst hr
  repeat (first | refine sc rfl ?_ | refine so rfl ?_ | refine sb rfl ?_)
  refine O_call (Pad_p b (by omega)) (by rfl) (by rfl) (by rfl) (by rfl) (fun r hr => ?_)
  subst hr
  repeat (first | refine sc rfl ?_ | refine so rfl ?_ | refine sb rfl ?_)
  refine O_call (Class_p a.length) (by rfl) (by rfl) (by rfl) (by rfl) (fun r hr => ?_)
  subst hr
  repeat (first | refine sc rfl ?_ | refine so rfl ?_ | refine sb rfl ?_)
  refine O_call (Class_p b.length) (by rfl) (by rfl) (by rfl) (by rfl) (fun r hr => ?_)
  subst hr
  repeat (first | refine sc rfl ?_ | refine so rfl ?_ | refine sb rfl ?_)
  have hae := clsE_iff a
  have hbe := clsE_iff b
  have hal := pad_len a
  have hbl := pad_len b
  refine O_false 53 rfl (by simp) ?_
  repeat (first | refine sc rfl ?_ | refine so rfl ?_ | refine sb rfl ?_)
  refine O_false 58 rfl (by simp) ?_
  repeat (first | refine sc rfl ?_ | refine so rfl ?_ | refine sb rfl ?_)
  refine O_join ⟨[(0, .s a), (1, .s b), (5, .s (padL a)), (6, I64 (clsE a.length)), (76, B false)], []⟩ ?_ (fun s h => C_le _ h ?_)
  · refine O_case 61 rfl (fun h1 => ?_) (fun h1 => ?_) <;> repeat (first | refine sc rfl ?_ | refine so rfl ?_ | refine sb rfl ?_)
    · refine O_case 65 rfl (fun h2 => ?_) (fun h2 => ?_) <;> repeat (first | refine sc rfl ?_ | refine so rfl ?_ | refine sb rfl ?_)
      · have h3 : a.length ≤ 1022 := hae.1 (by simpa using h1)
        have h4 : b.length ≤ 1022 := hbe.1 (by simpa using h2)
        refine Le.sub [] ⟨rfl, rfl, rfl, rfl, congrArg (fun x => some (B x)) ?_, trivial⟩ rfl
        rw [hal h3, hbl h4]
        simp
      · exact Le.sub [] ⟨rfl, rfl, rfl, rfl, rfl, trivial⟩ rfl
    · exact Le.sub [] ⟨rfl, rfl, rfl, rfl, rfl, trivial⟩ rfl
  refine C_false rfl rfl ?_
  repeat (first | refine sc rfl ?_ | refine so rfl ?_ | refine sb rfl ?_)
  refine C_ifJ ⟨[(1, .s b)], []⟩ rfl (fun h1 => ?_) (fun h1 => ?_) (fun s h => C_le _ h ?_)
  · have h3 : a.length ≤ 1022 := hae.1 (by simpa using h1)
    obtain ⟨u1, u2, u3⟩ := unp_pad a h3
    repeat (first | refine sc rfl ?_ | refine so rfl ?_ | refine sb rfl ?_)
    refine O_call (Unpad_p (padL a) (by have := hal h3; have := cls_bd (n := (a.length : Int)) (by omega) (by omega); omega)) (by rfl) (by rfl) (by rfl) (by rfl) (fun r hr => ?_)
    subst hr
    rw [u3, (unpE_iff _).2 u2]
    repeat (first | refine sc rfl ?_ | refine so rfl ?_ | refine sb rfl ?_)
    refine O_false 87 rfl (by simp) ?_
    repeat (first | refine sc rfl ?_ | refine so rfl ?_ | refine sb rfl ?_)
    refine C_false rfl rfl ?_
    repeat (first | refine sc rfl ?_ | refine so rfl ?_ | refine sb rfl ?_)
    exact Le.sub [] ⟨rfl, trivial⟩ rfl
  · repeat (first | refine sc rfl ?_ | refine so rfl ?_ | refine sb rfl ?_)
    exact Le.sub [] ⟨rfl, trivial⟩ rfl
  repeat (first | refine sc rfl ?_ | refine so rfl ?_ | refine sb rfl ?_)
  refine O_call (Unpad_p b hb) (by rfl) (by rfl) (by rfl) (by rfl) (fun r hr => ?_)
  subst hr
  repeat (first | refine sc rfl ?_ | refine so rfl ?_ | refine sb rfl ?_)
  refine C_ifJ ⟨[], []⟩ rfl (fun h1 => ?_) (fun h1 => ?_) (fun s h => C_le _ h ?_)
  · have h3 : upOK b = true := (unpE_iff _).1 (by simpa using h1)
    obtain ⟨u1, u2, u3⟩ := pad_unp b h3
    repeat (first | refine sc rfl ?_ | refine so rfl ?_ | refine sb rfl ?_)
    refine O_call (Pad_p (unpL b) (by omega)) (by rfl) (by rfl) (by rfl) (by rfl) (fun r hr => ?_)
    subst hr
    rw [u1, (clsE_iff _).2 (by omega)]
    repeat (first | refine sc rfl ?_ | refine so rfl ?_ | refine sb rfl ?_)
    refine O_false 106 rfl (by simp) ?_
    repeat (first | refine sc rfl ?_ | refine so rfl ?_ | refine sb rfl ?_)
    refine C_false rfl rfl ?_
    repeat (first | refine sc rfl ?_ | refine so rfl ?_ | refine sb rfl ?_)
    exact Le.sub [] trivial rfl
  · repeat (first | refine sc rfl ?_ | refine so rfl ?_ | refine sb rfl ?_)
    exact Le.sub [] trivial rfl
  repeat (first | refine sc rfl ?_ | refine so rfl ?_ | refine sb rfl ?_)
  refine O_call awake07_p (by rfl) (by rfl) (by rfl) (by rfl) (fun r hr => ?_)
  subst hr
  repeat (first | refine sc rfl ?_ | refine so rfl ?_ | refine sb rfl ?_)
  exact ⟨_, rfl, rfl, rfl⟩
end Go.Proofs

/- The law ReplyHides. -/
set_option linter.unusedSimpArgs false
set_option linter.unusedVariables false
set_option maxRecDepth 100000
namespace Go.Proofs
open Go.Sy Go.Lib

theorem fput_ok {b : List UInt8} (h : b.length ≤ 1024) : fputE 9 0 b = 0 ∧ fputL 9 0 b = [b8 9, b8 0, b8 (b.length / 256), b8 b.length] ++ b := by
  unfold fputE fputL
  rw [if_neg (by omega), if_neg (by omega), if_neg (by omega), if_pos (by omega)]
  exact ⟨rfl, rfl⟩
theorem padL_le (s : List UInt8) : (padL s).length ≤ 1024 := by
  by_cases h : s.length ≤ 1022
  · have := pad_len s h
    have := cls_bd (n := (s.length : Int)) (by omega) (by omega)
    omega
  · unfold padL; rw [if_neg h]; simp
/-- What a reply's bytes are, where there are any. -/
theorem rput_ok {n : Nat} {st : Int} {d : List UInt8} (h : rputE n st d = 0) :
    0 ≤ st ∧ st ≤ 1048576 ∧ (rp n st d).length ≤ 1022 ∧ rputL n st d = [b8 9, b8 0, b8 ((padL (rp n st d)).length / 256), b8 (padL (rp n st d)).length] ++ padL (rp n st d) := by
  unfold rputE at h
  split at h
  · rename_i h1
    split at h
    · rename_i h2
      have h3 := (clsE_iff _).1 h2
      refine ⟨h1.1, h1.2, h3, ?_⟩
      unfold rputL
      rw [if_pos h1, if_pos h2]
      exact (fput_ok (padL_le _)).2
    · omega
  · omega
theorem rput_is (n : Nat) (st : Int) (d : List UInt8) : rputE n st d = (if 0 ≤ st ∧ st ≤ 1048576 then (if (rp n st d).length ≤ 1022 then 0 else 3) else 1) := by
  unfold rputE
  split
  · by_cases h : (rp n st d).length ≤ 1022
    · rw [if_pos ((clsE_iff _).2 h), if_pos h]
      exact (fput_ok (padL_le _)).1
    · rw [if_neg (fun h2 => h ((clsE_iff _).1 h2)), if_neg h]
  · rfl
theorem rp_len (n : Nat) (st : Int) (d : List UInt8) : (rp n st d).length = (vput st.toNat).length + (vput n).length + d.length := by
  unfold rp; rw [List.length_append, List.length_append]
theorem rput_same {n : Nat} {st : Int} {d e : List UInt8} (h : d.length = e.length) : rputE n st d = rputE n st e ∧ (rputL n st d).length = (rputL n st e).length := by
  have h1 : (rp n st d).length = (rp n st e).length := by rw [rp_len, rp_len, h]
  refine ⟨by rw [rput_is, rput_is, h1], ?_⟩
  unfold rputL
  rw [h1]
  split
  · split
    · rename_i h2
      have h3 := (clsE_iff _).1 (h1 ▸ h2 : clsE ((rp n st e).length : Int) = 0)
      have h5 := pad_len _ h3
      have h4 := pad_len (rp n st d) (by omega)
      rw [(fput_ok (padL_le _)).2, (fput_ok (padL_le _)).2, List.length_append, List.length_append]
      rw [h1] at h4
      simp only [List.length_cons, List.length_nil]
      omega
    · rfl
  · rfl
theorem cls_six {n : Int} (h0 : 0 ≤ n) (h1 : n ≤ 1022) : cls n = 32 ∨ cls n = 64 ∨ cls n = 128 ∨ cls n = 256 ∨ cls n = 512 ∨ cls n = 1024 := by
  unfold cls; repeat' split
  all_goals omega

theorem lawHides_p (n : Nat) (st : Int) (d s : List UInt8) (hn : n < 18446744073709551616) (hd : d.length ≤ 140737488355308) (hs : s.length ≤ 140737488355308) : FnP Tryd.prog 8 [.agg [U64 (n : Int), I64 st, .s d], .s s] (· = B true) := by
  refine FnP.intro Tryd.tabOK Tryd.wide_ Tryd.func8 rfl (by decide) rfl (fun X => ?_)
  repeat (first | refine sc rfl ?_ | refine so rfl ?_ | refine sb rfl ?_)
  refine O_call (ours35_p (n : Int) st d) (by rfl) (by rfl) (by rfl) (by rfl) (fun r hr => ?_)
  subst hr
  repeat (first | refine sc rfl ?_ | refine so rfl ?_ | refine sb rfl ?_)
  refine O_call (rPut_p n st d hn hd) (by rfl) (by rfl) (by rfl) (by rfl) (fun r hr => ?_)
  subst hr
  repeat (first | refine sc rfl ?_ | refine so rfl ?_ | refine sb rfl ?_)
  refine O_call (ours35_p (n : Int) st d) (by rfl) (by rfl) (by rfl) (by rfl) (fun r hr => ?_)
  subst hr
  repeat (first | refine sc rfl ?_ | refine so rfl ?_ | refine sb rfl ?_)
  refine O_call (rPut_p n st s hn hs) (by rfl) (by rfl) (by rfl) (by rfl) (fun r hr => ?_)
  subst hr
  obtain ⟨A, hA⟩ : ∃ A, rputL n st d = A := ⟨_, rfl⟩
  obtain ⟨E, hE⟩ : ∃ A, rputE n st d = A := ⟨_, rfl⟩
  obtain ⟨A2, hA2⟩ : ∃ A, rputL n st s = A := ⟨_, rfl⟩
  obtain ⟨E2, hE2⟩ : ∃ A, rputE n st s = A := ⟨_, rfl⟩
  have hsame := @rput_same n st d s
  have hok := @rput_ok n st d
  have hok2 := @rput_ok n st s
  rw [hA, hE, hA2, hE2] at hsame
  rw [hA, hE] at hok
  rw [hA2, hE2] at hok2
  rw [hA, hE, hA2, hE2]
  repeat (first | refine sc rfl ?_ | refine so rfl ?_ | refine sb rfl ?_)
  refine O_join ⟨[(5, .s A), (6, I64 E), (8, .s A2), (9, I64 E2), (51, B false)], []⟩ ?_ (fun s' h' => C_le _ h' ?_)
  · refine O_case 40 rfl (fun h1 => ?_) (fun h1 => ?_) <;> repeat (first | refine sc rfl ?_ | refine so rfl ?_ | refine sb rfl ?_)
    · have h2 : d.length = s.length := by simp at h1; omega
      obtain ⟨g1, g2⟩ := hsame h2
      refine O_false 46 rfl (by rw [g2]; simp) ?_
      repeat (first | refine sc rfl ?_ | refine so rfl ?_ | refine sb rfl ?_)
      refine Le.sub [] ⟨rfl, rfl, rfl, rfl, congrArg (fun x => some (B x)) ?_, trivial⟩ rfl
      rw [g1]; simp
    · exact Le.sub [] ⟨rfl, rfl, rfl, rfl, rfl, trivial⟩ rfl
  refine C_false rfl rfl ?_
  repeat (first | refine sc rfl ?_ | refine so rfl ?_ | refine sb rfl ?_)
  refine O_join ⟨[(5, .s A), (8, .s A2), (57, B (decide (¬ (E = 0 ∧ E2 = 0))))], []⟩ ?_ (fun s' h' => C_le _ h' ?_)
  · have fin : ∀ x : Bool, x = decide (¬ (E = 0 ∧ E2 = 0)) → some (B x) = some (B (decide (¬ (E = 0 ∧ E2 = 0)))) := fun x hb => by rw [hb]
    refine O_case 54 rfl (fun h5 => ?_) (fun h5 => ?_) <;> simp at h5 <;> repeat (first | refine sc rfl ?_ | refine so rfl ?_ | refine sb rfl ?_)
    · exact Le.sub [] ⟨rfl, rfl, fin _ (by rw [Bool.eq_iff_iff]; simp; omega), trivial⟩ rfl
    · exact Le.sub [] ⟨rfl, rfl, fin _ (by rw [Bool.eq_iff_iff]; simp; omega), trivial⟩ rfl
  refine C_if rfl (fun h1 => ?_) (fun h1 => ?_)
  · repeat (first | refine sc rfl ?_ | refine so rfl ?_ | refine sb rfl ?_)
    refine O_call awake35_p (by rfl) (by rfl) (by rfl) (by rfl) (fun r hr => ?_)
    subst hr
    repeat (first | refine sc rfl ?_ | refine so rfl ?_ | refine sb rfl ?_)
    exact ⟨_, rfl, rfl, rfl⟩
  have h2 : E = 0 ∧ E2 = 0 := by simpa using h1
  obtain ⟨-, -, q1, rfl⟩ := hok h2.1
  obtain ⟨-, -, q2, rfl⟩ := hok2 h2.2
  obtain ⟨u1, u2, u3⟩ := unp_pad _ q1
  obtain ⟨v1, v2, v3⟩ := unp_pad _ q2
  have l1 := pad_len _ q1
  have l2 := pad_len _ q2
  have c1 := cls_six (n := ((rp n st d).length : Int)) (by omega) (by omega)
  have c2 := cls_six (n := ((rp n st s).length : Int)) (by omega) (by omega)
  have k1 := padL_le (rp n st d)
  have k2 := padL_le (rp n st s)
  generalize rp n st d = p at *
  generalize rp n st s = p2 at *
  clear hsame hok hok2 hA hA2 hE hE2 h1 h2
  have e1 : ([b8 9, b8 0, b8 ((padL p).length / 256), b8 (padL p).length] ++ padL p).length = (padL p).length + 4 := by simp
  have e2 : ([b8 9, b8 0, b8 ((padL p2).length / 256), b8 (padL p2).length] ++ padL p2).length = (padL p2).length + 4 := by simp
  have d1 : ([b8 9, b8 0, b8 ((padL p).length / 256), b8 (padL p).length] ++ padL p).drop 4 = padL p := rfl
  have d2 : ([b8 9, b8 0, b8 ((padL p2).length / 256), b8 (padL p2).length] ++ padL p2).drop 4 = padL p2 := rfl
  generalize [b8 9, b8 0, b8 ((padL p).length / 256), b8 (padL p).length] ++ padL p = A at *
  generalize [b8 9, b8 0, b8 ((padL p2).length / 256), b8 (padL p2).length] ++ padL p2 = A2 at *
  repeat (first | refine sc rfl ?_ | refine so rfl ?_ | refine sb rfl ?_)
  refine O_false 62 rfl (by rw [e1]; simp; omega) ?_
  repeat (first | refine sc rfl ?_ | refine so rfl ?_ | refine sb rfl ?_)
  refine C_false rfl (by rw [e2]; simp; omega) ?_
  repeat (first | refine sc rfl ?_ | refine so rfl ?_ | refine sb rfl ?_ | refine ⟨by omega, ?_⟩)
  rw [show A.drop (Int.toNat 4) = padL p from d1]
  refine O_call (Unpad_p (padL p) (by omega)) (by rfl) (by rfl) (by rfl) (by rfl) (fun r hr => ?_)
  subst hr
  rw [u3]
  repeat (first | refine sc rfl ?_ | refine so rfl ?_ | refine sb rfl ?_ | refine ⟨by omega, ?_⟩)
  rw [show A2.drop (Int.toNat 4) = padL p2 from d2]
  refine O_call (Unpad_p (padL p2) (by omega)) (by rfl) (by rfl) (by rfl) (by rfl) (fun r hr => ?_)
  subst hr
  rw [v3]
  repeat (first | refine sc rfl ?_ | refine so rfl ?_ | refine sb rfl ?_ | refine ⟨by omega, ?_⟩)
  refine O_call (Class_p p.length) (by rfl) (by rfl) (by rfl) (by rfl) (fun r hr => ?_)
  subst hr
  repeat (first | refine sc rfl ?_ | refine so rfl ?_ | refine sb rfl ?_ | refine ⟨by omega, ?_⟩)
  refine O_call (Class_p p2.length) (by rfl) (by rfl) (by rfl) (by rfl) (fun r hr => ?_)
  subst hr
  repeat (first | refine sc rfl ?_ | refine so rfl ?_ | refine sb rfl ?_ | refine ⟨by omega, ?_⟩)
  rw [w64 (by omega) (by omega), show ((A.length : Int) - 4) = cls p.length by omega]
  refine O_true 103 rfl ?_ ?_
  · rw [beq_iff_eq, Bool.eq_iff_iff, beq_iff_eq, beq_iff_eq]
    omega
  repeat (first | refine sc rfl ?_ | refine so rfl ?_ | refine sb rfl ?_ | refine ⟨by omega, ?_⟩)
  refine O_true 108 rfl (by simp) ?_
  repeat (first | refine sc rfl ?_ | refine so rfl ?_ | refine sb rfl ?_ | refine ⟨by omega, ?_⟩)
  obtain ⟨c, hc⟩ : ∃ c, cls (p.length : Int) = c := ⟨_, rfl⟩
  rw [hc] at c1 ⊢
  clear hc l1
  rcases c1 with rfl | rfl | rfl | rfl | rfl | rfl
  all_goals
    repeat (first | refine sc rfl ?_ | refine so rfl ?_ | refine sb rfl ?_ | refine ⟨by omega, ?_⟩)
    refine O_call awake35_p (by rfl) (by rfl) (by rfl) (by rfl) (fun r hr => ?_)
    subst hr
    repeat (first | refine sc rfl ?_ | refine so rfl ?_ | refine sb rfl ?_)
    exact ⟨_, rfl, rfl, rfl⟩
end Go.Proofs
