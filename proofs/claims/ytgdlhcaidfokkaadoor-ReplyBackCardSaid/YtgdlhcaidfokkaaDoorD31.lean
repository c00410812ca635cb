/- The plain law of unpadding, and the contracts of pad.Unpad and the document's. -/
import Derived.Test.YtgdlhcaidfokkaaDoorD12
import Derived.Test.YtgdlhcaidfokkaaDoorT22
set_option linter.unusedSimpArgs false
set_option linter.unusedVariables false
set_option maxRecDepth 100000
namespace Go.Proofs
open Go.Sy Go.Lib

theorem dw_all {α : Type} (p : α → Bool) : ∀ m : List α, (∀ x ∈ m.dropWhile p, p x = true) → m.dropWhile p = []
  | [], _ => rfl
  | x :: xs, h => by
    by_cases hx : p x = true
    · rw [List.dropWhile_cons_of_pos hx] at h ⊢
      exact dw_all p xs h
    · rw [List.dropWhile_cons_of_neg hx] at h
      exact absurd (h x (List.mem_cons_self ..)) hx
theorem dw_nil {α : Type} (p : α → Bool) : ∀ m : List α, m.dropWhile p = [] ↔ ∀ x ∈ m, p x = true
  | [] => by simp
  | x :: xs => by
    by_cases hx : p x = true
    · rw [List.dropWhile_cons_of_pos hx, dw_nil p xs]
      simp [hx]
    · rw [List.dropWhile_cons_of_neg hx]
      simp [hx]
theorem trimB_nil (l : List UInt8) (c : UInt8) : Lib.trimB l c = [] ↔ ∀ x ∈ l, x = c := by
  unfold Lib.trimB Lib.trimLeftB Lib.trimRightB
  rw [dw_nil]
  constructor
  · intro h
    have h1 : l.reverse.dropWhile (· == c) = [] := dw_all _ _ fun x hx => h x (List.mem_reverse.2 hx)
    rw [dw_nil] at h1
    intro x hx
    simpa using h1 x (List.mem_reverse.2 hx)
  · intro h x hx
    have h1 : l.reverse.dropWhile (· == c) = [] := (dw_nil _ _).2 fun x hx => by simpa using h x (List.mem_reverse.1 hx)
    rw [h1] at hx
    simp at hx

theorem or8 (a b : Nat) (ha : a < 32768) (hb : b < 256) : bitsV .or .i64 ((a * 256 : Nat) : Int) (b : Int) = ((a * 256 + b : Nat) : Int) := by
  have h1 : (a * 256) ||| b = a * 256 + b := by
    have := Nat.two_pow_add_eq_or_of_lt (i := 8) hb a
    rw [show (2 : Nat) ^ 8 = 256 from rfl, Nat.mul_comm] at this
    exact this.symm
  simp only [bitsV]
  rw [show IntKind.i64.bits = 64 from rfl, BitVec.toNat_or, BitVec.ofInt_natCast, BitVec.ofInt_natCast, BitVec.toNat_ofNat, BitVec.toNat_ofNat, Nat.mod_eq_of_lt (by omega), Nat.mod_eq_of_lt (by omega), h1]
  exact w64 (by omega) (by omega)

def nOf (b : List UInt8) : Nat := by_ b 0 * 256 + by_ b 1
def upOK (b : List UInt8) : Bool := decide (2 ≤ b.length ∧ nOf b ≤ 1022 ∧ cls (nOf b) = b.length ∧ Lib.trimB (b.drop (2 + nOf b)) 0 = [])
def unpL (b : List UInt8) : List UInt8 := if upOK b then (b.drop 2).take (nOf b) else []
def unpE (b : List UInt8) : Int := if upOK b then 0 else 1
theorem nOf_lt (b : List UInt8) : nOf b < 65536 := by
  have := by_lt b 0; have := by_lt b 1; unfold nOf; omega

theorem u8_of (x : UInt8) (n : Int) (h : n = (x.toNat : Int)) : UInt8.ofNat (IntKind.u8.wrap n).toNat = x := by
  subst h
  have h1 := UInt8.toNat_lt x
  rw [show IntKind.u8.wrap (x.toNat : Int) = (x.toNat : Int) by
    simp only [IntKind.wrap, IntKind.bits, IntKind.signed, Bool.false_and]
    simp; omega]
  simp
theorem hd2_of (x y : UInt8) : hd2 ((x.toNat * 256 + y.toNat : Nat) : Int) = [x, y] := by
  have := UInt8.toNat_lt x; have := UInt8.toNat_lt y
  unfold hd2
  congr 1
  · exact u8_of x _ (by omega)
  · congr 1
    have h3 : IntKind.u8.wrap ((x.toNat * 256 + y.toNat : Nat) : Int) = IntKind.u8.wrap (y.toNat : Int) := by
      simp only [IntKind.wrap, IntKind.bits, IntKind.signed, Bool.false_and]
      simp
    rw [h3]
    exact u8_of y _ rfl
theorem hd2_by (n : Int) (h0 : 0 ≤ n) (h1 : n ≤ 1022) : ∃ x y : UInt8, hd2 n = [x, y] ∧ x.toNat * 256 + y.toNat = n.toNat := by
  refine ⟨UInt8.ofNat (n.toNat / 256), UInt8.ofNat (n.toNat % 256), ?_, ?_⟩
  · have := hd2_of (UInt8.ofNat (n.toNat / 256)) (UInt8.ofNat (n.toNat % 256))
    rw [UInt8.toNat_ofNat', UInt8.toNat_ofNat', Nat.mod_eq_of_lt (by omega), Nat.mod_eq_of_lt (by omega)] at this
    rw [← this]
    congr 1
    omega
  · rw [UInt8.toNat_ofNat', UInt8.toNat_ofNat', Nat.mod_eq_of_lt (by omega), Nat.mod_eq_of_lt (by omega)]
    omega

theorem pad_len (s : List UInt8) (h : s.length ≤ 1022) : ((padL s).length : Int) = cls s.length := by
  have := cls_bd (n := (s.length : Int)) (by omega) (by omega)
  unfold padL
  rw [if_pos h]
  simp only [List.length_append, List.length_replicate, hd2, List.length_cons, List.length_nil]
  omega
/-- What is padded is unpadded. -/
theorem unp_pad (s : List UInt8) (h : s.length ≤ 1022) : nOf (padL s) = s.length ∧ upOK (padL s) = true ∧ unpL (padL s) = s := by
  obtain ⟨x, y, h1, h2⟩ := hd2_by s.length (by omega) (by omega)
  have hb := cls_bd (n := (s.length : Int)) (by omega) (by omega)
  have hl := pad_len s h
  have hp : padL s = x :: y :: (s ++ List.replicate (cls s.length - 2 - s.length).toNat 0) := by
    unfold padL; rw [if_pos h, h1]; rfl
  have hn : nOf (padL s) = s.length := by
    rw [hp]; unfold nOf by_
    simp only [List.getD_cons_zero, List.getD_cons_succ]
    omega
  have hu : upOK (padL s) = true := by
    unfold upOK
    rw [decide_eq_true_eq, hn, trimB_nil]
    refine ⟨by omega, h, by omega, fun z hz => ?_⟩
    rw [hp, show 2 + s.length = s.length + 1 + 1 by omega, List.drop_succ_cons, List.drop_succ_cons, List.drop_left] at hz
    exact (List.mem_replicate.1 hz).2
  refine ⟨hn, hu, ?_⟩
  unfold unpL
  rw [if_pos hu, hn, hp]
  simp
/-- What was unpadded is padded so. -/
theorem pad_unp (b : List UInt8) (h : upOK b = true) : padL (unpL b) = b ∧ (unpL b).length = nOf b ∧ nOf b ≤ 1022 := by
  have h' := h
  unfold upOK at h'
  rw [decide_eq_true_eq, trimB_nil] at h'
  obtain ⟨h1, h2, h3, h4⟩ := h'
  have hb := cls_bd (n := (nOf b : Int)) (by omega) (by omega)
  match b, h1 with
  | x :: y :: r, _ =>
    have hu : unpL (x :: y :: r) = r.take (nOf (x :: y :: r)) := by unfold unpL; rw [if_pos h]; rfl
    have hn : ((nOf (x :: y :: r) : Nat) : Int) = ((x.toNat * 256 + y.toNat : Nat) : Int) := by unfold nOf by_; simp
    rw [hu]
    generalize nOf (x :: y :: r) = n at *
    have hr : n ≤ r.length := by simp only [List.length_cons] at h3; omega
    have hlen : (r.take n).length = n := by rw [List.length_take]; omega
    refine ⟨?_, hlen, h2⟩
    unfold padL
    rw [hlen, if_pos h2]
    have e1 : hd2 (n : Int) = [x, y] := by rw [hn]; exact hd2_of x y
    have e2 : r.drop n = List.replicate (cls n - 2 - n).toNat 0 := by
      rw [List.eq_replicate_iff]
      refine ⟨by rw [List.length_drop]; simp only [List.length_cons] at h3; omega, fun z hz => h4 z ?_⟩
      rw [show 2 + n = n + 1 + 1 by omega]
      exact hz
    rw [e1, ← e2, List.append_assoc, List.take_append_drop]
    rfl
theorem upOK_iff (b : List UInt8) (h2 : 2 ≤ b.length) (hn : nOf b ≤ b.length - 2) : upOK b = true ↔ clsE (nOf b : Int) = 0 ∧ padL ((b.drop 2).take (nOf b)) = b := by
  constructor
  · intro h
    have h3 := pad_unp b h
    have h4 : unpL b = (b.drop 2).take (nOf b) := by unfold unpL; rw [if_pos h]
    rw [h4] at h3
    refine ⟨?_, h3.1⟩
    unfold clsE
    rw [if_neg (by omega), if_neg (by omega)]
  · rintro ⟨h3, h4⟩
    have h5 : nOf b ≤ 1022 := by
      unfold clsE at h3
      split at h3
      · omega
      · split at h3
        · omega
        · omega
    have := unp_pad ((b.drop 2).take (nOf b)) (by rw [List.length_take]; omega)
    rw [h4] at this
    exact this.2.1
end Go.Proofs
