/- The plain law of replies: what is put is taken, and what is taken was put. -/
import Derived.Test.YtgdlhcaidfokkaaDoorD45
set_option linter.unusedSimpArgs false
set_option linter.unusedVariables false
set_option maxRecDepth 100000
namespace Go.Proofs
open Go.Sy Go.Lib

theorem hd4 (n : Nat) : [b8 9, b8 0, b8 ((n : Int) / 256), b8 (n : Int)] = [b8 9, b8 0] ++ hd2 (n : Int) := rfl
theorem take_drop_all {s : List UInt8} {k k2 : Nat} : s = s.take k ++ (s.drop k).take k2 ++ s.drop (k + k2) := by
  rw [← List.drop_drop, List.append_assoc, List.take_append_drop, List.take_append_drop]

/-- What is taken was put. -/
theorem put_of_take {b : List UInt8} {id st : Nat} {d : List UInt8} (h : tkR b = some (id, st, d)) : st ≤ 1048576 ∧ id < 18446744073709551616 ∧ rputE id (st : Int) d = 0 ∧ rputL id (st : Int) d = b := by
  unfold tkR at h
  split at h
  case isFalse => cases h
  rename_i h1
  split at h
  case isFalse => cases h
  rename_i h2
  split at h
  case isFalse => cases h
  rename_i h3
  obtain ⟨s, hs⟩ : ∃ s, unpL (b.drop 4) = s := ⟨_, rfl⟩
  rw [hs] at h h2 h3
  obtain ⟨n1, k, e1, ht⟩ : ∃ n k e, tk s = (n, k, e) := ⟨_, _, _, rfl⟩
  rw [ht] at h h2 h3
  obtain ⟨n2, k2, e2, ht2⟩ : ∃ n j e, tk (s.drop k) = (n, j, e) := ⟨_, _, _, rfl⟩
  simp only [] at h h2 h3
  rw [ht2] at h h3
  simp only [Option.some.injEq, Prod.mk.injEq] at h h3
  obtain ⟨rfl, rfl, rfl⟩ := h
  obtain ⟨rfl, hst⟩ := h2
  subst h3
  have t1 := tk_take ht
  have t2 := tk_take ht2
  obtain ⟨p1, p2, p3⟩ := pad_unp (b.drop 4) h1.2
  rw [hs] at p1 p2
  have hrp : rp n2 (n1 : Int) (s.drop (k + k2)) = s := by
    unfold rp
    rw [Int.toNat_natCast, ← t1.1, ← t2.1]
    exact take_drop_all.symm
  refine ⟨hst, t2.2.2.2, ?_, ?_⟩
  · rw [rput_is, if_pos (by omega), hrp, if_pos (by omega)]
  · have hE : rputE n2 (n1 : Int) (s.drop (k + k2)) = 0 := by rw [rput_is, if_pos (by omega), hrp, if_pos (by omega)]
    obtain ⟨-, -, -, hL⟩ := rput_ok hE
    rw [hL, hrp, p1]
    have hh := h1.1
    unfold hdr at hh
    rw [decide_eq_true_eq] at hh
    obtain ⟨q1, q2, q3, q4, q5⟩ := hh
    match b, q1 with
    | x :: y :: z :: w :: r, _ =>
      have e1 : x.toNat = 9 := q2
      have e2 : y.toNat = 0 := q3
      have e3 : lenB (x :: y :: z :: w :: r) = z.toNat * 256 + w.toNat := rfl
      rw [e3] at q4 q5
      simp only [List.length_cons] at q5
      have e4 : ((x :: y :: z :: w :: r).drop 4) = r := rfl
      rw [e4, hd4, show (r.length : Nat) = z.toNat * 256 + w.toNat by omega, hd2_of]
      have e5 : b8 9 = x := u8_of x 9 (by rw [e1]; rfl)
      have e6 : b8 0 = y := u8_of y 0 (by rw [e2]; rfl)
      rw [e5, e6]
      rfl

theorem hd2_by' (n : Nat) (h1 : n ≤ 1024) : ∃ x y : UInt8, hd2 (n : Int) = [x, y] ∧ x.toNat * 256 + y.toNat = n := by
  refine ⟨UInt8.ofNat (n / 256), UInt8.ofNat (n % 256), ?_, ?_⟩
  · have := hd2_of (UInt8.ofNat (n / 256)) (UInt8.ofNat (n % 256))
    rw [UInt8.toNat_ofNat', UInt8.toNat_ofNat', Nat.mod_eq_of_lt (by omega), Nat.mod_eq_of_lt (by omega)] at this
    rw [← this]
    congr 1
    omega
  · rw [UInt8.toNat_ofNat', UInt8.toNat_ofNat', Nat.mod_eq_of_lt (by omega), Nat.mod_eq_of_lt (by omega)]
    omega

/-- What is put is taken. -/
theorem take_of_put {n : Nat} {st : Int} {d : List UInt8} (hn : n < 18446744073709551616) (h : rputE n st d = 0) : tkR (rputL n st d) = some (n, st.toNat, d) := by
  obtain ⟨h1, h2, h3, hL⟩ := rput_ok h
  obtain ⟨u1, u2, u3⟩ := unp_pad _ h3
  have hpl := padL_le (rp n st d)
  have hp2 := pad_len (rp n st d) h3
  have hc := cls_bd (n := ((rp n st d).length : Int)) (by omega) (by omega)
  have hd4 : (rputL n st d).drop 4 = padL (rp n st d) := by rw [hL]; rfl
  have hlen : (rputL n st d).length = (padL (rp n st d)).length + 4 := by rw [hL]; simp
  obtain ⟨x, y, e1, e2⟩ := hd2_by' (padL (rp n st d)).length (by omega)
  have hlb : lenB (rputL n st d) = (padL (rp n st d)).length := by
    rw [hL]
    show (b8 ((padL (rp n st d)).length / 256)).toNat * 256 + (b8 (padL (rp n st d)).length).toNat = _
    have : [b8 (((padL (rp n st d)).length : Int) / 256), b8 ((padL (rp n st d)).length : Int)] = [x, y] := e1
    simp only [List.cons.injEq, and_true] at this
    rw [this.1, this.2]
    exact e2
  have hh : hdr (rputL n st d) = true := by
    unfold hdr
    rw [decide_eq_true_eq, hlb]
    refine ⟨by omega, by rw [hL]; rfl, by rw [hL]; rfl, hpl, by omega⟩
  have ht : tk (rp n st d) = (st.toNat, (vput st.toNat).length, 0) := by
    unfold rp
    rw [List.append_assoc]
    exact tk_put _ _ (by omega)
  have hdr1 : (rp n st d).drop (vput st.toNat).length = vput n ++ d := by
    unfold rp
    rw [List.append_assoc, List.drop_left]
  have ht2 : tk (vput n ++ d) = (n, (vput n).length, 0) := tk_put _ _ hn
  unfold tkR
  rw [hd4, if_pos ⟨hh, u2⟩, u3, ht]
  simp only []
  rw [hdr1, ht2, if_pos ⟨trivial, by omega⟩]
  simp only []
  rw [if_pos trivial, ← List.drop_drop, hdr1, List.drop_left]
end Go.Proofs
