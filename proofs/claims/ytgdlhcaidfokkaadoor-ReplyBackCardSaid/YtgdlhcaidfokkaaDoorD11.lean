/- Contracts, part ten: pad.Pad, and the document's. -/
import Derived.Test.YtgdlhcaidfokkaaDoorD10
set_option linter.unusedSimpArgs false
set_option linter.unusedVariables false
namespace Go.Proofs
open Go.Sy

def hd2 (n : Int) : List UInt8 := [UInt8.ofNat (IntKind.u8.wrap (n / 256)).toNat, UInt8.ofNat (IntKind.u8.wrap n).toNat]
def padL (s : List UInt8) : List UInt8 := if s.length ≤ 1022 then hd2 s.length ++ s ++ List.replicate (cls s.length - 2 - s.length).toNat 0 else []
theorem cls_bd {n : Int} (h0 : 0 ≤ n) (h1 : n ≤ 1022) : n ≤ cls n - 2 ∧ cls n ≤ 1024 := by
  unfold cls; repeat' split
  all_goals omega

theorem Pad_p (s : List UInt8) (hs : s.length ≤ 9223372036854775807) : FnP Tryd.prog 22 [.s s] (· = .tup [.s (padL s), I64 (clsE s.length)]) := by
  refine FnP.intro Tryd.tabOK Tryd.wide_ Tryd.func22 rfl (by decide) rfl (fun X => ?_)
  repeat (first | refine sc rfl ?_ | refine so rfl ?_ | refine sb rfl ?_)
  refine O_call (Class_p _) (by rfl) (by rfl) (by rfl) (by rfl) (fun r hr => ?_)
  subst hr
  repeat (first | refine sc rfl ?_ | refine so rfl ?_ | refine sb rfl ?_)
  refine C_if rfl (fun h => ?_) (fun h => ?_)
  · repeat (first | refine sc rfl ?_ | refine so rfl ?_ | refine sb rfl ?_)
    refine ⟨_, rfl, rfl, ?_⟩
    have h' : ¬ s.length ≤ 1022 := by
      intro h2
      have : clsE s.length = 0 := by unfold clsE; rw [if_neg (by omega), if_neg (by omega)]
      rw [this] at h
      exact absurd h (by decide)
    rw [padL, if_neg h']
  · have h' : s.length ≤ 1022 := by
      rcases Nat.lt_or_ge 1022 s.length with h2 | h2
      · have : clsE s.length = 3 := by unfold clsE; rw [if_neg (by omega), if_pos (by omega)]
        rw [this] at h
        exact absurd h (by decide)
      · exact h2
    have e0 : clsE s.length = 0 := by unfold clsE; rw [if_neg (by omega), if_neg (by omega)]
    obtain ⟨b1, b2⟩ := cls_bd (n := (s.length : Int)) (by omega) (by omega)
    have e1 : padL s = hd2 s.length ++ s ++ List.replicate (cls s.length - 2 - s.length).toNat 0 := by rw [padL, if_pos h']
    have e2 : ((cls s.length - 2 - s.length).toNat : Int) = cls s.length - 2 - s.length := by omega
    rw [e0, e1]
    have e3 : (cls s.length - 2 - s.length).toNat ≤ 1024 := by omega
    generalize (cls s.length - 2 - s.length).toNat = k at *
    repeat (first | refine sc rfl ?_ | refine so rfl ?_ | refine sb rfl ?_)
    refine C_drawD rfl (by kernel_rfl) ?_
    repeat (first | refine sd rfl ?_ | refine sds rfl ?_ | refine sdv rfl ?_ | refine ⟨by decide, ?_⟩)
    have hh : List.map (fun n : Int => UInt8.ofNat n.toNat) [IntKind.u8.wrap ((s.length : Int).fdiv (2 ^ min (Int.toNat 8) IntKind.i64.bits)), IntKind.u8.wrap (s.length : Int)] = hd2 s.length := by
      simp only [List.map, hd2]
      rw [show (2 : Int) ^ min (Int.toNat 8) IntKind.i64.bits = 256 by decide, Int.fdiv_eq_ediv_of_nonneg _ (by decide)]
    rw [hh]
    have hl2 : (hd2 s.length).length = 2 := rfl
    refine ⟨by omega, ?_⟩
    repeat (first | refine sd rfl ?_)
    rw [w64 (x := cls s.length - 2) (by omega) (by omega), w64 (x := cls s.length - 2 - s.length) (by omega) (by omega), ← e2]
    refine D_call (Repeat_p k e3) rfl rfl rfl rfl ?_
    refine sd rfl ?_
    refine ⟨by rw [List.length_append, List.length_replicate]; omega, ?_⟩
    repeat (first | refine sd rfl ?_ | refine sc rfl ?_)
    exact ⟨_, rfl, rfl, rfl⟩

theorem rem256 (n : Nat) : UInt8.ofNat (IntKind.u8.wrap ((n : Int).tmod 256)).toNat = UInt8.ofNat (IntKind.u8.wrap (n : Int)).toNat := by
  have h1 : (n : Int).tmod 256 = (n : Int) % 256 := Int.tmod_eq_emod_of_nonneg (by omega)
  rw [h1]
  congr 2
  simp only [IntKind.wrap, show IntKind.u8.signed = false from rfl, show IntKind.u8.bits = 8 from rfl, Bool.false_and, Bool.false_eq_true, if_false]
  omega

theorem refPad_p (s : List UInt8) (hs : s.length ≤ 9223372036854775807) : FnP Tryd.prog 35 [.s s] (· = .tup [.s (padL s), I64 (clsE s.length)]) := by
  refine FnP.intro Tryd.tabOK Tryd.wide_ Tryd.func35 rfl (by decide) rfl (fun X => ?_)
  repeat (first | refine sc rfl ?_ | refine so rfl ?_ | refine sb rfl ?_)
  refine O_call (refClass_p _) (by rfl) (by rfl) (by rfl) (by rfl) (fun r hr => ?_)
  subst hr
  repeat (first | refine sc rfl ?_ | refine so rfl ?_ | refine sb rfl ?_)
  refine C_if rfl (fun h => ?_) (fun h => ?_)
  · repeat (first | refine sc rfl ?_ | refine so rfl ?_ | refine sb rfl ?_)
    refine ⟨_, rfl, rfl, ?_⟩
    have h0 : cls s.length = 0 := by simpa using h
    have h' : ¬ s.length ≤ 1022 := by
      intro h2
      have := cls_bd (n := (s.length : Int)) (by omega) (by omega)
      omega
    rw [padL, if_neg h', show clsE s.length = 3 by unfold clsE; rw [if_neg (by omega), if_pos (by omega)]]
  · have h0 : ¬ cls s.length = 0 := by simpa using h
    have h' : s.length ≤ 1022 := by
      rcases Nat.lt_or_ge 1022 s.length with h2 | h2
      · exact absurd (by unfold cls; repeat' split <;> omega) h0
      · exact h2
    have e0 : clsE s.length = 0 := by unfold clsE; rw [if_neg (by omega), if_neg (by omega)]
    obtain ⟨b1, b2⟩ := cls_bd (n := (s.length : Int)) (by omega) (by omega)
    have e1 : padL s = hd2 s.length ++ s ++ List.replicate (cls s.length - 2 - s.length).toNat 0 := by rw [padL, if_pos h']
    rw [e0, e1]
    repeat (first | refine sc rfl ?_ | refine so rfl ?_ | refine sb rfl ?_ | refine ⟨by decide, ?_⟩)
    refine O_call (Byte_p _) (by rfl) (by rfl) (by rfl) (by rfl) (fun r hr => ?_)
    subst hr
    repeat (first | refine sc rfl ?_ | refine so rfl ?_ | refine sb rfl ?_ | refine ⟨by decide, ?_⟩)
    refine O_call (Byte_p _) (by rfl) (by rfl) (by rfl) (by rfl) (fun r hr => ?_)
    subst hr
    repeat (first | refine sc rfl ?_ | refine so rfl ?_ | refine sb rfl ?_)
    refine ⟨by simp only [List.length_singleton]; omega, ?_⟩
    rw [quo64 (by omega) (by omega) (by omega), rem256]
    repeat (first | refine sc rfl ?_ | refine so rfl ?_ | refine sb rfl ?_)
    rw [show [UInt8.ofNat (IntKind.u8.wrap ((s.length : Int) / 256)).toNat] ++ [UInt8.ofNat (IntKind.u8.wrap (s.length : Int)).toNat] = hd2 s.length from rfl]
    have hl2 : (hd2 s.length).length = 2 := rfl
    refine ⟨by omega, ?_⟩
    repeat (first | refine sc rfl ?_ | refine so rfl ?_ | refine sb rfl ?_)
    refine C_loop (fun j : Nat => ⟨[(4, I64 (cls s.length)), (5, .s (hd2 s.length ++ s ++ List.replicate j 0))], []⟩) (fun j => (j : Int) ≤ cls s.length - 2 - s.length) (fun j => (cls s.length - 2 - s.length - j).toNat) 0 (by omega)
      (Le.sub [] ⟨rfl, by simp only [List.replicate_zero, List.append_nil]; rfl, trivial⟩ rfl) ?_
    intro j hj
    have hlj : (hd2 s.length ++ s ++ List.replicate j (0 : UInt8)).length = 2 + s.length + j := by rw [List.length_append, List.length_append, List.length_replicate, hl2]
    repeat (first | refine sc rfl ?_ | refine so rfl ?_ | refine sb rfl ?_)
    rw [hlj]
    refine C_if rfl (fun h3 => ?_) (fun h3 => ?_) <;> simp only [decide_eq_true_eq, decide_eq_false_iff_not] at h3
    · repeat (first | refine sc rfl ?_ | refine so rfl ?_ | refine sb rfl ?_)
      refine O_call (Byte_p _) (by rfl) (by rfl) (by rfl) (by rfl) (fun r hr => ?_)
      subst hr
      repeat (first | refine sc rfl ?_ | refine so rfl ?_ | refine sb rfl ?_)
      refine ⟨by rw [hlj]; simp only [List.length_singleton]; omega, ?_⟩
      repeat (first | refine sc rfl ?_ | refine so rfl ?_ | refine sb rfl ?_)
      exact ⟨j + 1, by omega, by omega, Le.sub [] ⟨rfl, by rw [List.replicate_succ', ← List.append_assoc]; rfl, trivial⟩ rfl⟩
    · repeat (first | refine sc rfl ?_ | refine so rfl ?_ | refine sb rfl ?_)
      refine ⟨_, rfl, rfl, ?_⟩
      rw [show (cls s.length - 2 - s.length).toNat = j by omega]
end Go.Proofs
