/- Contracts, part seventeen: reply.Put, and the document's. -/
import Derived.Test.YtgdlhcaidfokkaaDoorD17
set_option linter.unusedSimpArgs false
set_option linter.unusedVariables false
namespace Go.Proofs
open Go.Sy

def rp (n : Nat) (st : Int) (d : List UInt8) : List UInt8 := vput st.toNat ++ vput n ++ d
def rputL (n : Nat) (st : Int) (d : List UInt8) : List UInt8 := if 0 ≤ st ∧ st ≤ 1048576 then (if clsE (rp n st d).length = 0 then fputL 9 0 (padL (rp n st d)) else []) else []
def rputE (n : Nat) (st : Int) (d : List UInt8) : Int := if 0 ≤ st ∧ st ≤ 1048576 then (if clsE (rp n st d).length = 0 then fputE 9 0 (padL (rp n st d)) else 3) else 1

theorem padL_len (s : List UInt8) : (padL s).length ≤ 4096 := by
  unfold padL
  split
  · have := cls_bd (n := (s.length : Int)) (by omega) (by omega)
    rw [List.length_append, List.length_append, List.length_replicate, show (hd2 (s.length : Int)).length = 2 from rfl]
    omega
  · simp

theorem rPut_p (n : Nat) (st : Int) (d : List UInt8) (hn : n < 18446744073709551616) (hd : d.length ≤ 140737488355308) : FnP Tryd.prog 24 [.agg [U64 (n : Int), I64 st, .s d]] (· = .tup [.s (rputL n st d), I64 (rputE n st d)]) := by
  refine FnP.intro Tryd.tabOK Tryd.wide_ Tryd.func24 rfl (by decide) rfl (fun X => ?_)
  repeat (first | refine sc rfl ?_ | refine so rfl ?_ | refine sb rfl ?_)
  refine O_call (bounded_p st) (by rfl) (by rfl) (by rfl) (by rfl) (fun r hr => ?_)
  subst hr
  repeat (first | refine sc rfl ?_ | refine so rfl ?_ | refine sb rfl ?_)
  refine C_if rfl (fun h1 => ?_) (fun h1 => ?_) <;> simp only [Bool.not_eq_true', Bool.not_eq_false', decide_eq_true_eq, decide_eq_false_iff_not] at h1
  · repeat (first | refine sc rfl ?_ | refine so rfl ?_ | refine sb rfl ?_)
    exact ⟨_, rfl, rfl, by rw [rputL, rputE, if_neg h1, if_neg h1]⟩
  have l1 := vput_len10 (n := st.toNat) (by omega)
  have l2 := vput_len10 hn
  have hrp : (rp n st d).length = (vput st.toNat).length + (vput n).length + d.length := by unfold rp; rw [List.length_append, List.length_append]
  rw [rputL, rputE, if_pos h1, if_pos h1]
  repeat (first | refine sc rfl ?_ | refine so rfl ?_ | refine sb rfl ?_)
  refine C_drawD rfl (by kernel_rfl) ?_
  repeat (first | refine sd rfl ?_)
  rw [show IntKind.u64.wrap st = ((st.toNat : Nat) : Int) by rw [u64wrap (by omega) (by omega)]; omega]
  refine D_call (Put83_p st.toNat (by omega)) rfl rfl rfl rfl ?_
  repeat (first | refine sd rfl ?_)
  refine D_call (Put83_p n hn) rfl rfl rfl rfl ?_
  repeat (first | refine sd rfl ?_)
  refine sds rfl ?_
  refine D_call (row_p (vput st.toNat) (vput n) d (by omega)) rfl rfl rfl rfl ?_
  rw [show vput st.toNat ++ vput n ++ d = rp n st d from rfl]
  refine D_call (Pad_p (rp n st d) (by omega)) rfl rfl rfl rfl ?_
  repeat (first | refine sd rfl ?_ | refine sc rfl ?_ | refine so rfl ?_)
  have lp := padL_len (rp n st d)
  generalize rp n st d = q at *
  refine C_if rfl (fun h2 => ?_) (fun h2 => ?_)
  · have h3 : ¬ clsE q.length = 0 := by simpa using h2
    repeat (first | refine sc rfl ?_ | refine so rfl ?_ | refine sb rfl ?_)
    exact ⟨_, rfl, rfl, by rw [if_neg h3, if_neg h3]⟩
  · have h3 : clsE q.length = 0 := by simpa using h2
    rw [if_pos h3, if_pos h3]
    repeat (first | refine sc rfl ?_ | refine so rfl ?_ | refine sb rfl ?_)
    refine O_call (Put84_p 9 0 (padL q) (by omega)) (by rfl) (by rfl) (by rfl) (by rfl) (fun r hr => ?_)
    subst hr
    repeat (first | refine sc rfl ?_ | refine so rfl ?_ | refine sb rfl ?_)
    exact ⟨_, rfl, rfl, rfl⟩

theorem refrPut_p (n : Nat) (st : Int) (d : List UInt8) (hn : n < 18446744073709551616) (hd : d.length ≤ 140737488355308) : FnP Tryd.prog 51 [.agg [U64 (n : Int), I64 st, .s d]] (· = .tup [.s (rputL n st d), I64 (rputE n st d)]) := by
  refine FnP.intro Tryd.tabOK Tryd.wide_ Tryd.func51 rfl (by decide) rfl (fun X => ?_)
  repeat (first | refine sc rfl ?_ | refine so rfl ?_ | refine sb rfl ?_)
  refine O_join ⟨[(1, .bp 1 0), (2, .s []), (3, I64 0), (13, B (decide (¬ (0 ≤ st ∧ st ≤ 1048576))))], [.box 1 33 [U64 (n : Int), I64 st, .s d]]⟩ ?_ (fun s h => C_le _ h ?_)
  · refine O_case 9 rfl (fun h => ?_) (fun h => ?_) <;> simp at h
    · repeat (first | refine sc rfl ?_ | refine so rfl ?_ | refine sb rfl ?_)
      exact Le.sub [1] ⟨rfl, rfl, rfl, congrArg (fun x => some (B x)) (by rw [Bool.eq_iff_iff]; simp; omega), trivial⟩ rfl
    · repeat (first | refine sc rfl ?_ | refine so rfl ?_ | refine sb rfl ?_)
      exact Le.sub [1] ⟨rfl, rfl, rfl, congrArg (fun x => some (B x)) (by rw [Bool.eq_iff_iff]; simp; omega), trivial⟩ rfl
  refine C_if rfl (fun h1 => ?_) (fun h1 => ?_) <;> simp only [decide_eq_true_eq, decide_eq_false_iff_not, Decidable.not_not] at h1
  · repeat (first | refine sc rfl ?_ | refine so rfl ?_ | refine sb rfl ?_)
    exact ⟨_, rfl, rfl, by rw [rputL, rputE, if_neg h1, if_neg h1]⟩
  have l1 := vput_len10 (n := st.toNat) (by omega)
  have l2 := vput_len10 hn
  have hrp : (rp n st d).length = (vput st.toNat).length + (vput n).length + d.length := by unfold rp; rw [List.length_append, List.length_append]
  rw [rputL, rputE, if_pos h1, if_pos h1]
  repeat (first | refine sc rfl ?_ | refine so rfl ?_ | refine sb rfl ?_)
  refine C_drawD rfl (by kernel_rfl) ?_
  repeat (first | refine sd rfl ?_)
  rw [show IntKind.u64.wrap st = ((st.toNat : Nat) : Int) by rw [u64wrap (by omega) (by omega)]; omega]
  refine D_call (refPut01_p st.toNat (by omega)) rfl rfl rfl rfl ?_
  repeat (first | refine sd rfl ?_)
  refine D_call (refPut01_p n hn) rfl rfl rfl rfl ?_
  repeat (first | refine sd rfl ?_ | refine ⟨by first | omega | (rw [List.length_append]; omega), ?_⟩)
  rw [show vput st.toNat ++ vput n ++ d = rp n st d from rfl]
  refine D_call (refPad_p (rp n st d) (by omega)) rfl rfl rfl rfl ?_
  repeat (first | refine sd rfl ?_ | refine sc rfl ?_ | refine so rfl ?_)
  have lp := padL_len (rp n st d)
  generalize rp n st d = q at *
  refine C_if rfl (fun h2 => ?_) (fun h2 => ?_)
  · have h3 : ¬ clsE q.length = 0 := by simpa using h2
    repeat (first | refine sc rfl ?_ | refine so rfl ?_ | refine sb rfl ?_)
    exact ⟨_, rfl, rfl, by rw [if_neg h3, if_neg h3]⟩
  · have h3 : clsE q.length = 0 := by simpa using h2
    rw [if_pos h3, if_pos h3]
    repeat (first | refine sc rfl ?_ | refine so rfl ?_ | refine sb rfl ?_)
    refine O_call (refPut05_p 9 0 (padL q) (by omega)) (by rfl) (by rfl) (by rfl) (by rfl) (fun r hr => ?_)
    subst hr
    repeat (first | refine sc rfl ?_ | refine so rfl ?_ | refine sb rfl ?_)
    exact ⟨_, rfl, rfl, rfl⟩
end Go.Proofs
