/- The law ReplyHides. -/
import Derived.Test.YtgdlhcaidfokkaaDoorD33
import Derived.Test.YtgdlhcaidfokkaaDoorD19
set_option linter.unusedSimpArgs false
set_option linter.unusedVariables false
set_option maxRecDepth 100000
namespace Go.Proofs
open Go.Sy Go.Lib

theorem fput_ok {b : List UInt8} (h : b.length ≤ 1024) : fputE 9 0 b = 0 ∧ fputL 9 0 b = [b8 9, b8 0, b8 (b.length / 256), b8 b.length] ++ b := by
  unfold fputE fputL
  rw [if_neg (by omega), if_neg (by omega), if_neg (by omega), if_pos (by omega)]
  exact ⟨rfl, rfl⟩
theorem padL_le (s : List UInt8) : (padL s).length ≤ 1024 := by
  by_cases h : s.length ≤ 1022
  · have := pad_len s h
    have := cls_bd (n := (s.length : Int)) (by omega) (by omega)
    omega
  · unfold padL; rw [if_neg h]; simp
/-- What a reply's bytes are, where there are any. -/
theorem rput_ok {n : Nat} {st : Int} {d : List UInt8} (h : rputE n st d = 0) :
    0 ≤ st ∧ st ≤ 1048576 ∧ (rp n st d).length ≤ 1022 ∧ rputL n st d = [b8 9, b8 0, b8 ((padL (rp n st d)).length / 256), b8 (padL (rp n st d)).length] ++ padL (rp n st d) := by
  unfold rputE at h
  split at h
  · rename_i h1
    split at h
    · rename_i h2
      have h3 := (clsE_iff _).1 h2
      refine ⟨h1.1, h1.2, h3, ?_⟩
      unfold rputL
      rw [if_pos h1, if_pos h2]
      exact (fput_ok (padL_le _)).2
    · omega
  · omega
theorem rput_is (n : Nat) (st : Int) (d : List UInt8) : rputE n st d = (if 0 ≤ st ∧ st ≤ 1048576 then (if (rp n st d).length ≤ 1022 then 0 else 3) else 1) := by
  unfold rputE
  split
  · by_cases h : (rp n st d).length ≤ 1022
    · rw [if_pos ((clsE_iff _).2 h), if_pos h]
      exact (fput_ok (padL_le _)).1
    · rw [if_neg (fun h2 => h ((clsE_iff _).1 h2)), if_neg h]
  · rfl
theorem rp_len (n : Nat) (st : Int) (d : List UInt8) : (rp n st d).length = (vput st.toNat).length + (vput n).length + d.length := by
  unfold rp; rw [List.length_append, List.length_append]
theorem rput_same {n : Nat} {st : Int} {d e : List UInt8} (h : d.length = e.length) : rputE n st d = rputE n st e ∧ (rputL n st d).length = (rputL n st e).length := by
  have h1 : (rp n st d).length = (rp n st e).length := by rw [rp_len, rp_len, h]
  refine ⟨by rw [rput_is, rput_is, h1], ?_⟩
  unfold rputL
  rw [h1]
  split
  · split
    · rename_i h2
      have h3 := (clsE_iff _).1 (h1 ▸ h2 : clsE ((rp n st e).length : Int) = 0)
      have h5 := pad_len _ h3
      have h4 := pad_len (rp n st d) (by omega)
      rw [(fput_ok (padL_le _)).2, (fput_ok (padL_le _)).2, List.length_append, List.length_append]
      rw [h1] at h4
      simp only [List.length_cons, List.length_nil]
      omega
    · rfl
  · rfl
theorem cls_six {n : Int} (h0 : 0 ≤ n) (h1 : n ≤ 1022) : cls n = 32 ∨ cls n = 64 ∨ cls n = 128 ∨ cls n = 256 ∨ cls n = 512 ∨ cls n = 1024 := by
  unfold cls; repeat' split
  all_goals omega

theorem lawHides_p (n : Nat) (st : Int) (d s : List UInt8) (hn : n < 18446744073709551616) (hd : d.length ≤ 140737488355308) (hs : s.length ≤ 140737488355308) : FnP Tryd.prog 8 [.agg [U64 (n : Int), I64 st, .s d], .s s] (· = B true) := by
  refine FnP.intro Tryd.tabOK Tryd.wide_ Tryd.func8 rfl (by decide) rfl (fun X => ?_)
  repeat (first | refine sc rfl ?_ | refine so rfl ?_ | refine sb rfl ?_)
  refine O_call (ours35_p (n : Int) st d) (by rfl) (by rfl) (by rfl) (by rfl) (fun r hr => ?_)
  subst hr
  repeat (first | refine sc rfl ?_ | refine so rfl ?_ | refine sb rfl ?_)
  refine O_call (rPut_p n st d hn hd) (by rfl) (by rfl) (by rfl) (by rfl) (fun r hr => ?_)
  subst hr
  repeat (first | refine sc rfl ?_ | refine so rfl ?_ | refine sb rfl ?_)
  refine O_call (ours35_p (n : Int) st d) (by rfl) (by rfl) (by rfl) (by rfl) (fun r hr => ?_)
  subst hr
  repeat (first | refine sc rfl ?_ | refine so rfl ?_ | refine sb rfl ?_)
  refine O_call (rPut_p n st s hn hs) (by rfl) (by rfl) (by rfl) (by rfl) (fun r hr => ?_)
  subst hr
  obtain ⟨A, hA⟩ : ∃ A, rputL n st d = A := ⟨_, rfl⟩
  obtain ⟨E, hE⟩ : ∃ A, rputE n st d = A := ⟨_, rfl⟩
  obtain ⟨A2, hA2⟩ : ∃ A, rputL n st s = A := ⟨_, rfl⟩
  obtain ⟨E2, hE2⟩ : ∃ A, rputE n st s = A := ⟨_, rfl⟩
  have hsame := @rput_same n st d s
  have hok := @rput_ok n st d
  have hok2 := @rput_ok n st s
  rw [hA, hE, hA2, hE2] at hsame
  rw [hA, hE] at hok
  rw [hA2, hE2] at hok2
  rw [hA, hE, hA2, hE2]
  repeat (first | refine sc rfl ?_ | refine so rfl ?_ | refine sb rfl ?_)
  refine O_join ⟨[(5, .s A), (6, I64 E), (8, .s A2), (9, I64 E2), (51, B false)], []⟩ ?_ (fun s' h' => C_le _ h' ?_)
  · refine O_case 40 rfl (fun h1 => ?_) (fun h1 => ?_) <;> repeat (first | refine sc rfl ?_ | refine so rfl ?_ | refine sb rfl ?_)
    · have h2 : d.length = s.length := by simp at h1; omega
      obtain ⟨g1, g2⟩ := hsame h2
      refine O_false 46 rfl (by rw [g2]; simp) ?_
      repeat (first | refine sc rfl ?_ | refine so rfl ?_ | refine sb rfl ?_)
      refine Le.sub [] ⟨rfl, rfl, rfl, rfl, congrArg (fun x => some (B x)) ?_, trivial⟩ rfl
      rw [g1]; simp
    · exact Le.sub [] ⟨rfl, rfl, rfl, rfl, rfl, trivial⟩ rfl
  refine C_false rfl rfl ?_
  repeat (first | refine sc rfl ?_ | refine so rfl ?_ | refine sb rfl ?_)
  refine O_join ⟨[(5, .s A), (8, .s A2), (57, B (decide (¬ (E = 0 ∧ E2 = 0))))], []⟩ ?_ (fun s' h' => C_le _ h' ?_)
  · have fin : ∀ x : Bool, x = decide (¬ (E = 0 ∧ E2 = 0)) → some (B x) = some (B (decide (¬ (E = 0 ∧ E2 = 0)))) := fun x hb => by rw [hb]
    refine O_case 54 rfl (fun h5 => ?_) (fun h5 => ?_) <;> simp at h5 <;> repeat (first | refine sc rfl ?_ | refine so rfl ?_ | refine sb rfl ?_)
    · exact Le.sub [] ⟨rfl, rfl, fin _ (by rw [Bool.eq_iff_iff]; simp; omega), trivial⟩ rfl
    · exact Le.sub [] ⟨rfl, rfl, fin _ (by rw [Bool.eq_iff_iff]; simp; omega), trivial⟩ rfl
  refine C_if rfl (fun h1 => ?_) (fun h1 => ?_)
  · repeat (first | refine sc rfl ?_ | refine so rfl ?_ | refine sb rfl ?_)
    refine O_call awake35_p (by rfl) (by rfl) (by rfl) (by rfl) (fun r hr => ?_)
    subst hr
    repeat (first | refine sc rfl ?_ | refine so rfl ?_ | refine sb rfl ?_)
    exact ⟨_, rfl, rfl, rfl⟩
  have h2 : E = 0 ∧ E2 = 0 := by simpa using h1
  obtain ⟨-, -, q1, rfl⟩ := hok h2.1
  obtain ⟨-, -, q2, rfl⟩ := hok2 h2.2
  obtain ⟨u1, u2, u3⟩ := unp_pad _ q1
  obtain ⟨v1, v2, v3⟩ := unp_pad _ q2
  have l1 := pad_len _ q1
  have l2 := pad_len _ q2
  have c1 := cls_six (n := ((rp n st d).length : Int)) (by omega) (by omega)
  have c2 := cls_six (n := ((rp n st s).length : Int)) (by omega) (by omega)
  have k1 := padL_le (rp n st d)
  have k2 := padL_le (rp n st s)
  generalize rp n st d = p at *
  generalize rp n st s = p2 at *
  clear hsame hok hok2 hA hA2 hE hE2 h1 h2
  have e1 : ([b8 9, b8 0, b8 ((padL p).length / 256), b8 (padL p).length] ++ padL p).length = (padL p).length + 4 := by simp
  have e2 : ([b8 9, b8 0, b8 ((padL p2).length / 256), b8 (padL p2).length] ++ padL p2).length = (padL p2).length + 4 := by simp
  have d1 : ([b8 9, b8 0, b8 ((padL p).length / 256), b8 (padL p).length] ++ padL p).drop 4 = padL p := rfl
  have d2 : ([b8 9, b8 0, b8 ((padL p2).length / 256), b8 (padL p2).length] ++ padL p2).drop 4 = padL p2 := rfl
  generalize [b8 9, b8 0, b8 ((padL p).length / 256), b8 (padL p).length] ++ padL p = A at *
  generalize [b8 9, b8 0, b8 ((padL p2).length / 256), b8 (padL p2).length] ++ padL p2 = A2 at *
  repeat (first | refine sc rfl ?_ | refine so rfl ?_ | refine sb rfl ?_)
  refine O_false 62 rfl (by rw [e1]; simp; omega) ?_
  repeat (first | refine sc rfl ?_ | refine so rfl ?_ | refine sb rfl ?_)
  refine C_false rfl (by rw [e2]; simp; omega) ?_
  repeat (first | refine sc rfl ?_ | refine so rfl ?_ | refine sb rfl ?_ | refine ⟨by omega, ?_⟩)
  rw [show A.drop (Int.toNat 4) = padL p from d1]
  refine O_call (Unpad_p (padL p) (by omega)) (by rfl) (by rfl) (by rfl) (by rfl) (fun r hr => ?_)
  subst hr
  rw [u3]
  repeat (first | refine sc rfl ?_ | refine so rfl ?_ | refine sb rfl ?_ | refine ⟨by omega, ?_⟩)
  rw [show A2.drop (Int.toNat 4) = padL p2 from d2]
  refine O_call (Unpad_p (padL p2) (by omega)) (by rfl) (by rfl) (by rfl) (by rfl) (fun r hr => ?_)
  subst hr
  rw [v3]
  repeat (first | refine sc rfl ?_ | refine so rfl ?_ | refine sb rfl ?_ | refine ⟨by omega, ?_⟩)
  refine O_call (Class_p p.length) (by rfl) (by rfl) (by rfl) (by rfl) (fun r hr => ?_)
  subst hr
  repeat (first | refine sc rfl ?_ | refine so rfl ?_ | refine sb rfl ?_ | refine ⟨by omega, ?_⟩)
  refine O_call (Class_p p2.length) (by rfl) (by rfl) (by rfl) (by rfl) (fun r hr => ?_)
  subst hr
  repeat (first | refine sc rfl ?_ | refine so rfl ?_ | refine sb rfl ?_ | refine ⟨by omega, ?_⟩)
  rw [w64 (by omega) (by omega), show ((A.length : Int) - 4) = cls p.length by omega]
  refine O_true 103 rfl ?_ ?_
  · rw [beq_iff_eq, Bool.eq_iff_iff, beq_iff_eq, beq_iff_eq]
    omega
  repeat (first | refine sc rfl ?_ | refine so rfl ?_ | refine sb rfl ?_ | refine ⟨by omega, ?_⟩)
  refine O_true 108 rfl (by simp) ?_
  repeat (first | refine sc rfl ?_ | refine so rfl ?_ | refine sb rfl ?_ | refine ⟨by omega, ?_⟩)
  obtain ⟨c, hc⟩ : ∃ c, cls (p.length : Int) = c := ⟨_, rfl⟩
  rw [hc] at c1 ⊢
  clear hc l1
  rcases c1 with rfl | rfl | rfl | rfl | rfl | rfl
  all_goals
    repeat (first | refine sc rfl ?_ | refine so rfl ?_ | refine sb rfl ?_ | refine ⟨by omega, ?_⟩)
    refine O_call awake35_p (by rfl) (by rfl) (by rfl) (by rfl) (fun r hr => ?_)
    subst hr
    repeat (first | refine sc rfl ?_ | refine so rfl ?_ | refine sb rfl ?_)
    exact ⟨_, rfl, rfl, rfl⟩
end Go.Proofs
