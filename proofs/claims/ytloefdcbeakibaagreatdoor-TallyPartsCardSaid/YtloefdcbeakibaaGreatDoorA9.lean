/- TallyParts: the law. -/
import Derived.Test.YtloefdcbeakibaaGreatDoorA8
set_option linter.unusedSimpArgs false
set_option linter.unusedVariables false
set_option maxRecDepth 100000
namespace Go.Proofs
open Go.Sy Go.Lib

theorem add_2 (f : Nat → Int) {j : Nat} (h : j < 44) : addF f f 44 j = wi8 (2 * f j) := by
  unfold addF
  rw [if_pos h]
  exact congrArg wi8 (by omega)
theorem tallyParts_W (rows : List Rw) (outs : List Ou) (n : Int) : FnK 4 [SL 8 Rw.c rows, SL 4 Ou.c outs, I64 n] [] (fun r cs' => r = B true) := by
  refine FnW.intro Tryz.tabOK Tryz.wide_ Tryz.func4 rfl (by decide) rfl (fun X hK => ?_)
  repeat (first | refine sc rfl ?_ | refine so rfl ?_ | refine sb rfl ?_)
  refine O_case 23 rfl (fun m0 => ?_) (fun m0 => ?_) <;> simp only [decide_eq_true_eq, decide_eq_false_iff_not, Bool.not_eq_true', Bool.not_eq_false', beq_iff_eq, beq_eq_false_iff_ne, bne_iff_ne, ne_eq, bne_eq_false_iff_eq, Decidable.not_not] at m0
  · repeat (first | refine sc rfl ?_ | refine so rfl ?_ | refine sb rfl ?_)
    refine C_true rfl rfl ?_
    repeat (first | refine sc rfl ?_ | refine so rfl ?_ | refine sb rfl ?_)
    refine O_callW hK [] awake49_W (by rfl) (by rfl) (by rfl) (by rfl) (by rfl) ?_
    rintro r' cs' ⟨rfl, rfl⟩
    repeat (first | refine sc rfl ?_ | refine so rfl ?_ | refine sb rfl ?_)
    exact ⟨_, [], _, rfl, pickA_perm (is := []) (As := []) rfl, rfl, rfl⟩
  repeat (first | refine sc rfl ?_ | refine so rfl ?_ | refine sb rfl ?_)
  refine C_if rfl (fun m1 => ?_) (fun m1 => ?_) <;> simp only [decide_eq_true_eq, decide_eq_false_iff_not, Bool.not_eq_true', Bool.not_eq_false', beq_iff_eq, beq_eq_false_iff_ne, bne_iff_ne, ne_eq, bne_eq_false_iff_eq, Decidable.not_not] at m1
  · repeat (first | refine sc rfl ?_ | refine so rfl ?_ | refine sb rfl ?_)
    refine O_callW hK [] awake49_W (by rfl) (by rfl) (by rfl) (by rfl) (by rfl) ?_
    rintro r' cs' ⟨rfl, rfl⟩
    repeat (first | refine sc rfl ?_ | refine so rfl ?_ | refine sb rfl ?_)
    exact ⟨_, [], _, rfl, pickA_perm (is := []) (As := []) rfl, rfl, rfl⟩
  have hl : rows.length ≤ 300 := by omega
  have hl2 : outs.length ≤ 300 := by omega
  repeat (first | refine sc rfl ?_ | refine so rfl ?_ | refine sb rfl ?_)
  refine O_callA [] newT_A (by rfl) (by rfl) (by rfl) (by rfl) (by rfl) ?_
  rintro r' cs' ⟨t, rfl, rfl⟩
  repeat (first | refine sc rfl ?_ | refine so rfl ?_ | refine sb rfl ?_)
  refine O_callA [] newT_A (by rfl) (by rfl) (by rfl) (by rfl) (by rfl) ?_
  rintro r' cs' ⟨a, rfl, rfl⟩
  iterate 2 (first | refine sc rfl ?_ | refine so rfl ?_ | refine sb rfl ?_)
  refine O_absb 32 rfl rfl rfl (fun b => ?_)
  repeat (first | refine sc rfl ?_ | refine so rfl ?_ | refine sb rfl ?_)
  refine C_loop (fun (p : Nat × (Nat → Int) × (Nat → Int)) => ⟨[(0, SL 8 Rw.c rows), (1, SL 4 Ou.c outs), (2, I64 n), (7, PT t 0), (8, PT a 0), (9, PT b 0), (10, I64 (p.1 : Nat))], [.abs (tlA t (wF (pF p.2.1 p.2.2))), .abs (tlA a (wF p.2.1)), .abs (tlA b (wF p.2.2))]⟩) (fun p => p.1 ≤ rows.length) (fun p => rows.length - p.1) (0, (fun _ => 0), (fun _ => 0)) (Nat.zero_le _) (Le.pick [2, 1, 0] ⟨rfl, rfl, rfl, rfl, rfl, rfl, rfl, trivial⟩ rfl) ?_
  rintro ⟨i, cA, cB⟩ hi
  repeat (first | refine sc rfl ?_ | refine so rfl ?_ | refine sb rfl ?_)
  refine C_if rfl (fun k1 => ?_) (fun k1 => ?_) <;> simp only [decide_eq_true_eq, decide_eq_false_iff_not, Bool.not_eq_true', Bool.not_eq_false', beq_iff_eq, beq_eq_false_iff_ne, bne_iff_ne, ne_eq, bne_eq_false_iff_eq, Decidable.not_not] at k1
  · have hil : i < rows.length := by omega
    obtain ⟨x, hxe⟩ : ∃ x, rows.getD i default = x := ⟨_, rfl⟩
    repeat (first | refine sc rfl ?_ | refine so rfl ?_ | refine sb rfl ?_)
    refine ⟨by omega, ?_⟩
    simp only [Int.toNat_natCast, hxe]
    repeat (first | refine sc rfl ?_ | refine so rfl ?_ | refine sb rfl ?_)
    refine O_call (rowL_c x) (by rfl) (by rfl) (by rfl) (by rfl) (fun r' hr => ?_)
    subst hr
    first
      | refine O_callA [0] (row_A t (wF (pF cA cB)) x) (by rfl) (by rfl) (by rfl) (by rfl) (by rfl) ?_
      | refine O_callA [1] (row_A t (wF (pF cA cB)) x) (by rfl) (by rfl) (by rfl) (by rfl) (by rfl) ?_
      | refine O_callA [2] (row_A t (wF (pF cA cB)) x) (by rfl) (by rfl) (by rfl) (by rfl) (by rfl) ?_
      | refine O_callA [3] (row_A t (wF (pF cA cB)) x) (by rfl) (by rfl) (by rfl) (by rfl) (by rfl) ?_
      | refine O_callA [4] (row_A t (wF (pF cA cB)) x) (by rfl) (by rfl) (by rfl) (by rfl) (by rfl) ?_
    rintro r' cs' ⟨rfl, rfl⟩
    rw [rowT_w]
    repeat (first | refine sc rfl ?_ | refine so rfl ?_ | refine sb rfl ?_)
    refine C_if rfl (fun k2 => ?_) (fun k2 => ?_) <;> simp only [decide_eq_true_eq, decide_eq_false_iff_not, Bool.not_eq_true', Bool.not_eq_false', beq_iff_eq, beq_eq_false_iff_ne, bne_iff_ne, ne_eq, bne_eq_false_iff_eq, Decidable.not_not] at k2
    · repeat (first | refine sc rfl ?_ | refine so rfl ?_ | refine sb rfl ?_)
      refine ⟨by omega, ?_⟩
      simp only [Int.toNat_natCast, hxe]
      repeat (first | refine sc rfl ?_ | refine so rfl ?_ | refine sb rfl ?_)
      refine O_call (rowL_c x) (by rfl) (by rfl) (by rfl) (by rfl) (fun r' hr => ?_)
      subst hr
      first
        | refine O_callA [0] (row_A a (wF cA) x) (by rfl) (by rfl) (by rfl) (by rfl) (by rfl) ?_
        | refine O_callA [1] (row_A a (wF cA) x) (by rfl) (by rfl) (by rfl) (by rfl) (by rfl) ?_
        | refine O_callA [2] (row_A a (wF cA) x) (by rfl) (by rfl) (by rfl) (by rfl) (by rfl) ?_
        | refine O_callA [3] (row_A a (wF cA) x) (by rfl) (by rfl) (by rfl) (by rfl) (by rfl) ?_
        | refine O_callA [4] (row_A a (wF cA) x) (by rfl) (by rfl) (by rfl) (by rfl) (by rfl) ?_
      rintro r' cs' ⟨rfl, rfl⟩
      rw [rowT_w, pF_l]
      repeat (first | refine sc rfl ?_ | refine so rfl ?_ | refine sb rfl ?_)
      rw [w64 (x := (i : Int) + 1) (by omega) (by omega)]
      refine ⟨(i + 1, pF cA (rowD x), cB), hil, by omega, ?_⟩
      exact Le.pick [1, 0, 0] ⟨rfl, rfl, rfl, rfl, rfl, rfl, rfl, trivial⟩ rfl
    · repeat (first | refine sc rfl ?_ | refine so rfl ?_ | refine sb rfl ?_)
      refine ⟨by omega, ?_⟩
      simp only [Int.toNat_natCast, hxe]
      repeat (first | refine sc rfl ?_ | refine so rfl ?_ | refine sb rfl ?_)
      refine O_call (rowL_c x) (by rfl) (by rfl) (by rfl) (by rfl) (fun r' hr => ?_)
      subst hr
      first
        | refine O_callA [0] (row_A b (wF cB) x) (by rfl) (by rfl) (by rfl) (by rfl) (by rfl) ?_
        | refine O_callA [1] (row_A b (wF cB) x) (by rfl) (by rfl) (by rfl) (by rfl) (by rfl) ?_
        | refine O_callA [2] (row_A b (wF cB) x) (by rfl) (by rfl) (by rfl) (by rfl) (by rfl) ?_
        | refine O_callA [3] (row_A b (wF cB) x) (by rfl) (by rfl) (by rfl) (by rfl) (by rfl) ?_
        | refine O_callA [4] (row_A b (wF cB) x) (by rfl) (by rfl) (by rfl) (by rfl) (by rfl) ?_
      rintro r' cs' ⟨rfl, rfl⟩
      rw [rowT_w, pF_r]
      repeat (first | refine sc rfl ?_ | refine so rfl ?_ | refine sb rfl ?_)
      rw [w64 (x := (i : Int) + 1) (by omega) (by omega)]
      exact ⟨(i + 1, cA, pF cB (rowD x)), hil, by omega, Le.pick [1, 1, 0] ⟨rfl, rfl, rfl, rfl, rfl, rfl, rfl, trivial⟩ rfl⟩
  repeat (first | refine sc rfl ?_ | refine so rfl ?_ | refine sb rfl ?_)
  refine C_loop (fun (p : Nat × (Nat → Int) × (Nat → Int)) => ⟨[(0, SL 8 Rw.c rows), (1, SL 4 Ou.c outs), (2, I64 n), (7, PT t 0), (8, PT a 0), (9, PT b 0), (11, I64 (p.1 : Nat))], [.abs (tlA t (wF (pF p.2.1 p.2.2))), .abs (tlA a (wF p.2.1)), .abs (tlA b (wF p.2.2))]⟩) (fun p => p.1 ≤ outs.length) (fun p => outs.length - p.1) (0, cA, cB) (Nat.zero_le _) (Le.pick [0, 0, 0] ⟨rfl, rfl, rfl, rfl, rfl, rfl, rfl, trivial⟩ rfl) ?_
  clear hi k1 i cA cB
  rintro ⟨i, cA, cB⟩ hi
  repeat (first | refine sc rfl ?_ | refine so rfl ?_ | refine sb rfl ?_)
  refine C_if rfl (fun k1 => ?_) (fun k1 => ?_) <;> simp only [decide_eq_true_eq, decide_eq_false_iff_not, Bool.not_eq_true', Bool.not_eq_false', beq_iff_eq, beq_eq_false_iff_ne, bne_iff_ne, ne_eq, bne_eq_false_iff_eq, Decidable.not_not] at k1
  · have hil : i < outs.length := by omega
    obtain ⟨x, hxe⟩ : ∃ x, outs.getD i default = x := ⟨_, rfl⟩
    repeat (first | refine sc rfl ?_ | refine so rfl ?_ | refine sb rfl ?_)
    refine ⟨by omega, ?_⟩
    simp only [Int.toNat_natCast, hxe]
    repeat (first | refine sc rfl ?_ | refine so rfl ?_ | refine sb rfl ?_)
    first
      | refine O_callA [0] (out_A t (wF (pF cA cB)) x) (by rfl) (by rfl) (by rfl) (by rfl) (by rfl) ?_
      | refine O_callA [1] (out_A t (wF (pF cA cB)) x) (by rfl) (by rfl) (by rfl) (by rfl) (by rfl) ?_
      | refine O_callA [2] (out_A t (wF (pF cA cB)) x) (by rfl) (by rfl) (by rfl) (by rfl) (by rfl) ?_
      | refine O_callA [3] (out_A t (wF (pF cA cB)) x) (by rfl) (by rfl) (by rfl) (by rfl) (by rfl) ?_
      | refine O_callA [4] (out_A t (wF (pF cA cB)) x) (by rfl) (by rfl) (by rfl) (by rfl) (by rfl) ?_
    rintro r' cs' ⟨rfl, rfl⟩
    rw [outT_w]
    repeat (first | refine sc rfl ?_ | refine so rfl ?_ | refine sb rfl ?_)
    refine C_if rfl (fun k2 => ?_) (fun k2 => ?_) <;> simp only [decide_eq_true_eq, decide_eq_false_iff_not, Bool.not_eq_true', Bool.not_eq_false', beq_iff_eq, beq_eq_false_iff_ne, bne_iff_ne, ne_eq, bne_eq_false_iff_eq, Decidable.not_not] at k2
    · repeat (first | refine sc rfl ?_ | refine so rfl ?_ | refine sb rfl ?_)
      refine ⟨by omega, ?_⟩
      simp only [Int.toNat_natCast, hxe]
      repeat (first | refine sc rfl ?_ | refine so rfl ?_ | refine sb rfl ?_)
      first
        | refine O_callA [0] (out_A b (wF cB) x) (by rfl) (by rfl) (by rfl) (by rfl) (by rfl) ?_
        | refine O_callA [1] (out_A b (wF cB) x) (by rfl) (by rfl) (by rfl) (by rfl) (by rfl) ?_
        | refine O_callA [2] (out_A b (wF cB) x) (by rfl) (by rfl) (by rfl) (by rfl) (by rfl) ?_
        | refine O_callA [3] (out_A b (wF cB) x) (by rfl) (by rfl) (by rfl) (by rfl) (by rfl) ?_
        | refine O_callA [4] (out_A b (wF cB) x) (by rfl) (by rfl) (by rfl) (by rfl) (by rfl) ?_
      rintro r' cs' ⟨rfl, rfl⟩
      rw [outT_w, pF_r]
      repeat (first | refine sc rfl ?_ | refine so rfl ?_ | refine sb rfl ?_)
      rw [w64 (x := (i : Int) + 1) (by omega) (by omega)]
      exact ⟨(i + 1, cA, pF cB (outD x)), hil, by omega, Le.pick [1, 1, 0] ⟨rfl, rfl, rfl, rfl, rfl, rfl, rfl, trivial⟩ rfl⟩
    · repeat (first | refine sc rfl ?_ | refine so rfl ?_ | refine sb rfl ?_)
      refine ⟨by omega, ?_⟩
      simp only [Int.toNat_natCast, hxe]
      repeat (first | refine sc rfl ?_ | refine so rfl ?_ | refine sb rfl ?_)
      first
        | refine O_callA [0] (out_A a (wF cA) x) (by rfl) (by rfl) (by rfl) (by rfl) (by rfl) ?_
        | refine O_callA [1] (out_A a (wF cA) x) (by rfl) (by rfl) (by rfl) (by rfl) (by rfl) ?_
        | refine O_callA [2] (out_A a (wF cA) x) (by rfl) (by rfl) (by rfl) (by rfl) (by rfl) ?_
        | refine O_callA [3] (out_A a (wF cA) x) (by rfl) (by rfl) (by rfl) (by rfl) (by rfl) ?_
        | refine O_callA [4] (out_A a (wF cA) x) (by rfl) (by rfl) (by rfl) (by rfl) (by rfl) ?_
      rintro r' cs' ⟨rfl, rfl⟩
      rw [outT_w, pF_l]
      repeat (first | refine sc rfl ?_ | refine so rfl ?_ | refine sb rfl ?_)
      rw [w64 (x := (i : Int) + 1) (by omega) (by omega)]
      exact ⟨(i + 1, pF cA (outD x), cB), hil, by omega, Le.pick [1, 0, 0] ⟨rfl, rfl, rfl, rfl, rfl, rfl, rfl, trivial⟩ rfl⟩
  repeat (first | refine sc rfl ?_ | refine so rfl ?_ | refine sb rfl ?_)
  refine O_callA [2, 1] (add2_A b a (wF cB) (wF cA)) (by rfl) (by rfl) (by rfl) (by rfl) (by rfl) ?_
  rintro r' cs' ⟨rfl, rfl⟩
  repeat (first | refine sc rfl ?_ | refine so rfl ?_ | refine sb rfl ?_)
  refine O_call (addN_c b) (by rfl) (by rfl) (by rfl) (by rfl) (fun r' hr => ?_)
  subst hr
  rw [show tlA b (addF (wF cB) (wF cA) 44) = tlA b (wF (pF cA cB)) by unfold tlA; rw [add_w]]
  repeat (first | refine sc rfl ?_ | refine so rfl ?_ | refine sb rfl ?_)
  refine O_callW hK [0] (text_W b (wF (pF cA cB)) (fun _ => wi8_ok _)) (by rfl) (by rfl) (by rfl) (by rfl) (by rfl) ?_
  rintro r' cs' ⟨rfl, rfl⟩
  repeat (first | refine sc rfl ?_ | refine so rfl ?_ | refine sb rfl ?_)
  refine O_callW hK [2] (text_W t (wF (pF cA cB)) (fun _ => wi8_ok _)) (by rfl) (by rfl) (by rfl) (by rfl) (by rfl) ?_
  rintro r' cs' ⟨rfl, rfl⟩
  repeat (first | refine sc rfl ?_ | refine so rfl ?_ | refine sb rfl ?_)
  refine C_false rfl (by simp) ?_
  repeat (first | refine sc rfl ?_ | refine so rfl ?_ | refine sb rfl ?_)
  refine O_callA [0] (rest_A t (wF (pF cA cB))) (by rfl) (by rfl) (by rfl) (by rfl) (by rfl) ?_
  rintro r' cs' ⟨rfl, rfl⟩
  repeat (first | refine sc rfl ?_ | refine so rfl ?_ | refine sb rfl ?_)
  refine O_callA [0] (addS_A t (wF (pF cA cB))) (by rfl) (by rfl) (by rfl) (by rfl) (by rfl) ?_
  rintro r' cs' ⟨rfl, rfl⟩
  repeat (first | refine sc rfl ?_ | refine so rfl ?_ | refine sb rfl ?_)
  refine O_callA [0] (rest_A t (addF (wF (pF cA cB)) (wF (pF cA cB)) 44)) (by rfl) (by rfl) (by rfl) (by rfl) (by rfl) ?_
  rintro r' cs' ⟨rfl, rfl⟩
  rw [add_2 (wF (pF cA cB)) (j := 40) (by decide), add_2 (wF (pF cA cB)) (j := 41) (by decide), add_2 (wF (pF cA cB)) (j := 42) (by decide), add_2 (wF (pF cA cB)) (j := 43) (by decide)]
  repeat (first | refine sc rfl ?_ | refine so rfl ?_ | refine sb rfl ?_)
  refine O_true 121 rfl (beq_self_eq_true _) ?_
  repeat (first | refine sc rfl ?_ | refine so rfl ?_ | refine sb rfl ?_)
  refine O_true 127 rfl (beq_self_eq_true _) ?_
  repeat (first | refine sc rfl ?_ | refine so rfl ?_ | refine sb rfl ?_)
  refine O_true 133 rfl (beq_self_eq_true _) ?_
  repeat (first | refine sc rfl ?_ | refine so rfl ?_ | refine sb rfl ?_)
  refine O_true 139 rfl (beq_self_eq_true _) ?_
  repeat (first | refine sc rfl ?_ | refine so rfl ?_ | refine sb rfl ?_)
  refine O_callW hK [] awake49_W (by rfl) (by rfl) (by rfl) (by rfl) (by rfl) ?_
  rintro r' cs' ⟨rfl, rfl⟩
  repeat (first | refine sc rfl ?_ | refine so rfl ?_ | refine sb rfl ?_)
  exact ⟨_, [], _, rfl, pickA_perm (is := []) (As := []) rfl, rfl, rfl⟩
end Go.Proofs
