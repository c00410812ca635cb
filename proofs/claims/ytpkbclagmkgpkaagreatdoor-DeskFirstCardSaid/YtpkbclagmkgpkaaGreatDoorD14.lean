/- The law DeskFirst. -/
import Derived.Test.YtpkbclagmkgpkaaGreatDoorD13
import Derived.Test.YtpkbclagmkgpkaaGreatDoorD10
set_option linter.unusedSimpArgs false
set_option linter.unusedVariables false
set_option maxRecDepth 100000
namespace Go.Proofs
open Go.Sy Go.Lib

theorem lines_c (s : List UInt8) (hs : s.length ≤ 1000000) : FnP Tryz.prog 12 [.s s] (· = SL 1 wc1 (spl 10 s)) := by
  refine FnP.intro Tryz.tabOK Tryz.wide_ Tryz.func12 rfl (by decide) rfl (fun X => ?_)
  repeat (first|refine sc rfl ?_|refine so rfl ?_|refine sb rfl ?_)
  refine O_call (refSplit_c s 10 hs) (by rfl) (by rfl) (by rfl) (by rfl) (fun r hr => ?_)
  subst hr
  repeat (first|refine sc rfl ?_|refine so rfl ?_|refine sb rfl ?_)
  exact ⟨_, rfl, rfl, rfl⟩
theorem much_le {s : List UInt8} (h : muchF s = false) : s.length ≤ 9000 ∧ s.count 10 ≤ 150 := by
  unfold muchF at h
  simp only [decide_eq_false_iff_not, not_or, Nat.not_lt] at h
  exact h
theorem joinL_len (A : List (List UInt8)) : (joinL A).length = (A.map fun w => w.length + 1).sum := by
  unfold joinL
  induction A with
  | nil => rfl
  | cons a A ih => simp only [List.map_cons, List.flatten_cons, List.length_append, List.sum_cons, ih, List.length_cons, List.length_nil]
theorem sum_take : ∀ (l : List Nat) (i : Nat), (l.take i).sum ≤ l.sum
  | [], i => by simp
  | a :: l, 0 => by simp
  | a :: l, i + 1 => by
    have := sum_take l i
    simp only [List.take_succ_cons, List.sum_cons]; omega
def fltV (e a : Int) : Array Value := #[.int .i64 e, .int .i64 a]
theorem rep_flt (e1 a : Int) (e : Env) (ys : List Value) (h : RepL e [I64 e1, I64 a] ys) : ys = (fltV e1 a).toList := by
  simp only [RepL, Rep] at h
  obtain ⟨z1, t1, rfl, rfl, _, z2, t2, rfl, rfl, _, rfl⟩ := h
  rfl
theorem eq_flt (e a : Int) (w : World) : (Op.equalIn 10000 31 (.agg (fltV e a)) (.agg (fltV e a))).run Tryz.prog w = .ok true w := by
  rw [run_equalIn_struct w 9999 31 _ _ Tryz.underlying31 Tryz.stoodInHeld31]
  unfold Program.fieldsOf
  rw [Tryz.underlying31]
  have p0 : (part 29 (fltV e a) 0).run Tryz.prog w = .ok (.int .i64 e) w := by simp [part, isAgg, run_underlying Tryz.underlying29, fltV]
  have p1 : (part 3 (fltV e a) 1).run Tryz.prog w = .ok (.int .i64 a) w := by simp [part, isAgg, run_underlying Tryz.underlying3, fltV]
  have e0 : ∀ k, (Op.equalIn 9999 29 (.int .i64 k) (.int .i64 k)).run Tryz.prog w = .ok true w := fun k => by rw [run_equalIn_int w 9998 29 .i64 .i64 _ _ Tryz.underlying29]; simp
  have e1 : ∀ k, (Op.equalIn 9999 3 (.int .i64 k) (.int .i64 k)).run Tryz.prog w = .ok true w := fun k => by rw [run_equalIn_int w 9998 3 .i64 .i64 _ _ Tryz.underlying3]; simp
  simp only [Op.eqFields]
  rw [if_pos (by decide), if_pos (by decide)]
  simp [Sem.run_bind, p0, p1, e0, e1]
theorem deskFirst_W (s : List UInt8) : FnK 4 [.s s] [] (fun r cs' => r = B true ∧ cs' = []) := by
  refine FnW.intro Tryz.tabOK Tryz.wide_ Tryz.func4 rfl (by decide) rfl (fun X hK => ?_)
  repeat (first|refine sc rfl ?_|refine so rfl ?_|refine sb rfl ?_)
  refine O_call (much_c s) (by rfl) (by rfl) (by rfl) (by rfl) (fun r hr => ?_)
  subst hr
  repeat (first|refine sc rfl ?_|refine so rfl ?_|refine sb rfl ?_)
  refine C_if rfl (fun k1 => ?_) (fun k1 => ?_)
  · repeat (first|refine sc rfl ?_|refine so rfl ?_|refine sb rfl ?_)
    refine O_callW hK [] awake50_W (by rfl) (by rfl) (by rfl) (by rfl) (by rfl) ?_
    rintro r' cs' ⟨rfl, rfl⟩
    repeat (first|refine sc rfl ?_|refine so rfl ?_|refine sb rfl ?_)
    exact ⟨_, [], _, rfl, pickA_perm (is := []) (As := []) rfl, rfl, rfl, rfl⟩
  obtain ⟨hlen, hcnt⟩ := much_le k1
  repeat (first|refine sc rfl ?_|refine so rfl ?_|refine sb rfl ?_)
  refine O_call (Read_P s (by omega) (by omega)) (by rfl) (by rfl) (by rfl) (by rfl) (fun r hr => ?_)
  subst hr
  have hfirst := readS_first s
  have hok := readS_eq s
  generalize readS s = Y at hfirst hok ⊢
  obtain ⟨y, e, at_⟩ := Y
  simp only [] at hfirst hok
  repeat (first|refine sc rfl ?_|refine so rfl ?_|refine sb rfl ?_)
  refine C_if rfl (fun k2 => ?_) (fun k2 => ?_) <;> simp only [pL] at k2
  · obtain ⟨h1, h2⟩ := hok k2
    subst h1
    repeat (first|refine sc rfl ?_|refine so rfl ?_|refine sb rfl ?_)
    refine O_true 26 rfl (by simp) ?_
    repeat (first|refine sc rfl ?_|refine so rfl ?_|refine sb rfl ?_)
    refine O_true 35 rfl (by simp [h2]) ?_
    repeat (first|refine sc rfl ?_|refine so rfl ?_|refine sb rfl ?_)
    refine O_callW hK [] awake50_W (by rfl) (by rfl) (by rfl) (by rfl) (by rfl) ?_
    rintro r' cs' ⟨rfl, rfl⟩
    repeat (first|refine sc rfl ?_|refine so rfl ?_|refine sb rfl ?_)
    exact ⟨_, [], _, rfl, pickA_perm (is := []) (As := []) rfl, rfl, rfl, rfl⟩
  obtain ⟨A, l, B, e1, e2, e3, e4⟩ := hfirst k2
  simp only [Prod.mk.injEq] at e2
  obtain ⟨rfl, _, rfl⟩ := e2
  repeat (first|refine sc rfl ?_|refine so rfl ?_|refine sb rfl ?_)
  refine O_call (lines_c s (by omega)) (by rfl) (by rfl) (by rfl) (by rfl) (fun r hr => ?_)
  subst hr
  have hcl : (spl 10 s).length ≤ 151 := by rw [spl_len]; omega
  have hsum := spl_sum 10 s
  rw [e1] at hcl hsum ⊢
  have hjl : ∀ i, (joinL (A.take i)).length ≤ s.length + 1 := fun i => by
    rw [joinL_len]
    have h1 := sum_take (A.map fun w => w.length + 1) i
    rw [← List.map_take] at h1
    rw [List.map_append, List.sum_append] at hsum
    omega
  have hll : l.length + 1 ≤ s.length + 1 := by
    rw [List.map_append, List.sum_append, List.map_cons, List.sum_cons] at hsum
    omega
  have hcA : A.length + 1 ≤ 151 := by rw [List.length_append, List.length_cons] at hcl; omega
  repeat (first|refine sc rfl ?_|refine so rfl ?_|refine sb rfl ?_)
  refine O_false 43 rfl (by simp; omega) ?_
  repeat (first|refine sc rfl ?_|refine so rfl ?_|refine sb rfl ?_)
  refine O_false 50 rfl (by simp; omega) ?_
  repeat (first|refine sc rfl ?_|refine so rfl ?_|refine sb rfl ?_)
  refine C_false rfl rfl ?_
  repeat (first|refine sc rfl ?_|refine so rfl ?_|refine sb rfl ?_)
  refine C_loop (fun i : Nat => ⟨[(4, .bp 4 0), (5, SL 1 wc1 (A ++ l :: B)), (6, .s (joinL (A.take i))), (7, I64 (i : Nat))], [.box 4 31 [I64 e, I64 ((A.length + 1 : Nat) : Int)]]⟩) (fun i => i ≤ A.length) (fun i => A.length - i) 0 (Nat.zero_le _) ?_ ?_
  · exact Le.pick [0] ⟨rfl, rfl, rfl, rfl, trivial⟩ rfl
  intro i hi
  repeat (first|refine sc rfl ?_|refine so rfl ?_|refine sb rfl ?_)
  rw [w64 (x := (i : Int) + 1) (by omega) (by omega)]
  repeat (first|refine sc rfl ?_|refine so rfl ?_|refine sb rfl ?_)
  refine C_if rfl (fun k3 => ?_) (fun k3 => ?_) <;> simp only [pL] at k3
  · have hiA : i < A.length := by omega
    repeat (first|refine sc rfl ?_|refine so rfl ?_|refine sb rfl ?_)
    refine ⟨by simp only [List.length_append, List.length_cons]; omega, ?_⟩
    have hget : (A ++ l :: B).getD ((i : Nat) : Int).toNat default = A[i] := by
      rw [Int.toNat_natCast, List.getD_eq_getElem?_getD, List.getElem?_append_left hiA, List.getElem?_eq_getElem hiA]; rfl
    have htk : joinL (A.take (i + 1)) = joinL (A.take i) ++ (A[i] ++ [10]) := by
      unfold joinL
      rw [List.take_succ_eq_append_getElem hiA, List.map_append, List.flatten_append]
      congr 1
      simp
    have hj1 := hjl (i + 1)
    rw [htk, List.length_append, List.length_append] at hj1
    repeat (first|refine sc rfl ?_|refine so rfl ?_|refine sb rfl ?_)
    rw [hget]
    refine ⟨by simp at hj1 ⊢; omega, ?_⟩
    repeat (first|refine sc rfl ?_|refine so rfl ?_|refine sb rfl ?_)
    refine ⟨by simp at hj1 ⊢; omega, ?_⟩
    repeat (first|refine sc rfl ?_|refine so rfl ?_|refine sb rfl ?_)
    rw [w64 (x := (i : Int) + 1) (by omega) (by omega)]
    refine ⟨i + 1, by omega, by omega, ?_⟩
    rw [htk]
    exact Le.pick [0] ⟨rfl, rfl, rfl, rfl, trivial⟩ rfl
  · obtain rfl : i = A.length := by omega
    rw [List.take_length]
    have hjA := hjl A.length
    rw [List.take_length] at hjA
    have hcj : (joinL A).count 10 ≤ 151 := by
      have h1 := spl_len 10 (joinL A)
      have h2 : spl 10 (joinL A) = A ++ [[]] := by
        have := spl_lines 10 [] A (fun p hp => spl_no 10 s p (by rw [e1]; exact List.mem_append_left _ hp))
        rw [List.append_nil] at this
        exact this
      rw [h2, List.length_append] at h1
      simp at h1
      omega
    have hcl2 : (joinL A ++ l).count 10 ≤ 1000 := by
      have h1 := @List.count_le_length _ _ (10 : UInt8) l
      have h2 : l.count 10 = 0 := List.count_eq_zero.2 (spl_no 10 s l (by rw [e1]; simp))
      rw [List.count_append]
      omega
    repeat (first|refine sc rfl ?_|refine so rfl ?_|refine sb rfl ?_)
    refine O_call (Read_P (joinL A) (by omega) (by omega)) (by rfl) (by rfl) (by rfl) (by rfl) (fun r hr => ?_)
    subst hr
    generalize readS (joinL A) = Z at e3 ⊢
    obtain ⟨z, e', az⟩ := Z
    simp only [] at e3
    subst e3
    repeat (first|refine sc rfl ?_|refine so rfl ?_|refine sb rfl ?_)
    rw [w64 (x := ((A.length + 1 : Nat) : Int) - 1) (by omega) (by omega), show ((A.length + 1 : Nat) : Int) - 1 = (A.length : Int) by omega]
    refine ⟨by simp only [List.length_append, List.length_cons]; omega, ?_⟩
    have hget : (A ++ l :: B).getD ((A.length : Nat) : Int).toNat default = l := by
      rw [Int.toNat_natCast, List.getD_eq_getElem?_getD, List.getElem?_append_right (Nat.le_refl _), Nat.sub_self]; rfl
    repeat (first|refine sc rfl ?_|refine so rfl ?_|refine sb rfl ?_)
    rw [hget]
    refine ⟨by omega, ?_⟩
    repeat (first|refine sc rfl ?_|refine so rfl ?_|refine sb rfl ?_)
    have hR2 := Read_P (joinL A ++ l) (by rw [List.length_append]; omega) hcl2
    rw [e4] at hR2
    refine O_call hR2 (by rfl) (by rfl) (by rfl) (by rfl) (fun r hr => ?_)
    subst hr
    repeat (first|refine sc rfl ?_|refine so rfl ?_|refine sb rfl ?_)
    refine O_Xd (X_aggC (us := fltV e ((A.length + 1 : Nat) : Int)) (vs := fltV e ((A.length + 1 : Nat) : Int)) (b := true) (op := .eql) (fun e2 ys h => rep_flt _ _ e2 ys h) (fun e2 ys h => rep_flt _ _ e2 ys h) (fun w => eq_flt _ _ w) Tryz.eqGuardType31 (.inl rfl) rfl rfl rfl rfl) ?_
    repeat (first|refine sc rfl ?_|refine so rfl ?_|refine sb rfl ?_)
    refine O_callW hK [] awake50_W (by rfl) (by rfl) (by rfl) (by rfl) (by rfl) ?_
    rintro r' cs' ⟨rfl, rfl⟩
    repeat (first|refine sc rfl ?_|refine so rfl ?_|refine sb rfl ?_)
    exact ⟨_, [], _, rfl, pickA_perm (is := []) (As := []) rfl, rfl, rfl, rfl⟩
end Go.Proofs
