/- Contracts, part eight: the law AuditTells. -/
import Derived.Test.YtgdlhcaidfokkaaT8
import Derived.Test.YtgdlhcaidfokkaaSy17
set_option linter.unusedSimpArgs false
set_option linter.unusedVariables false
namespace Go.Proofs
open Go.Sy

theorem awake48_c : FnP Try.prog 16 [] (· = B true) := by
  refine FnP.intro Try.tabOK Try.wide_ Try.func16 rfl (by decide) rfl (fun X => ?_)
  repeat (first | refine sc rfl ?_ | refine so rfl ?_ | refine sb rfl ?_)
  refine O_call (Check_c ⟨1040,0,0,0,0,2,0,0,0,0,0,0,0,0,0,0,0,0,0⟩ ⟨1040,0,0,0,0,2,0,0,0,0,0,0,3,0,0,0,0,0,0⟩) (by rfl) (by rfl) (by rfl) (by rfl) (fun r hr => ?_)
  subst hr
  rw [show chk ⟨1040,0,0,0,0,2,0,0,0,0,0,0,0,0,0,0,0,0,0⟩ ⟨1040,0,0,0,0,2,0,0,0,0,0,0,3,0,0,0,0,0,0⟩ = [3] by decide]
  repeat (first | refine sc rfl ?_ | refine so rfl ?_ | refine sb rfl ?_)
  repeat (first | refine sc rfl ?_ | refine so rfl ?_ | refine sb rfl ?_ | refine ⟨by decide, ?_⟩)
  exact ⟨_, rfl, rfl, rfl⟩

set_option maxRecDepth 20000 in
theorem neq46 (a b c : Int) (w : World) : (binOp .neq 46 (.agg #[.int .i64 a, .int .i64 b, .int .i64 c]) (.agg #[.int .i64 a, .int .i64 b, .int .i64 c])).run Try.prog w = .ok (.bool false) w := by
  have u3 := Try.underlying3
  have a3 := Try.isAgg3
  have z3 := Try.sizeOf3
  have hS : Try.prog.underlying 46 = some (.struct (Try.prog.fieldsOf 46)) := by kernel_rfl
  have hp : Try.prog.stoodInHeld 46 = false := by kernel_rfl
  rw [run_neq_struct, show (10000 : Nat) = 9999 + 1 from rfl, run_equalIn_agg w 9999 46 _ _ hS hp]
  simp only [Program.fieldsOf, Try.underlying46]
  go_simp

theorem agg3 {e : Env} {a b c : Int} {v : Value} (h : Rep e (.agg [I64 a, I64 b, I64 c]) v) : v = .agg #[.int .i64 a, .int .i64 b, .int .i64 c] := by
  simp only [Rep, RepL] at h
  obtain ⟨ys, rfl, z, zs, h1, rfl, _, z2, zs2, rfl, rfl, _, z3, zs3, rfl, rfl, _, rfl⟩ := h
  congr 1
  exact Array.ext' (by simpa using h1)

theorem law48_c (o : Int) (l : List Vw) (hl : l.length ≤ 9223372036854775807) : FnP Try.prog 4 [I64 o, SL 19 Vw.cells l] (· = B true) := by
  refine FnP.intro Try.tabOK Try.wide_ Try.func4 rfl (by decide) rfl (fun X => ?_)
  repeat (first | refine sc rfl ?_ | refine so rfl ?_ | refine sb rfl ?_)
  refine C_if rfl (fun h => ?_) (fun h => ?_) <;> simp only [decide_eq_true_eq, decide_eq_false_iff_not] at h
  · repeat (first | refine sc rfl ?_ | refine so rfl ?_ | refine sb rfl ?_)
    refine O_call awake48_c (by rfl) (by rfl) (by rfl) (by rfl) (fun r hr => ?_)
    subst hr
    repeat (first | refine sc rfl ?_ | refine so rfl ?_ | refine sb rfl ?_)
    exact ⟨_, rfl, rfl, rfl⟩
  have hl2 : l.length ≤ 200 := by omega
  repeat (first | refine sc rfl ?_ | refine so rfl ?_ | refine sb rfl ?_)
  refine C_loop (fun k : Nat => ⟨[(0, I64 o), (1, SL 19 Vw.cells l), (5, .own 27), (6, I64 (k : Int))], [.vec 27 34 21 k (fun i => Vw.own (l.getD i default))]⟩) (fun k => k ≤ l.length) (fun k => l.length - k) 0 (Nat.zero_le _)
      ((Le.nilown 5 27 34 21 (fun i => Vw.own (l.getD i default)) rfl rfl rfl).trans (Le.sub [27] ⟨rfl, rfl, rfl, rfl, trivial⟩ rfl)) ?_
  intro k hk
  repeat (first | refine sc rfl ?_ | refine so rfl ?_ | refine sb rfl ?_)
  refine C_if rfl (fun h3 => ?_) (fun h3 => ?_) <;> simp only [decide_eq_true_eq, decide_eq_false_iff_not] at h3
  · repeat (first | refine sc rfl ?_ | refine so rfl ?_ | refine sb rfl ?_ | refine ⟨by omega, ?_⟩)
    refine O_call (ours48_c (l.getD k default)) (by rfl) (by rfl) (by rfl) (by rfl) (fun r hr => ?_)
    subst hr
    repeat (first | refine sc rfl ?_ | refine so rfl ?_ | refine sb rfl ?_)
    refine O_append (m := k) (m2 := 1) (row := fun i => Vw.own (l.getD i default)) (m3 := k + 1) (row3 := fun i => Vw.own (l.getD i default)) (s2 := [(0, I64 o), (1, SL 19 Vw.cells l), (6, I64 (k : Int))]) rfl rfl rfl rfl rfl
      (src_own rfl rfl ?_) rfl ⟨rfl, rfl, rfl, trivial⟩ rfl rfl (by omega) (by simp only [maxLen]; omega) rfl ?_ ?_
    · intro i hi
      obtain rfl : i = 0 := by omega
      rfl
    · intro i hi
      unfold appRow
      by_cases h : i < k
      · rw [if_pos h]
      · rw [if_neg h]
        obtain rfl : i = k := by omega
        rw [Nat.sub_self]
        rfl
    repeat (first | refine sc rfl ?_ | refine so rfl ?_ | refine sb rfl ?_)
    refine C_drawD rfl (by kernel_rfl) ?_
    repeat (first | refine sd rfl ?_ | refine ⟨by omega, ?_⟩)
    refine D_call (Check_c (l.getD 0 default) (l.getD k default)) rfl rfl rfl rfl ?_
    repeat (first | refine sd rfl ?_ | refine ⟨by omega, ?_⟩)
    refine D_call (refCheck_c (l.getD 0 default) (l.getD k default)) rfl rfl rfl rfl ?_
    have hc9 := chk_len (l.getD 0 default) (l.getD k default)
    refine D_call (Ints_c (chk (l.getD 0 default) (l.getD k default)) (chk (l.getD 0 default) (l.getD k default)) (by omega) (by omega)) rfl rfl rfl rfl ?_
    rw [decide_eq_true rfl]
    repeat (first | refine sd rfl ?_ | refine sc rfl ?_ | refine C_false rfl rfl ?_)
    repeat (first | refine sc rfl ?_ | refine so rfl ?_)
    rw [w64 (x := (k : Int) + 1) (by omega) (by omega)]
    exact ⟨k + 1, by omega, by omega, Le.sub [27] ⟨rfl, rfl, rfl, rfl, trivial⟩ rfl⟩
  · obtain rfl : k = l.length := by omega
    refine C_le _ (Le.freeze 5 rfl rfl) ?_
    repeat (first | refine sc rfl ?_ | refine so rfl ?_ | refine sb rfl ?_)
    refine O_call (Of_c o l hl2) (by rfl) (by rfl) (by rfl) (by rfl) (fun r hr => ?_)
    subst hr
    repeat (first | refine sc rfl ?_ | refine so rfl ?_ | refine sb rfl ?_)
    refine O_call (refOf_c o l hl2) (by rfl) (by rfl) (by rfl) (by rfl) (fun r hr => ?_)
    subst hr
    have hlen := ofU_len o l (l.length - 1)
    generalize ofU o l (l.length - 1) = L at *
    repeat (first | refine sc rfl ?_ | refine so rfl ?_ | refine sb rfl ?_)
    refine C_false rfl (by simp) ?_
    repeat (first | refine sc rfl ?_ | refine so rfl ?_ | refine sb rfl ?_)
    refine C_loop (fun k : Nat => ⟨[(7, SL 3 fc L), (8, SL 3 fc L), (9, I64 (k : Int))], []⟩) (fun k => k ≤ L.length) (fun k => L.length - k) 0 (Nat.zero_le _)
      (Le.sub [] ⟨rfl, rfl, rfl, trivial⟩ rfl) ?_
    intro k hk
    repeat (first | refine sc rfl ?_ | refine so rfl ?_ | refine sb rfl ?_)
    refine C_if rfl (fun h4 => ?_) (fun h4 => ?_) <;> simp only [decide_eq_true_eq, decide_eq_false_iff_not] at h4
    · repeat (first | refine sc rfl ?_ | refine so rfl ?_ | refine sb rfl ?_)
      refine C_drawD rfl (by kernel_rfl) ?_
      repeat (first | refine sd rfl ?_ | refine ⟨by omega, ?_⟩)
      refine sdb rfl ?_
      refine D_val (B false) rfl rfl (fun e a w r => ?_) ?_
      · have hx := opd_sound r (o := .tmp 66) (x := .agg (fc (L.getD k default))) rfl
        have hy := opd_sound r (o := .tmp 82) (x := .agg (fc (L.getD k default))) rfl
        exact ⟨_, Rep_v, fun w' _ => run_cmp (agg3 hx) (agg3 hy) (by kernel_rfl) (fun w => neq46 _ _ _ w) w'⟩
      repeat (first | refine sd rfl ?_ | refine sc rfl ?_ | refine C_false rfl rfl ?_)
      repeat (first | refine sc rfl ?_ | refine so rfl ?_ | refine sb rfl ?_)
      rw [w64 (x := (k : Int) + 1) (by omega) (by omega)]
      exact ⟨k + 1, by omega, by omega, Le.sub [] ⟨rfl, rfl, rfl, trivial⟩ rfl⟩
    · repeat (first | refine sc rfl ?_ | refine so rfl ?_ | refine sb rfl ?_)
      refine O_call awake48_c (by rfl) (by rfl) (by rfl) (by rfl) (fun r hr => ?_)
      subst hr
      repeat (first | refine sc rfl ?_ | refine so rfl ?_ | refine sb rfl ?_)
      exact ⟨_, rfl, rfl, rfl⟩
end Go.Proofs
