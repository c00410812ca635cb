/- Orders are read. -/
import Derived.Test.YtpkbclagmkgpkaaGreatDoorN9
import Derived.Test.YtpkbclagmkgpkaaGreatDoorN2
import Derived.ScopeJumps
set_option linter.unusedSimpArgs false
set_option linter.unusedVariables false
set_option maxRecDepth 100000
namespace Go.Proofs
open Go.Sy Go.Lib

def qI (q : Cu) : Nat → Cu
  | 0 => q
  | i + 1 => smallC 1048576 (qI q i)
theorem qI_ok {q : Cu} (h : CuOK q) : ∀ i, CuOK (qI q i)
  | 0 => h
  | i + 1 => (qI_ok h i).small
abbrev vI (q : Cu) (i : Nat) : List Int := (List.range i).map fun j => ((smallV 1048576 (qI q j) : Nat) : Int)
theorem vI_s (q : Cu) (i : Nat) : vI q (i + 1) = vI q i ++ [((smallV 1048576 (qI q i) : Nat) : Int)] := by simp [vI, List.range_succ]
def ordX (op : Int) (q : Cu) : Cf := if configF op = true then (confOfF (vI (smallC 8 (numC q)) 9)).1 else default
def orderV (op : Int) (q : Cu) : List UInt8 × Int := ordP (numV q) op ((smallV 8 (numC q) : Nat) : Int) (ordX op q)
def orderC (op : Int) (q : Cu) : Cu := if configF op = true then qI (smallC 8 (numC q)) 9 else smallC 8 (numC q)
theorem order_S (c : Nat) (op : Int) (q : Cu) (h : CuOK q) (hCP : ∀ x : Cf, (cfP x).1.length ≤ 1000 ∧ FnP Tryz.prog 258 [.agg (Cf.c x)] (· = .tup [.s (cfP x).1, I64 (cfP x).2])) :
    FnA Tryz.prog 167 [I64 op, PT c 0] [cuA c q] (fun r cs' => r = .tup [.s (orderV op q).1, I64 (orderV op q).2] ∧ cs' = [cuA c (orderC op q)]) := by
  refine FnA.intro Tryz.tabOK Tryz.wide_ Tryz.func167 rfl (by decide) rfl (fun X => ?_)
  have b1 := smallV_le 8 (numC q)
  have hid := numV_lt q
  repeat (first|refine sc rfl ?_|refine so rfl ?_|refine sb rfl ?_)
  first
    | refine O_callA [0] (num_S c q h) (by rfl) (by rfl) (by rfl) (by rfl) (by rfl) ?_
    | refine O_callA [1] (num_S c q h) (by rfl) (by rfl) (by rfl) (by rfl) (by rfl) ?_
    | refine O_callA [2] (num_S c q h) (by rfl) (by rfl) (by rfl) (by rfl) (by rfl) ?_
    | refine O_callA [3] (num_S c q h) (by rfl) (by rfl) (by rfl) (by rfl) (by rfl) ?_
    | refine O_callA [4] (num_S c q h) (by rfl) (by rfl) (by rfl) (by rfl) (by rfl) ?_
  rintro r' cs' ⟨rfl, rfl⟩
  repeat (first|refine sc rfl ?_|refine so rfl ?_|refine sb rfl ?_)
  first
    | refine O_callA [0] (small_S c (numC q) 8 (by decide) h.num) (by rfl) (by rfl) (by rfl) (by rfl) (by rfl) ?_
    | refine O_callA [1] (small_S c (numC q) 8 (by decide) h.num) (by rfl) (by rfl) (by rfl) (by rfl) (by rfl) ?_
    | refine O_callA [2] (small_S c (numC q) 8 (by decide) h.num) (by rfl) (by rfl) (by rfl) (by rfl) (by rfl) ?_
    | refine O_callA [3] (small_S c (numC q) 8 (by decide) h.num) (by rfl) (by rfl) (by rfl) (by rfl) (by rfl) ?_
    | refine O_callA [4] (small_S c (numC q) 8 (by decide) h.num) (by rfl) (by rfl) (by rfl) (by rfl) (by rfl) ?_
  rintro r' cs' ⟨rfl, rfl⟩
  repeat (first|refine sc rfl ?_|refine so rfl ?_|refine sb rfl ?_)
  unfold orderV orderC ordX
  generalize hide : numV q = id at hid ⊢
  generalize howe : smallV 8 (numC q) = ow at b1 ⊢
  have hok : CuOK (smallC 8 (numC q)) := h.num.small
  generalize smallC 8 (numC q) = p at hok ⊢
  have key : ∀ (b : Bool) (x : Cf) (qq : Cu), True := fun _ _ _ => trivial
  by_cases hc : op = 1 ∨ op = 6
  · have hcf : configF op = true := by simp [configF, hc]
    rw [if_pos hcf, if_pos hcf]
    rcases hc with rfl | rfl
    · repeat (first|refine sc rfl ?_|refine so rfl ?_|refine sb rfl ?_)
      refine C_true rfl rfl ?_
      repeat (first|refine sc rfl ?_|refine so rfl ?_|refine sb rfl ?_)
      refine C_le _ (Le.nilvec INTc 7 28 3 1 rfl rfl rfl) ?_
      refine C_loop (fun i : Nat => ⟨[(0, I64 1), (1, PT c 0), (6, .bp 6 0), (7, .own 28), (22, I64 (i : Nat))], [VEC 28 3 1 INTc (vI p i), .box 6 360 (ordC id 1 (ow : Int) default), .abs (cuA c (qI p i))]⟩) (fun i => i ≤ 9) (fun i => 9 - i) 0 (Nat.zero_le _) (Le.pick [0, 0, 0] ⟨rfl, rfl, rfl, rfl, rfl, trivial⟩ rfl) ?_
      intro i hi
      have hln : (vI p i).length = i := by simp [vI]
      repeat (first|refine sc rfl ?_|refine so rfl ?_|refine sb rfl ?_)
      refine C_if rfl (fun k1 => ?_) (fun k1 => ?_) <;> simp only [pL] at k1
      · repeat (first|refine sc rfl ?_|refine so rfl ?_|refine sb rfl ?_)
        first
          | refine O_callA [0] (small_S c (qI p i) 1048576 (by decide) (qI_ok hok i)) (by rfl) (by rfl) (by rfl) (by rfl) (by rfl) ?_
          | refine O_callA [1] (small_S c (qI p i) 1048576 (by decide) (qI_ok hok i)) (by rfl) (by rfl) (by rfl) (by rfl) (by rfl) ?_
          | refine O_callA [2] (small_S c (qI p i) 1048576 (by decide) (qI_ok hok i)) (by rfl) (by rfl) (by rfl) (by rfl) (by rfl) ?_
          | refine O_callA [3] (small_S c (qI p i) 1048576 (by decide) (qI_ok hok i)) (by rfl) (by rfl) (by rfl) (by rfl) (by rfl) ?_
          | refine O_callA [4] (small_S c (qI p i) 1048576 (by decide) (qI_ok hok i)) (by rfl) (by rfl) (by rfl) (by rfl) (by rfl) ?_
        rintro r' cs' ⟨rfl, rfl⟩
        repeat (first|refine sc rfl ?_|refine so rfl ?_|refine sb rfl ?_)
        refine O_push INTc (vI p i) ((smallV 1048576 (qI p i) : Nat) : Int) [(0, I64 1), (1, PT c 0), (6, .bp 6 0), (22, I64 (i : Nat))] rfl rfl rfl rfl rfl rfl rfl rfl rfl rfl ⟨rfl, rfl, rfl, rfl, trivial⟩ rfl rfl (by omega) (by simp only [maxLen]; omega) ?_
        rw [← vI_s]
        repeat (first|refine sc rfl ?_|refine so rfl ?_|refine sb rfl ?_)
        rw [w64 (x := (i : Int) + 1) (by omega) (by omega)]
        exact ⟨i + 1, by omega, by omega, Le.pick [0, 2, 1] ⟨rfl, rfl, rfl, rfl, rfl, trivial⟩ rfl⟩
      · obtain rfl : i = 9 := by omega
        refine C_le _ (Le.freezeL (l := vI p 9) (cells := INTc) 7 rfl rfl) ?_
        repeat (first|refine sc rfl ?_|refine so rfl ?_|refine sb rfl ?_)
        refine O_call (confOf_c (vI p 9) (by omega)) (by rfl) (by rfl) (by rfl) (by rfl) (fun r hr => ?_)
        subst hr
        repeat (first|refine sc rfl ?_|refine so rfl ?_|refine sb rfl ?_)
        refine O_call (adminPut_c id 1 (ow : Int) (confOfF (vI p 9)).1 hid (hCP _).1 (hCP _).2) (by rfl) (by rfl) (by rfl) (by rfl) (fun r hr => ?_)
        subst hr
        repeat (first|refine sc rfl ?_|refine so rfl ?_|refine sb rfl ?_)
        first
          | exact ⟨_, [_], _, rfl, pickA_perm (is := [0]) (As := [_]) rfl, rfl, rfl, rfl⟩
          | exact ⟨_, [_], _, rfl, pickA_perm (is := [1]) (As := [_]) rfl, rfl, rfl, rfl⟩
          | exact ⟨_, [_], _, rfl, pickA_perm (is := [2]) (As := [_]) rfl, rfl, rfl, rfl⟩
          | exact ⟨_, [_], _, rfl, pickA_perm (is := [3]) (As := [_]) rfl, rfl, rfl, rfl⟩
          | exact ⟨_, [_], _, rfl, pickA_perm (is := [4]) (As := [_]) rfl, rfl, rfl, rfl⟩
    · repeat (first|refine sc rfl ?_|refine so rfl ?_|refine sb rfl ?_)
      refine C_true rfl rfl ?_
      repeat (first|refine sc rfl ?_|refine so rfl ?_|refine sb rfl ?_)
      refine C_le _ (Le.nilvec INTc 7 28 3 1 rfl rfl rfl) ?_
      refine C_loop (fun i : Nat => ⟨[(0, I64 6), (1, PT c 0), (6, .bp 6 0), (7, .own 28), (22, I64 (i : Nat))], [VEC 28 3 1 INTc (vI p i), .box 6 360 (ordC id 6 (ow : Int) default), .abs (cuA c (qI p i))]⟩) (fun i => i ≤ 9) (fun i => 9 - i) 0 (Nat.zero_le _) (Le.pick [0, 0, 0] ⟨rfl, rfl, rfl, rfl, rfl, trivial⟩ rfl) ?_
      intro i hi
      have hln : (vI p i).length = i := by simp [vI]
      repeat (first|refine sc rfl ?_|refine so rfl ?_|refine sb rfl ?_)
      refine C_if rfl (fun k1 => ?_) (fun k1 => ?_) <;> simp only [pL] at k1
      · repeat (first|refine sc rfl ?_|refine so rfl ?_|refine sb rfl ?_)
        first
          | refine O_callA [0] (small_S c (qI p i) 1048576 (by decide) (qI_ok hok i)) (by rfl) (by rfl) (by rfl) (by rfl) (by rfl) ?_
          | refine O_callA [1] (small_S c (qI p i) 1048576 (by decide) (qI_ok hok i)) (by rfl) (by rfl) (by rfl) (by rfl) (by rfl) ?_
          | refine O_callA [2] (small_S c (qI p i) 1048576 (by decide) (qI_ok hok i)) (by rfl) (by rfl) (by rfl) (by rfl) (by rfl) ?_
          | refine O_callA [3] (small_S c (qI p i) 1048576 (by decide) (qI_ok hok i)) (by rfl) (by rfl) (by rfl) (by rfl) (by rfl) ?_
          | refine O_callA [4] (small_S c (qI p i) 1048576 (by decide) (qI_ok hok i)) (by rfl) (by rfl) (by rfl) (by rfl) (by rfl) ?_
        rintro r' cs' ⟨rfl, rfl⟩
        repeat (first|refine sc rfl ?_|refine so rfl ?_|refine sb rfl ?_)
        refine O_push INTc (vI p i) ((smallV 1048576 (qI p i) : Nat) : Int) [(0, I64 6), (1, PT c 0), (6, .bp 6 0), (22, I64 (i : Nat))] rfl rfl rfl rfl rfl rfl rfl rfl rfl rfl ⟨rfl, rfl, rfl, rfl, trivial⟩ rfl rfl (by omega) (by simp only [maxLen]; omega) ?_
        rw [← vI_s]
        repeat (first|refine sc rfl ?_|refine so rfl ?_|refine sb rfl ?_)
        rw [w64 (x := (i : Int) + 1) (by omega) (by omega)]
        exact ⟨i + 1, by omega, by omega, Le.pick [0, 2, 1] ⟨rfl, rfl, rfl, rfl, rfl, trivial⟩ rfl⟩
      · obtain rfl : i = 9 := by omega
        refine C_le _ (Le.freezeL (l := vI p 9) (cells := INTc) 7 rfl rfl) ?_
        repeat (first|refine sc rfl ?_|refine so rfl ?_|refine sb rfl ?_)
        refine O_call (confOf_c (vI p 9) (by omega)) (by rfl) (by rfl) (by rfl) (by rfl) (fun r hr => ?_)
        subst hr
        repeat (first|refine sc rfl ?_|refine so rfl ?_|refine sb rfl ?_)
        refine O_call (adminPut_c id 6 (ow : Int) (confOfF (vI p 9)).1 hid (hCP _).1 (hCP _).2) (by rfl) (by rfl) (by rfl) (by rfl) (fun r hr => ?_)
        subst hr
        repeat (first|refine sc rfl ?_|refine so rfl ?_|refine sb rfl ?_)
        first
          | exact ⟨_, [_], _, rfl, pickA_perm (is := [0]) (As := [_]) rfl, rfl, rfl, rfl⟩
          | exact ⟨_, [_], _, rfl, pickA_perm (is := [1]) (As := [_]) rfl, rfl, rfl, rfl⟩
          | exact ⟨_, [_], _, rfl, pickA_perm (is := [2]) (As := [_]) rfl, rfl, rfl, rfl⟩
          | exact ⟨_, [_], _, rfl, pickA_perm (is := [3]) (As := [_]) rfl, rfl, rfl, rfl⟩
          | exact ⟨_, [_], _, rfl, pickA_perm (is := [4]) (As := [_]) rfl, rfl, rfl, rfl⟩
  · have hcf : configF op = false := by simp [configF, hc]
    rw [hcf]
    simp only [Bool.false_eq_true, if_false]
    refine O_case 18 rfl (fun h1 => ?_) (fun h1 => ?_) <;> simp only [pL] at h1
    · omega
    repeat (first|refine sc rfl ?_|refine so rfl ?_|refine sb rfl ?_)
    refine C_false rfl (by simp; omega) ?_
    repeat (first|refine sc rfl ?_|refine so rfl ?_|refine sb rfl ?_)
    refine O_call (adminPut_c id op (ow : Int) default hid (hCP _).1 (hCP _).2) (by rfl) (by rfl) (by rfl) (by rfl) (fun r hr => ?_)
    subst hr
    repeat (first|refine sc rfl ?_|refine so rfl ?_|refine sb rfl ?_)
    first
      | exact ⟨_, [_], _, rfl, pickA_perm (is := [0]) (As := [_]) rfl, rfl, rfl, rfl⟩
      | exact ⟨_, [_], _, rfl, pickA_perm (is := [1]) (As := [_]) rfl, rfl, rfl, rfl⟩
      | exact ⟨_, [_], _, rfl, pickA_perm (is := [2]) (As := [_]) rfl, rfl, rfl, rfl⟩
      | exact ⟨_, [_], _, rfl, pickA_perm (is := [3]) (As := [_]) rfl, rfl, rfl, rfl⟩
      | exact ⟨_, [_], _, rfl, pickA_perm (is := [4]) (As := [_]) rfl, rfl, rfl, rfl⟩
end Go.Proofs

namespace Go.Proofs
open Go.Sy Go.Lib

theorem u64_r (x : Int) : 0 ≤ IntKind.u64.wrap x ∧ IntKind.u64.wrap x < 18446744073709551616 := by
  simp only [IntKind.wrap, show IntKind.u64.signed = false from rfl, show IntKind.u64.bits = 64 from rfl, Bool.false_and, Bool.false_eq_true, if_false]
  omega
theorem tagF_r (x : Int) : 1 ≤ tagF x ∧ tagF x < 18446744073709551616 := by
  have : 0 ≤ mixF x 256 ∧ mixF x 256 < 18446744073709551616 := u64_r _
  unfold tagF
  omega
def CuT (q : Cu) : Prop := (q.1.map fun w => w.length + 1).sum ≤ 1000000
theorem sum_mem {w : List UInt8} : ∀ {l : List (List UInt8)}, w ∈ l → w.length + 1 ≤ (l.map fun w => w.length + 1).sum
  | x :: r, h => by
    rcases List.mem_cons.1 h with rfl | h
    · simp
    · have := sum_mem h
      simp at this ⊢; omega
theorem sum_len : ∀ l : List (List UInt8), l.length ≤ (l.map fun w => w.length + 1).sum
  | [] => by simp
  | x :: r => by have := sum_len r; simp at this ⊢; omega
theorem join_len : ∀ l : List (List UInt8), (Lib.join l [32]).length ≤ (l.map fun w => w.length + 1).sum
  | [] => by simp [Lib.join]
  | [x] => by simp [Lib.join]
  | x :: y :: r => by have := join_len (y :: r); simp [Lib.join] at this ⊢; omega
theorem CuT.ok {q : Cu} (h : CuT q) : CuOK q := fun w hw => by have := sum_mem hw; unfold CuT at h; omega
theorem CuT.tl {q : Cu} (h : CuT q) {b : Bool} : CuT (q.1.tail, b) := by
  unfold CuT at *
  cases hq : q.1 with
  | nil => simp
  | cons x r => rw [hq] at h; simp at h ⊢; omega
theorem CuT.len {q : Cu} (h : CuT q) : q.1.length ≤ 1000000 := by have := sum_len q.1; unfold CuT at h; omega
theorem CuT.join2 {q : Cu} (h : CuT q) : (restV q).length ≤ 1000000000 := by have := join_len q.1; unfold CuT at h; unfold restV; omega
theorem CuT.join {q : Cu} (h : CuT q) : (restV q).length ≤ 140737488355328 := by have := h.join2; omega
def bodyF (key : Int) (verb : List UInt8) (q : Cu) : (Int × List UInt8 × Int) × Cu :=
  if 0 < opF verb then ((8, orderV (opF verb) q), orderC (opF verb) q)
  else if verb = [104, 101, 108, 108, 111] then ((1, helloB q, 0), helloQ q)
  else if verb = [98, 111, 115, 115] then ((1, vput 0 ++ vput 1 ++ vput (tagF key).toNat, 0), q)
  else if verb = [112, 105, 110, 103] then ((5, [], 0), q)
  else if verb = [99, 97, 108, 108] then ((2, callB q, 0), callQ q)
  else if verb = [111, 110, 101, 119, 97, 121] then ((3, callB q, 0), callQ q)
  else if verb = [99, 97, 110, 99, 101, 108] then ((4, vput (numV q), 0), numC q)
  else if verb = [115, 99, 104, 101, 109, 97] then ((6, vput (numV q) ++ restV (numC q), 0), restC (numC q))
  else if verb = [98, 105, 110, 100] then ((7, bindB q, 0), bindQ q)
  else ((0, [], 6), q)
attribute [local irreducible] mixF
theorem body_S (c : Nat) (key : Int) (verb : List UInt8) (q : Cu) (hT : CuT q) (hCP : ∀ x : Cf, (cfP x).1.length ≤ 1000 ∧ FnP Tryz.prog 258 [.agg (Cf.c x)] (· = .tup [.s (cfP x).1, I64 (cfP x).2])) :
    FnA Tryz.prog 116 [U64 key, .s verb, PT c 0] [cuA c q] (fun r cs' => r = .tup [I64 (bodyF key verb q).1.1, .s (bodyF key verb q).1.2.1, I64 (bodyF key verb q).1.2.2] ∧ cs' = [cuA c (bodyF key verb q).2]) := by
  refine FnA.intro Tryz.tabOK Tryz.wide_ Tryz.func116 rfl (by decide) rfl (fun X => ?_)
  have h := hT.ok
  obtain ⟨B0, hB0⟩ : ∃ B0, bodyF key verb q = B0 := ⟨_, rfl⟩
  rw [hB0]
  unfold bodyF at hB0
  repeat (first|refine sc rfl ?_|refine so rfl ?_|refine sb rfl ?_)
  refine O_call (orderOp_c verb) (by rfl) (by rfl) (by rfl) (by rfl) (fun r hr => ?_)
  subst hr
  repeat (first|refine sc rfl ?_|refine so rfl ?_|refine sb rfl ?_)
  refine C_if rfl (fun h0 => ?_) (fun h0 => ?_) <;> simp only [pL] at h0
  · rw [if_pos h0] at hB0
    subst hB0
    repeat (first|refine sc rfl ?_|refine so rfl ?_|refine sb rfl ?_)
    first
      | refine O_callA [0] (order_S c (opF verb) q h hCP) (by rfl) (by rfl) (by rfl) (by rfl) (by rfl) ?_
      | refine O_callA [1] (order_S c (opF verb) q h hCP) (by rfl) (by rfl) (by rfl) (by rfl) (by rfl) ?_
      | refine O_callA [2] (order_S c (opF verb) q h hCP) (by rfl) (by rfl) (by rfl) (by rfl) (by rfl) ?_
      | refine O_callA [3] (order_S c (opF verb) q h hCP) (by rfl) (by rfl) (by rfl) (by rfl) (by rfl) ?_
      | refine O_callA [4] (order_S c (opF verb) q h hCP) (by rfl) (by rfl) (by rfl) (by rfl) (by rfl) ?_
    rintro r' cs' ⟨rfl, rfl⟩
    repeat (first|refine sc rfl ?_|refine so rfl ?_|refine sb rfl ?_)
    first
      | exact ⟨_, [_], _, rfl, pickA_perm (is := [0]) (As := [_]) rfl, rfl, rfl, rfl⟩
      | exact ⟨_, [_], _, rfl, pickA_perm (is := [1]) (As := [_]) rfl, rfl, rfl, rfl⟩
      | exact ⟨_, [_], _, rfl, pickA_perm (is := [2]) (As := [_]) rfl, rfl, rfl, rfl⟩
      | exact ⟨_, [_], _, rfl, pickA_perm (is := [3]) (As := [_]) rfl, rfl, rfl, rfl⟩
      | exact ⟨_, [_], _, rfl, pickA_perm (is := [4]) (As := [_]) rfl, rfl, rfl, rfl⟩
  rw [if_neg h0] at hB0
  repeat (first|refine sc rfl ?_|refine so rfl ?_|refine sb rfl ?_)
  refine C_if rfl (fun h1 => ?_) (fun h1 => ?_) <;> simp only [pL] at h1
  · rw [if_pos h1] at hB0
    subst hB0
    repeat (first|refine sc rfl ?_|refine so rfl ?_|refine sb rfl ?_)
    first
      | refine O_callA [0] (greeting_S c q h) (by rfl) (by rfl) (by rfl) (by rfl) (by rfl) ?_
      | refine O_callA [1] (greeting_S c q h) (by rfl) (by rfl) (by rfl) (by rfl) (by rfl) ?_
      | refine O_callA [2] (greeting_S c q h) (by rfl) (by rfl) (by rfl) (by rfl) (by rfl) ?_
      | refine O_callA [3] (greeting_S c q h) (by rfl) (by rfl) (by rfl) (by rfl) (by rfl) ?_
      | refine O_callA [4] (greeting_S c q h) (by rfl) (by rfl) (by rfl) (by rfl) (by rfl) ?_
    rintro r' cs' ⟨rfl, rfl⟩
    repeat (first|refine sc rfl ?_|refine so rfl ?_|refine sb rfl ?_)
    first
      | exact ⟨_, [_], _, rfl, pickA_perm (is := [0]) (As := [_]) rfl, rfl, rfl, rfl⟩
      | exact ⟨_, [_], _, rfl, pickA_perm (is := [1]) (As := [_]) rfl, rfl, rfl, rfl⟩
      | exact ⟨_, [_], _, rfl, pickA_perm (is := [2]) (As := [_]) rfl, rfl, rfl, rfl⟩
      | exact ⟨_, [_], _, rfl, pickA_perm (is := [3]) (As := [_]) rfl, rfl, rfl, rfl⟩
      | exact ⟨_, [_], _, rfl, pickA_perm (is := [4]) (As := [_]) rfl, rfl, rfl, rfl⟩
  rw [if_neg h1] at hB0
  clear h1
  repeat (first|refine sc rfl ?_|refine so rfl ?_|refine sb rfl ?_)
  refine C_if rfl (fun h1 => ?_) (fun h1 => ?_) <;> simp only [pL] at h1
  · rw [if_pos h1] at hB0
    subst hB0
    repeat (first|refine sc rfl ?_|refine so rfl ?_|refine sb rfl ?_)
    refine O_callA [] (bossTag_c key) (by rfl) (by rfl) (by rfl) (by rfl) (by rfl) ?_
    rintro r' cs' ⟨rfl, rfl⟩
    have ht := tagF_r key
    obtain ⟨tg, htg⟩ : ∃ tg : Nat, tagF key = (tg : Int) := ⟨(tagF key).toNat, by omega⟩
    rw [htg] at ht ⊢
    rw [Int.toNat_natCast]
    clear htg
    repeat (first|refine sc rfl ?_|refine so rfl ?_|refine sb rfl ?_)
    refine O_call (helloPut_c 0 1 tg (by decide) (by decide) (by omega)) (by rfl) (by rfl) (by rfl) (by rfl) (fun r hr => ?_)
    subst hr
    repeat (first|refine sc rfl ?_|refine so rfl ?_|refine sb rfl ?_)
    first
      | exact ⟨_, [_], _, rfl, pickA_perm (is := [0]) (As := [_]) rfl, rfl, rfl, rfl⟩
      | exact ⟨_, [_], _, rfl, pickA_perm (is := [1]) (As := [_]) rfl, rfl, rfl, rfl⟩
      | exact ⟨_, [_], _, rfl, pickA_perm (is := [2]) (As := [_]) rfl, rfl, rfl, rfl⟩
      | exact ⟨_, [_], _, rfl, pickA_perm (is := [3]) (As := [_]) rfl, rfl, rfl, rfl⟩
      | exact ⟨_, [_], _, rfl, pickA_perm (is := [4]) (As := [_]) rfl, rfl, rfl, rfl⟩
  rw [if_neg h1] at hB0
  clear h1
  repeat (first|refine sc rfl ?_|refine so rfl ?_|refine sb rfl ?_)
  refine C_if rfl (fun h1 => ?_) (fun h1 => ?_) <;> simp only [pL] at h1
  · rw [if_pos h1] at hB0
    subst hB0
    repeat (first|refine sc rfl ?_|refine so rfl ?_|refine sb rfl ?_)
    first
      | exact ⟨_, [_], _, rfl, pickA_perm (is := [0]) (As := [_]) rfl, rfl, rfl, rfl⟩
      | exact ⟨_, [_], _, rfl, pickA_perm (is := [1]) (As := [_]) rfl, rfl, rfl, rfl⟩
      | exact ⟨_, [_], _, rfl, pickA_perm (is := [2]) (As := [_]) rfl, rfl, rfl, rfl⟩
      | exact ⟨_, [_], _, rfl, pickA_perm (is := [3]) (As := [_]) rfl, rfl, rfl, rfl⟩
      | exact ⟨_, [_], _, rfl, pickA_perm (is := [4]) (As := [_]) rfl, rfl, rfl, rfl⟩
  rw [if_neg h1] at hB0
  clear h1
  repeat (first|refine sc rfl ?_|refine so rfl ?_|refine sb rfl ?_)
  refine C_if rfl (fun h1 => ?_) (fun h1 => ?_) <;> simp only [pL] at h1
  · rw [if_pos h1] at hB0
    subst hB0
    repeat (first|refine sc rfl ?_|refine so rfl ?_|refine sb rfl ?_)
    first
      | refine O_callA [0] (calling_S c q h) (by rfl) (by rfl) (by rfl) (by rfl) (by rfl) ?_
      | refine O_callA [1] (calling_S c q h) (by rfl) (by rfl) (by rfl) (by rfl) (by rfl) ?_
      | refine O_callA [2] (calling_S c q h) (by rfl) (by rfl) (by rfl) (by rfl) (by rfl) ?_
      | refine O_callA [3] (calling_S c q h) (by rfl) (by rfl) (by rfl) (by rfl) (by rfl) ?_
      | refine O_callA [4] (calling_S c q h) (by rfl) (by rfl) (by rfl) (by rfl) (by rfl) ?_
    rintro r' cs' ⟨rfl, rfl⟩
    repeat (first|refine sc rfl ?_|refine so rfl ?_|refine sb rfl ?_)
    first
      | exact ⟨_, [_], _, rfl, pickA_perm (is := [0]) (As := [_]) rfl, rfl, rfl, rfl⟩
      | exact ⟨_, [_], _, rfl, pickA_perm (is := [1]) (As := [_]) rfl, rfl, rfl, rfl⟩
      | exact ⟨_, [_], _, rfl, pickA_perm (is := [2]) (As := [_]) rfl, rfl, rfl, rfl⟩
      | exact ⟨_, [_], _, rfl, pickA_perm (is := [3]) (As := [_]) rfl, rfl, rfl, rfl⟩
      | exact ⟨_, [_], _, rfl, pickA_perm (is := [4]) (As := [_]) rfl, rfl, rfl, rfl⟩
  rw [if_neg h1] at hB0
  clear h1
  repeat (first|refine sc rfl ?_|refine so rfl ?_|refine sb rfl ?_)
  refine C_if rfl (fun h1 => ?_) (fun h1 => ?_) <;> simp only [pL] at h1
  · rw [if_pos h1] at hB0
    subst hB0
    repeat (first|refine sc rfl ?_|refine so rfl ?_|refine sb rfl ?_)
    first
      | refine O_callA [0] (calling_S c q h) (by rfl) (by rfl) (by rfl) (by rfl) (by rfl) ?_
      | refine O_callA [1] (calling_S c q h) (by rfl) (by rfl) (by rfl) (by rfl) (by rfl) ?_
      | refine O_callA [2] (calling_S c q h) (by rfl) (by rfl) (by rfl) (by rfl) (by rfl) ?_
      | refine O_callA [3] (calling_S c q h) (by rfl) (by rfl) (by rfl) (by rfl) (by rfl) ?_
      | refine O_callA [4] (calling_S c q h) (by rfl) (by rfl) (by rfl) (by rfl) (by rfl) ?_
    rintro r' cs' ⟨rfl, rfl⟩
    repeat (first|refine sc rfl ?_|refine so rfl ?_|refine sb rfl ?_)
    first
      | exact ⟨_, [_], _, rfl, pickA_perm (is := [0]) (As := [_]) rfl, rfl, rfl, rfl⟩
      | exact ⟨_, [_], _, rfl, pickA_perm (is := [1]) (As := [_]) rfl, rfl, rfl, rfl⟩
      | exact ⟨_, [_], _, rfl, pickA_perm (is := [2]) (As := [_]) rfl, rfl, rfl, rfl⟩
      | exact ⟨_, [_], _, rfl, pickA_perm (is := [3]) (As := [_]) rfl, rfl, rfl, rfl⟩
      | exact ⟨_, [_], _, rfl, pickA_perm (is := [4]) (As := [_]) rfl, rfl, rfl, rfl⟩
  rw [if_neg h1] at hB0
  clear h1
  repeat (first|refine sc rfl ?_|refine so rfl ?_|refine sb rfl ?_)
  refine C_if rfl (fun h1 => ?_) (fun h1 => ?_) <;> simp only [pL] at h1
  · rw [if_pos h1] at hB0
    subst hB0
    repeat (first|refine sc rfl ?_|refine so rfl ?_|refine sb rfl ?_)
    first
      | refine O_callA [0] (num_S c q h) (by rfl) (by rfl) (by rfl) (by rfl) (by rfl) ?_
      | refine O_callA [1] (num_S c q h) (by rfl) (by rfl) (by rfl) (by rfl) (by rfl) ?_
      | refine O_callA [2] (num_S c q h) (by rfl) (by rfl) (by rfl) (by rfl) (by rfl) ?_
      | refine O_callA [3] (num_S c q h) (by rfl) (by rfl) (by rfl) (by rfl) (by rfl) ?_
      | refine O_callA [4] (num_S c q h) (by rfl) (by rfl) (by rfl) (by rfl) (by rfl) ?_
    rintro r' cs' ⟨rfl, rfl⟩
    repeat (first|refine sc rfl ?_|refine so rfl ?_|refine sb rfl ?_)
    refine O_call (putCancel_c (numV q) (numV_lt q)) (by rfl) (by rfl) (by rfl) (by rfl) (fun r hr => ?_)
    subst hr
    repeat (first|refine sc rfl ?_|refine so rfl ?_|refine sb rfl ?_)
    first
      | exact ⟨_, [_], _, rfl, pickA_perm (is := [0]) (As := [_]) rfl, rfl, rfl, rfl⟩
      | exact ⟨_, [_], _, rfl, pickA_perm (is := [1]) (As := [_]) rfl, rfl, rfl, rfl⟩
      | exact ⟨_, [_], _, rfl, pickA_perm (is := [2]) (As := [_]) rfl, rfl, rfl, rfl⟩
      | exact ⟨_, [_], _, rfl, pickA_perm (is := [3]) (As := [_]) rfl, rfl, rfl, rfl⟩
      | exact ⟨_, [_], _, rfl, pickA_perm (is := [4]) (As := [_]) rfl, rfl, rfl, rfl⟩
  rw [if_neg h1] at hB0
  clear h1
  repeat (first|refine sc rfl ?_|refine so rfl ?_|refine sb rfl ?_)
  refine C_if rfl (fun h1 => ?_) (fun h1 => ?_) <;> simp only [pL] at h1
  · rw [if_pos h1] at hB0
    subst hB0
    repeat (first|refine sc rfl ?_|refine so rfl ?_|refine sb rfl ?_)
    first
      | refine O_callA [0] (num_S c q h) (by rfl) (by rfl) (by rfl) (by rfl) (by rfl) ?_
      | refine O_callA [1] (num_S c q h) (by rfl) (by rfl) (by rfl) (by rfl) (by rfl) ?_
      | refine O_callA [2] (num_S c q h) (by rfl) (by rfl) (by rfl) (by rfl) (by rfl) ?_
      | refine O_callA [3] (num_S c q h) (by rfl) (by rfl) (by rfl) (by rfl) (by rfl) ?_
      | refine O_callA [4] (num_S c q h) (by rfl) (by rfl) (by rfl) (by rfl) (by rfl) ?_
    rintro r' cs' ⟨rfl, rfl⟩
    repeat (first|refine sc rfl ?_|refine so rfl ?_|refine sb rfl ?_)
    have ht2 := hT.tl (b := q.2 || q.1.isEmpty || (numF (q.1.headD [])).isNone)
    first
      | refine O_callA [0] (rest_S c (numC q) ht2.len ht2.join) (by rfl) (by rfl) (by rfl) (by rfl) (by rfl) ?_
      | refine O_callA [1] (rest_S c (numC q) ht2.len ht2.join) (by rfl) (by rfl) (by rfl) (by rfl) (by rfl) ?_
      | refine O_callA [2] (rest_S c (numC q) ht2.len ht2.join) (by rfl) (by rfl) (by rfl) (by rfl) (by rfl) ?_
      | refine O_callA [3] (rest_S c (numC q) ht2.len ht2.join) (by rfl) (by rfl) (by rfl) (by rfl) (by rfl) ?_
      | refine O_callA [4] (rest_S c (numC q) ht2.len ht2.join) (by rfl) (by rfl) (by rfl) (by rfl) (by rfl) ?_
    rintro r' cs' ⟨rfl, rfl⟩
    repeat (first|refine sc rfl ?_|refine so rfl ?_|refine sb rfl ?_)
    refine O_call (putSchema_c (numV q) (restV (numC q)) (numV_lt q) ht2.join2) (by rfl) (by rfl) (by rfl) (by rfl) (fun r hr => ?_)
    subst hr
    repeat (first|refine sc rfl ?_|refine so rfl ?_|refine sb rfl ?_)
    first
      | exact ⟨_, [_], _, rfl, pickA_perm (is := [0]) (As := [_]) rfl, rfl, rfl, rfl⟩
      | exact ⟨_, [_], _, rfl, pickA_perm (is := [1]) (As := [_]) rfl, rfl, rfl, rfl⟩
      | exact ⟨_, [_], _, rfl, pickA_perm (is := [2]) (As := [_]) rfl, rfl, rfl, rfl⟩
      | exact ⟨_, [_], _, rfl, pickA_perm (is := [3]) (As := [_]) rfl, rfl, rfl, rfl⟩
      | exact ⟨_, [_], _, rfl, pickA_perm (is := [4]) (As := [_]) rfl, rfl, rfl, rfl⟩
  rw [if_neg h1] at hB0
  clear h1
  repeat (first|refine sc rfl ?_|refine so rfl ?_|refine sb rfl ?_)
  refine C_if rfl (fun h1 => ?_) (fun h1 => ?_) <;> simp only [pL] at h1
  · rw [if_pos h1] at hB0
    subst hB0
    repeat (first|refine sc rfl ?_|refine so rfl ?_|refine sb rfl ?_)
    first
      | refine O_callA [0] (binding_S c q h) (by rfl) (by rfl) (by rfl) (by rfl) (by rfl) ?_
      | refine O_callA [1] (binding_S c q h) (by rfl) (by rfl) (by rfl) (by rfl) (by rfl) ?_
      | refine O_callA [2] (binding_S c q h) (by rfl) (by rfl) (by rfl) (by rfl) (by rfl) ?_
      | refine O_callA [3] (binding_S c q h) (by rfl) (by rfl) (by rfl) (by rfl) (by rfl) ?_
      | refine O_callA [4] (binding_S c q h) (by rfl) (by rfl) (by rfl) (by rfl) (by rfl) ?_
    rintro r' cs' ⟨rfl, rfl⟩
    repeat (first|refine sc rfl ?_|refine so rfl ?_|refine sb rfl ?_)
    first
      | exact ⟨_, [_], _, rfl, pickA_perm (is := [0]) (As := [_]) rfl, rfl, rfl, rfl⟩
      | exact ⟨_, [_], _, rfl, pickA_perm (is := [1]) (As := [_]) rfl, rfl, rfl, rfl⟩
      | exact ⟨_, [_], _, rfl, pickA_perm (is := [2]) (As := [_]) rfl, rfl, rfl, rfl⟩
      | exact ⟨_, [_], _, rfl, pickA_perm (is := [3]) (As := [_]) rfl, rfl, rfl, rfl⟩
      | exact ⟨_, [_], _, rfl, pickA_perm (is := [4]) (As := [_]) rfl, rfl, rfl, rfl⟩
  rw [if_neg h1] at hB0
  clear h1
  repeat (first|refine sc rfl ?_|refine so rfl ?_|refine sb rfl ?_)
  subst hB0
  first
    | exact ⟨_, [_], _, rfl, pickA_perm (is := [0]) (As := [_]) rfl, rfl, rfl, rfl⟩
    | exact ⟨_, [_], _, rfl, pickA_perm (is := [1]) (As := [_]) rfl, rfl, rfl, rfl⟩
    | exact ⟨_, [_], _, rfl, pickA_perm (is := [2]) (As := [_]) rfl, rfl, rfl, rfl⟩
    | exact ⟨_, [_], _, rfl, pickA_perm (is := [3]) (As := [_]) rfl, rfl, rfl, rfl⟩
    | exact ⟨_, [_], _, rfl, pickA_perm (is := [4]) (As := [_]) rfl, rfl, rfl, rfl⟩
end Go.Proofs

namespace Go.Proofs
open Go.Sy Go.Lib

theorem ordP_len (id : Nat) (op owner : Int) (x : Cf) (hid : id < 18446744073709551616) (hl : (cfP x).1.length ≤ 1000) : (ordP id op owner x).1.length ≤ 2000 := by
  unfold ordP
  split
  · rename_i h
    obtain ⟨o1, o2, o3, o4⟩ := form_op h
    have a1 := vput_len10 hid
    have a2 := vput_len10 (n := op.toNat) (by omega)
    have a3 := vput_len10 (n := owner.toNat) (by omega)
    split <;> simp only [ordB, List.length_append] <;> omega
  · simp
theorem bodyF_len (key : Int) (verb : List UInt8) (q : Cu) (hT : CuT q) (hl : ∀ x : Cf, (cfP x).1.length ≤ 1000) : (bodyF key verb q).1.2.1.length ≤ 2000000000 := by
  have h := hT.ok
  have v := fun (q : Cu) => vput_len10 (numV_lt q)
  have v2 := fun (m : Nat) (hm : m ≤ 1048576) (q : Cu) => vput_len10 (n := smallV m q) (by have := smallV_le m q; omega)
  have cal : (callB q).length ≤ 2000000000 := by
    have b1 := v q
    have b2 := v2 1048576 (by decide) (numC q)
    have b3 := v2 1048576 (by decide) (smallC 1048576 (numC q))
    have b4 := bytesV_len (q := smallC 1048576 (smallC 1048576 (numC q))) h.num.small.small
    simp only [callB, List.length_append]; omega
  have hel : (helloB q).length ≤ 2000000000 := by
    have b1 := v2 8 (by decide) q
    have b2 := v2 1048576 (by decide) (smallC 8 q)
    have b3 := v (smallC 1048576 (smallC 8 q))
    simp only [helloB, List.length_append]; omega
  have bin : (bindB q).length ≤ 2000000000 := by
    have b1 := v q
    have b2 := v2 1048576 (by decide) (numC q)
    have b3 := wordV_len (q := smallC 1048576 (numC q)) h.num.small
    have b4 := wordV_len (q := wordC (smallC 1048576 (numC q))) h.num.small.word
    have b5 := v2 1048576 (by decide) (wordC (wordC (smallC 1048576 (numC q))))
    have b6 := vput_len10 (n := (wordV (smallC 1048576 (numC q))).length) (by omega)
    have b7 := vput_len10 (n := (wordV (wordC (smallC 1048576 (numC q)))).length) (by omega)
    simp only [bindB, spanF, List.length_append]; omega
  have sch := (hT.tl (b := q.2 || q.1.isEmpty || (numF (q.1.headD [])).isNone)).join2
  have b1 := v q
  have tg := tagF_r key
  have b2 := vput_len10 (n := (tagF key).toNat) (by omega)
  have b3 := vput_len10 (n := 0) (by decide)
  have b4 := vput_len10 (n := 1) (by decide)
  unfold bodyF
  split
  · have := ordP_len (numV q) (opF verb) ((smallV 8 (numC q) : Nat) : Int) (ordX (opF verb) q) (numV_lt q) (hl _)
    show (orderV (opF verb) q).1.length ≤ _
    unfold orderV; omega
  repeat' split
  · exact hel
  · simp only [List.length_append]; omega
  · simp
  · exact cal
  · exact cal
  · show (vput (numV q)).length ≤ _; omega
  · show (vput (numV q) ++ restV (numC q)).length ≤ _
    rw [List.length_append]
    have : (restV (numC q)).length ≤ 1000000000 := sch
    omega
  · exact bin
  · simp
end Go.Proofs

namespace Go.Proofs
open Go.Sy Go.Lib

def doneB (q : Cu) : Bool := !q.2 && q.1.isEmpty
theorem done_S (c : Nat) (q : Cu) : FnA Tryz.prog 32 [PT c 0] [cuA c q] (fun r cs' => r = B (doneB q) ∧ cs' = [cuA c q]) := done_A c q.1 q.2
def comeV (cn : Int) (b : Int × List UInt8 × Int) (d : Bool) : Evt × Int :=
  if b.1 = 0 then (⟨2, cn, 0, []⟩, 6) else if d = false ∨ b.2.2 ≠ 0 then (⟨2, cn, 0, []⟩, 1) else (⟨2, cn, 0, fputL b.1 0 b.2.1⟩, fputE b.1 0 b.2.1)
def comeF (key : Int) (verb : List UInt8) (q : Cu) : Evt × Int := comeV ((smallV 15 q : Nat) : Int) (bodyF key verb (smallC 15 q)).1 (doneB (bodyF key verb (smallC 15 q)).2)
theorem come_S (c : Nat) (key : Int) (verb : List UInt8) (q : Cu) (hT : CuT q) (hCP : ∀ x : Cf, (cfP x).1.length ≤ 1000 ∧ FnP Tryz.prog 258 [.agg (Cf.c x)] (· = .tup [.s (cfP x).1, I64 (cfP x).2])) :
    FnA Tryz.prog 71 [U64 key, .s verb, PT c 0] [cuA c q] (fun r cs' => r = .tup [.agg (Evt.c (comeF key verb q).1), I64 (comeF key verb q).2] ∧ cs' = [cuA c (bodyF key verb (smallC 15 q)).2]) := by
  refine FnA.intro Tryz.tabOK Tryz.wide_ Tryz.func71 rfl (by decide) rfl (fun X => ?_)
  have hl := bodyF_len key verb (smallC 15 q) hT.tl (fun x => (hCP x).1)
  obtain ⟨E0, hE0⟩ : ∃ E0, comeF key verb q = E0 := ⟨_, rfl⟩
  rw [hE0]
  unfold comeF at hE0
  repeat (first|refine sc rfl ?_|refine so rfl ?_|refine sb rfl ?_)
  first
    | refine O_callA [0] (small_S c q 15 (by decide) hT.ok) (by rfl) (by rfl) (by rfl) (by rfl) (by rfl) ?_
    | refine O_callA [1] (small_S c q 15 (by decide) hT.ok) (by rfl) (by rfl) (by rfl) (by rfl) (by rfl) ?_
    | refine O_callA [2] (small_S c q 15 (by decide) hT.ok) (by rfl) (by rfl) (by rfl) (by rfl) (by rfl) ?_
    | refine O_callA [3] (small_S c q 15 (by decide) hT.ok) (by rfl) (by rfl) (by rfl) (by rfl) (by rfl) ?_
    | refine O_callA [4] (small_S c q 15 (by decide) hT.ok) (by rfl) (by rfl) (by rfl) (by rfl) (by rfl) ?_
  rintro r' cs' ⟨rfl, rfl⟩
  repeat (first|refine sc rfl ?_|refine so rfl ?_|refine sb rfl ?_)
  first
    | refine O_callA [0] (body_S c key verb (smallC 15 q) hT.tl hCP) (by rfl) (by rfl) (by rfl) (by rfl) (by rfl) ?_
    | refine O_callA [1] (body_S c key verb (smallC 15 q) hT.tl hCP) (by rfl) (by rfl) (by rfl) (by rfl) (by rfl) ?_
    | refine O_callA [2] (body_S c key verb (smallC 15 q) hT.tl hCP) (by rfl) (by rfl) (by rfl) (by rfl) (by rfl) ?_
    | refine O_callA [3] (body_S c key verb (smallC 15 q) hT.tl hCP) (by rfl) (by rfl) (by rfl) (by rfl) (by rfl) ?_
    | refine O_callA [4] (body_S c key verb (smallC 15 q) hT.tl hCP) (by rfl) (by rfl) (by rfl) (by rfl) (by rfl) ?_
  rintro r' cs' ⟨rfl, rfl⟩
  generalize smallV 15 q = cn at hE0 ⊢
  generalize bodyF key verb (smallC 15 q) = bb at hE0 hl ⊢
  simp only [comeV] at hE0
  repeat (first|refine sc rfl ?_|refine so rfl ?_|refine sb rfl ?_)
  refine C_if rfl (fun h1 => ?_) (fun h1 => ?_) <;> simp only [pL] at h1
  · rw [if_pos h1] at hE0
    subst hE0
    repeat (first|refine sc rfl ?_|refine so rfl ?_|refine sb rfl ?_)
    first
      | exact ⟨_, [_], _, rfl, pickA_perm (is := [0]) (As := [_]) rfl, rfl, rfl, rfl⟩
      | exact ⟨_, [_], _, rfl, pickA_perm (is := [1]) (As := [_]) rfl, rfl, rfl, rfl⟩
      | exact ⟨_, [_], _, rfl, pickA_perm (is := [2]) (As := [_]) rfl, rfl, rfl, rfl⟩
      | exact ⟨_, [_], _, rfl, pickA_perm (is := [3]) (As := [_]) rfl, rfl, rfl, rfl⟩
      | exact ⟨_, [_], _, rfl, pickA_perm (is := [4]) (As := [_]) rfl, rfl, rfl, rfl⟩
  rw [if_neg h1] at hE0
  repeat (first|refine sc rfl ?_|refine so rfl ?_|refine sb rfl ?_)
  first
    | refine O_callA [0] (done_S c bb.2) (by rfl) (by rfl) (by rfl) (by rfl) (by rfl) ?_
    | refine O_callA [1] (done_S c bb.2) (by rfl) (by rfl) (by rfl) (by rfl) (by rfl) ?_
    | refine O_callA [2] (done_S c bb.2) (by rfl) (by rfl) (by rfl) (by rfl) (by rfl) ?_
    | refine O_callA [3] (done_S c bb.2) (by rfl) (by rfl) (by rfl) (by rfl) (by rfl) ?_
    | refine O_callA [4] (done_S c bb.2) (by rfl) (by rfl) (by rfl) (by rfl) (by rfl) ?_
  rintro r' cs' ⟨rfl, rfl⟩
  repeat (first|refine sc rfl ?_|refine so rfl ?_|refine sb rfl ?_)
  cases hd : doneB bb.2 with
  | false =>
    rw [hd, if_pos (.inl rfl)] at hE0
    subst hE0
    refine O_true 32 rfl rfl ?_
    repeat (first|refine sc rfl ?_|refine so rfl ?_|refine sb rfl ?_)
    refine C_true rfl rfl ?_
    repeat (first|refine sc rfl ?_|refine so rfl ?_|refine sb rfl ?_)
    first
      | exact ⟨_, [_], _, rfl, pickA_perm (is := [0]) (As := [_]) rfl, rfl, rfl, rfl⟩
      | exact ⟨_, [_], _, rfl, pickA_perm (is := [1]) (As := [_]) rfl, rfl, rfl, rfl⟩
      | exact ⟨_, [_], _, rfl, pickA_perm (is := [2]) (As := [_]) rfl, rfl, rfl, rfl⟩
      | exact ⟨_, [_], _, rfl, pickA_perm (is := [3]) (As := [_]) rfl, rfl, rfl, rfl⟩
      | exact ⟨_, [_], _, rfl, pickA_perm (is := [4]) (As := [_]) rfl, rfl, rfl, rfl⟩
  | true =>
    refine O_false 32 rfl rfl ?_
    repeat (first|refine sc rfl ?_|refine so rfl ?_|refine sb rfl ?_)
    refine C_if rfl (fun h2 => ?_) (fun h2 => ?_) <;> simp only [pL] at h2
    · rw [if_pos (.inr h2)] at hE0
      subst hE0
      repeat (first|refine sc rfl ?_|refine so rfl ?_|refine sb rfl ?_)
      first
        | exact ⟨_, [_], _, rfl, pickA_perm (is := [0]) (As := [_]) rfl, rfl, rfl, rfl⟩
        | exact ⟨_, [_], _, rfl, pickA_perm (is := [1]) (As := [_]) rfl, rfl, rfl, rfl⟩
        | exact ⟨_, [_], _, rfl, pickA_perm (is := [2]) (As := [_]) rfl, rfl, rfl, rfl⟩
        | exact ⟨_, [_], _, rfl, pickA_perm (is := [3]) (As := [_]) rfl, rfl, rfl, rfl⟩
        | exact ⟨_, [_], _, rfl, pickA_perm (is := [4]) (As := [_]) rfl, rfl, rfl, rfl⟩
    rw [hd, if_neg (by rintro (h | h); cases h; exact h h2)] at hE0
    subst hE0
    repeat (first|refine sc rfl ?_|refine so rfl ?_|refine sb rfl ?_)
    refine O_call (Put84_p bb.1.1 0 bb.1.2.1 (by omega)) (by rfl) (by rfl) (by rfl) (by rfl) (fun r hr => ?_)
    subst hr
    repeat (first|refine sc rfl ?_|refine so rfl ?_|refine sb rfl ?_)
    first
      | exact ⟨_, [_], _, rfl, pickA_perm (is := [0]) (As := [_]) rfl, rfl, rfl, rfl⟩
      | exact ⟨_, [_], _, rfl, pickA_perm (is := [1]) (As := [_]) rfl, rfl, rfl, rfl⟩
      | exact ⟨_, [_], _, rfl, pickA_perm (is := [2]) (As := [_]) rfl, rfl, rfl, rfl⟩
      | exact ⟨_, [_], _, rfl, pickA_perm (is := [3]) (As := [_]) rfl, rfl, rfl, rfl⟩
      | exact ⟨_, [_], _, rfl, pickA_perm (is := [4]) (As := [_]) rfl, rfl, rfl, rfl⟩
end Go.Proofs

namespace Go.Proofs
open Go.Sy Go.Lib

def plainV (verb : List UInt8) (q : Cu) : Option (Evt × Cu) :=
  if verb = [111, 112, 101, 110] then some (⟨1, 0, 0, []⟩, q)
  else if verb = [116, 105, 99, 107] then some (⟨3, 0, 0, []⟩, q)
  else if verb = [115, 101, 114, 118, 101] then some (⟨5, 0, 0, []⟩, q)
  else if verb = [100, 114, 97, 119] then some (⟨4, 0, ((numV q : Nat) : Int), []⟩, numC q)
  else if verb = [100, 101, 108, 105, 118, 101, 114] then some (⟨6, ((smallV 15 q : Nat) : Int), 0, []⟩, smallC 15 q)
  else if verb = [114, 101, 115, 101, 116] then some (⟨7, ((smallV 15 q : Nat) : Int), 0, []⟩, smallC 15 q)
  else if verb = [114, 97, 119] then some (⟨2, ((smallV 15 q : Nat) : Int), 0, bytesV (smallC 15 q)⟩, bytesC (smallC 15 q))
  else none
def readF (key : Int) (verb : List UInt8) (q : Cu) : (Evt × Int) × Cu := match plainV verb q with
  | some (v, q') => ((v, if doneB q' = true then 0 else 1), q')
  | none => (comeF key verb q, (bodyF key verb (smallC 15 q)).2)
theorem read_S (c : Nat) (key : Int) (verb : List UInt8) (q : Cu) (hT : CuT q) (hCP : ∀ x : Cf, (cfP x).1.length ≤ 1000 ∧ FnP Tryz.prog 258 [.agg (Cf.c x)] (· = .tup [.s (cfP x).1, I64 (cfP x).2])) :
    FnA Tryz.prog 33 [U64 key, .s verb, PT c 0] [cuA c q] (fun r cs' => r = .tup [.agg (Evt.c (readF key verb q).1.1), I64 (readF key verb q).1.2] ∧ cs' = [cuA c (readF key verb q).2]) := by
  refine FnA.intro Tryz.tabOK Tryz.wide_ Tryz.func33 rfl (by decide) rfl (fun X => ?_)
  obtain ⟨P0, hP0⟩ : ∃ P0, plainV verb q = P0 := ⟨_, rfl⟩
  obtain ⟨R0, hR0⟩ : ∃ R0, readF key verb q = R0 := ⟨_, rfl⟩
  rw [hR0]
  unfold readF at hR0
  rw [hP0] at hR0
  unfold plainV at hP0
  repeat (first|refine sc rfl ?_|refine so rfl ?_|refine sb rfl ?_)
  refine C_if rfl (fun h1 => ?_) (fun h1 => ?_) <;> simp only [pL] at h1
  · rw [if_pos h1] at hP0
    subst hP0
    simp only [] at hR0
    repeat (first|refine sc rfl ?_|refine so rfl ?_|refine sb rfl ?_)
    first
      | refine O_callA [0] (done_S c (q)) (by rfl) (by rfl) (by rfl) (by rfl) (by rfl) ?_
      | refine O_callA [1] (done_S c (q)) (by rfl) (by rfl) (by rfl) (by rfl) (by rfl) ?_
      | refine O_callA [2] (done_S c (q)) (by rfl) (by rfl) (by rfl) (by rfl) (by rfl) ?_
      | refine O_callA [3] (done_S c (q)) (by rfl) (by rfl) (by rfl) (by rfl) (by rfl) ?_
      | refine O_callA [4] (done_S c (q)) (by rfl) (by rfl) (by rfl) (by rfl) (by rfl) ?_
    rintro r' cs' ⟨rfl, rfl⟩
    cases hd : doneB (q) with
    | false =>
      rw [hd, if_neg (by decide)] at hR0
      subst hR0
      repeat (first|refine sc rfl ?_|refine so rfl ?_|refine sb rfl ?_)
      refine C_true rfl rfl ?_
      repeat (first|refine sc rfl ?_|refine so rfl ?_|refine sb rfl ?_)
      first
        | exact ⟨_, [_], _, rfl, pickA_perm (is := [0]) (As := [_]) rfl, rfl, rfl, rfl⟩
        | exact ⟨_, [_], _, rfl, pickA_perm (is := [1]) (As := [_]) rfl, rfl, rfl, rfl⟩
        | exact ⟨_, [_], _, rfl, pickA_perm (is := [2]) (As := [_]) rfl, rfl, rfl, rfl⟩
        | exact ⟨_, [_], _, rfl, pickA_perm (is := [3]) (As := [_]) rfl, rfl, rfl, rfl⟩
        | exact ⟨_, [_], _, rfl, pickA_perm (is := [4]) (As := [_]) rfl, rfl, rfl, rfl⟩
    | true =>
      rw [hd, if_pos rfl] at hR0
      subst hR0
      repeat (first|refine sc rfl ?_|refine so rfl ?_|refine sb rfl ?_)
      refine C_false rfl rfl ?_
      repeat (first|refine sc rfl ?_|refine so rfl ?_|refine sb rfl ?_)
      first
        | exact ⟨_, [_], _, rfl, pickA_perm (is := [0]) (As := [_]) rfl, rfl, rfl, rfl⟩
        | exact ⟨_, [_], _, rfl, pickA_perm (is := [1]) (As := [_]) rfl, rfl, rfl, rfl⟩
        | exact ⟨_, [_], _, rfl, pickA_perm (is := [2]) (As := [_]) rfl, rfl, rfl, rfl⟩
        | exact ⟨_, [_], _, rfl, pickA_perm (is := [3]) (As := [_]) rfl, rfl, rfl, rfl⟩
        | exact ⟨_, [_], _, rfl, pickA_perm (is := [4]) (As := [_]) rfl, rfl, rfl, rfl⟩
  rw [if_neg h1] at hP0
  clear h1
  repeat (first|refine sc rfl ?_|refine so rfl ?_|refine sb rfl ?_)
  refine C_if rfl (fun h1 => ?_) (fun h1 => ?_) <;> simp only [pL] at h1
  · rw [if_pos h1] at hP0
    subst hP0
    simp only [] at hR0
    repeat (first|refine sc rfl ?_|refine so rfl ?_|refine sb rfl ?_)
    first
      | refine O_callA [0] (done_S c (q)) (by rfl) (by rfl) (by rfl) (by rfl) (by rfl) ?_
      | refine O_callA [1] (done_S c (q)) (by rfl) (by rfl) (by rfl) (by rfl) (by rfl) ?_
      | refine O_callA [2] (done_S c (q)) (by rfl) (by rfl) (by rfl) (by rfl) (by rfl) ?_
      | refine O_callA [3] (done_S c (q)) (by rfl) (by rfl) (by rfl) (by rfl) (by rfl) ?_
      | refine O_callA [4] (done_S c (q)) (by rfl) (by rfl) (by rfl) (by rfl) (by rfl) ?_
    rintro r' cs' ⟨rfl, rfl⟩
    cases hd : doneB (q) with
    | false =>
      rw [hd, if_neg (by decide)] at hR0
      subst hR0
      repeat (first|refine sc rfl ?_|refine so rfl ?_|refine sb rfl ?_)
      refine C_true rfl rfl ?_
      repeat (first|refine sc rfl ?_|refine so rfl ?_|refine sb rfl ?_)
      first
        | exact ⟨_, [_], _, rfl, pickA_perm (is := [0]) (As := [_]) rfl, rfl, rfl, rfl⟩
        | exact ⟨_, [_], _, rfl, pickA_perm (is := [1]) (As := [_]) rfl, rfl, rfl, rfl⟩
        | exact ⟨_, [_], _, rfl, pickA_perm (is := [2]) (As := [_]) rfl, rfl, rfl, rfl⟩
        | exact ⟨_, [_], _, rfl, pickA_perm (is := [3]) (As := [_]) rfl, rfl, rfl, rfl⟩
        | exact ⟨_, [_], _, rfl, pickA_perm (is := [4]) (As := [_]) rfl, rfl, rfl, rfl⟩
    | true =>
      rw [hd, if_pos rfl] at hR0
      subst hR0
      repeat (first|refine sc rfl ?_|refine so rfl ?_|refine sb rfl ?_)
      refine C_false rfl rfl ?_
      repeat (first|refine sc rfl ?_|refine so rfl ?_|refine sb rfl ?_)
      first
        | exact ⟨_, [_], _, rfl, pickA_perm (is := [0]) (As := [_]) rfl, rfl, rfl, rfl⟩
        | exact ⟨_, [_], _, rfl, pickA_perm (is := [1]) (As := [_]) rfl, rfl, rfl, rfl⟩
        | exact ⟨_, [_], _, rfl, pickA_perm (is := [2]) (As := [_]) rfl, rfl, rfl, rfl⟩
        | exact ⟨_, [_], _, rfl, pickA_perm (is := [3]) (As := [_]) rfl, rfl, rfl, rfl⟩
        | exact ⟨_, [_], _, rfl, pickA_perm (is := [4]) (As := [_]) rfl, rfl, rfl, rfl⟩
  rw [if_neg h1] at hP0
  clear h1
  repeat (first|refine sc rfl ?_|refine so rfl ?_|refine sb rfl ?_)
  refine C_if rfl (fun h1 => ?_) (fun h1 => ?_) <;> simp only [pL] at h1
  · rw [if_pos h1] at hP0
    subst hP0
    simp only [] at hR0
    repeat (first|refine sc rfl ?_|refine so rfl ?_|refine sb rfl ?_)
    first
      | refine O_callA [0] (done_S c (q)) (by rfl) (by rfl) (by rfl) (by rfl) (by rfl) ?_
      | refine O_callA [1] (done_S c (q)) (by rfl) (by rfl) (by rfl) (by rfl) (by rfl) ?_
      | refine O_callA [2] (done_S c (q)) (by rfl) (by rfl) (by rfl) (by rfl) (by rfl) ?_
      | refine O_callA [3] (done_S c (q)) (by rfl) (by rfl) (by rfl) (by rfl) (by rfl) ?_
      | refine O_callA [4] (done_S c (q)) (by rfl) (by rfl) (by rfl) (by rfl) (by rfl) ?_
    rintro r' cs' ⟨rfl, rfl⟩
    cases hd : doneB (q) with
    | false =>
      rw [hd, if_neg (by decide)] at hR0
      subst hR0
      repeat (first|refine sc rfl ?_|refine so rfl ?_|refine sb rfl ?_)
      refine C_true rfl rfl ?_
      repeat (first|refine sc rfl ?_|refine so rfl ?_|refine sb rfl ?_)
      first
        | exact ⟨_, [_], _, rfl, pickA_perm (is := [0]) (As := [_]) rfl, rfl, rfl, rfl⟩
        | exact ⟨_, [_], _, rfl, pickA_perm (is := [1]) (As := [_]) rfl, rfl, rfl, rfl⟩
        | exact ⟨_, [_], _, rfl, pickA_perm (is := [2]) (As := [_]) rfl, rfl, rfl, rfl⟩
        | exact ⟨_, [_], _, rfl, pickA_perm (is := [3]) (As := [_]) rfl, rfl, rfl, rfl⟩
        | exact ⟨_, [_], _, rfl, pickA_perm (is := [4]) (As := [_]) rfl, rfl, rfl, rfl⟩
    | true =>
      rw [hd, if_pos rfl] at hR0
      subst hR0
      repeat (first|refine sc rfl ?_|refine so rfl ?_|refine sb rfl ?_)
      refine C_false rfl rfl ?_
      repeat (first|refine sc rfl ?_|refine so rfl ?_|refine sb rfl ?_)
      first
        | exact ⟨_, [_], _, rfl, pickA_perm (is := [0]) (As := [_]) rfl, rfl, rfl, rfl⟩
        | exact ⟨_, [_], _, rfl, pickA_perm (is := [1]) (As := [_]) rfl, rfl, rfl, rfl⟩
        | exact ⟨_, [_], _, rfl, pickA_perm (is := [2]) (As := [_]) rfl, rfl, rfl, rfl⟩
        | exact ⟨_, [_], _, rfl, pickA_perm (is := [3]) (As := [_]) rfl, rfl, rfl, rfl⟩
        | exact ⟨_, [_], _, rfl, pickA_perm (is := [4]) (As := [_]) rfl, rfl, rfl, rfl⟩
  rw [if_neg h1] at hP0
  clear h1
  repeat (first|refine sc rfl ?_|refine so rfl ?_|refine sb rfl ?_)
  refine C_if rfl (fun h1 => ?_) (fun h1 => ?_) <;> simp only [pL] at h1
  · rw [if_pos h1] at hP0
    subst hP0
    simp only [] at hR0
    repeat (first|refine sc rfl ?_|refine so rfl ?_|refine sb rfl ?_)
    first
      | refine O_callA [0] (num_S c q hT.ok) (by rfl) (by rfl) (by rfl) (by rfl) (by rfl) ?_
      | refine O_callA [1] (num_S c q hT.ok) (by rfl) (by rfl) (by rfl) (by rfl) (by rfl) ?_
      | refine O_callA [2] (num_S c q hT.ok) (by rfl) (by rfl) (by rfl) (by rfl) (by rfl) ?_
      | refine O_callA [3] (num_S c q hT.ok) (by rfl) (by rfl) (by rfl) (by rfl) (by rfl) ?_
      | refine O_callA [4] (num_S c q hT.ok) (by rfl) (by rfl) (by rfl) (by rfl) (by rfl) ?_
    rintro r' cs' ⟨rfl, rfl⟩
    repeat (first|refine sc rfl ?_|refine so rfl ?_|refine sb rfl ?_)
    first
      | refine O_callA [0] (done_S c (numC q)) (by rfl) (by rfl) (by rfl) (by rfl) (by rfl) ?_
      | refine O_callA [1] (done_S c (numC q)) (by rfl) (by rfl) (by rfl) (by rfl) (by rfl) ?_
      | refine O_callA [2] (done_S c (numC q)) (by rfl) (by rfl) (by rfl) (by rfl) (by rfl) ?_
      | refine O_callA [3] (done_S c (numC q)) (by rfl) (by rfl) (by rfl) (by rfl) (by rfl) ?_
      | refine O_callA [4] (done_S c (numC q)) (by rfl) (by rfl) (by rfl) (by rfl) (by rfl) ?_
    rintro r' cs' ⟨rfl, rfl⟩
    cases hd : doneB (numC q) with
    | false =>
      rw [hd, if_neg (by decide)] at hR0
      subst hR0
      repeat (first|refine sc rfl ?_|refine so rfl ?_|refine sb rfl ?_)
      refine C_true rfl rfl ?_
      repeat (first|refine sc rfl ?_|refine so rfl ?_|refine sb rfl ?_)
      first
        | exact ⟨_, [_], _, rfl, pickA_perm (is := [0]) (As := [_]) rfl, rfl, rfl, rfl⟩
        | exact ⟨_, [_], _, rfl, pickA_perm (is := [1]) (As := [_]) rfl, rfl, rfl, rfl⟩
        | exact ⟨_, [_], _, rfl, pickA_perm (is := [2]) (As := [_]) rfl, rfl, rfl, rfl⟩
        | exact ⟨_, [_], _, rfl, pickA_perm (is := [3]) (As := [_]) rfl, rfl, rfl, rfl⟩
        | exact ⟨_, [_], _, rfl, pickA_perm (is := [4]) (As := [_]) rfl, rfl, rfl, rfl⟩
    | true =>
      rw [hd, if_pos rfl] at hR0
      subst hR0
      repeat (first|refine sc rfl ?_|refine so rfl ?_|refine sb rfl ?_)
      refine C_false rfl rfl ?_
      repeat (first|refine sc rfl ?_|refine so rfl ?_|refine sb rfl ?_)
      first
        | exact ⟨_, [_], _, rfl, pickA_perm (is := [0]) (As := [_]) rfl, rfl, rfl, rfl⟩
        | exact ⟨_, [_], _, rfl, pickA_perm (is := [1]) (As := [_]) rfl, rfl, rfl, rfl⟩
        | exact ⟨_, [_], _, rfl, pickA_perm (is := [2]) (As := [_]) rfl, rfl, rfl, rfl⟩
        | exact ⟨_, [_], _, rfl, pickA_perm (is := [3]) (As := [_]) rfl, rfl, rfl, rfl⟩
        | exact ⟨_, [_], _, rfl, pickA_perm (is := [4]) (As := [_]) rfl, rfl, rfl, rfl⟩
  rw [if_neg h1] at hP0
  clear h1
  repeat (first|refine sc rfl ?_|refine so rfl ?_|refine sb rfl ?_)
  refine C_if rfl (fun h1 => ?_) (fun h1 => ?_) <;> simp only [pL] at h1
  · rw [if_pos h1] at hP0
    subst hP0
    simp only [] at hR0
    repeat (first|refine sc rfl ?_|refine so rfl ?_|refine sb rfl ?_)
    first
      | refine O_callA [0] (small_S c q 15 (by decide) hT.ok) (by rfl) (by rfl) (by rfl) (by rfl) (by rfl) ?_
      | refine O_callA [1] (small_S c q 15 (by decide) hT.ok) (by rfl) (by rfl) (by rfl) (by rfl) (by rfl) ?_
      | refine O_callA [2] (small_S c q 15 (by decide) hT.ok) (by rfl) (by rfl) (by rfl) (by rfl) (by rfl) ?_
      | refine O_callA [3] (small_S c q 15 (by decide) hT.ok) (by rfl) (by rfl) (by rfl) (by rfl) (by rfl) ?_
      | refine O_callA [4] (small_S c q 15 (by decide) hT.ok) (by rfl) (by rfl) (by rfl) (by rfl) (by rfl) ?_
    rintro r' cs' ⟨rfl, rfl⟩
    repeat (first|refine sc rfl ?_|refine so rfl ?_|refine sb rfl ?_)
    first
      | refine O_callA [0] (done_S c (smallC 15 q)) (by rfl) (by rfl) (by rfl) (by rfl) (by rfl) ?_
      | refine O_callA [1] (done_S c (smallC 15 q)) (by rfl) (by rfl) (by rfl) (by rfl) (by rfl) ?_
      | refine O_callA [2] (done_S c (smallC 15 q)) (by rfl) (by rfl) (by rfl) (by rfl) (by rfl) ?_
      | refine O_callA [3] (done_S c (smallC 15 q)) (by rfl) (by rfl) (by rfl) (by rfl) (by rfl) ?_
      | refine O_callA [4] (done_S c (smallC 15 q)) (by rfl) (by rfl) (by rfl) (by rfl) (by rfl) ?_
    rintro r' cs' ⟨rfl, rfl⟩
    cases hd : doneB (smallC 15 q) with
    | false =>
      rw [hd, if_neg (by decide)] at hR0
      subst hR0
      repeat (first|refine sc rfl ?_|refine so rfl ?_|refine sb rfl ?_)
      refine C_true rfl rfl ?_
      repeat (first|refine sc rfl ?_|refine so rfl ?_|refine sb rfl ?_)
      first
        | exact ⟨_, [_], _, rfl, pickA_perm (is := [0]) (As := [_]) rfl, rfl, rfl, rfl⟩
        | exact ⟨_, [_], _, rfl, pickA_perm (is := [1]) (As := [_]) rfl, rfl, rfl, rfl⟩
        | exact ⟨_, [_], _, rfl, pickA_perm (is := [2]) (As := [_]) rfl, rfl, rfl, rfl⟩
        | exact ⟨_, [_], _, rfl, pickA_perm (is := [3]) (As := [_]) rfl, rfl, rfl, rfl⟩
        | exact ⟨_, [_], _, rfl, pickA_perm (is := [4]) (As := [_]) rfl, rfl, rfl, rfl⟩
    | true =>
      rw [hd, if_pos rfl] at hR0
      subst hR0
      repeat (first|refine sc rfl ?_|refine so rfl ?_|refine sb rfl ?_)
      refine C_false rfl rfl ?_
      repeat (first|refine sc rfl ?_|refine so rfl ?_|refine sb rfl ?_)
      first
        | exact ⟨_, [_], _, rfl, pickA_perm (is := [0]) (As := [_]) rfl, rfl, rfl, rfl⟩
        | exact ⟨_, [_], _, rfl, pickA_perm (is := [1]) (As := [_]) rfl, rfl, rfl, rfl⟩
        | exact ⟨_, [_], _, rfl, pickA_perm (is := [2]) (As := [_]) rfl, rfl, rfl, rfl⟩
        | exact ⟨_, [_], _, rfl, pickA_perm (is := [3]) (As := [_]) rfl, rfl, rfl, rfl⟩
        | exact ⟨_, [_], _, rfl, pickA_perm (is := [4]) (As := [_]) rfl, rfl, rfl, rfl⟩
  rw [if_neg h1] at hP0
  clear h1
  repeat (first|refine sc rfl ?_|refine so rfl ?_|refine sb rfl ?_)
  refine C_if rfl (fun h1 => ?_) (fun h1 => ?_) <;> simp only [pL] at h1
  · rw [if_pos h1] at hP0
    subst hP0
    simp only [] at hR0
    repeat (first|refine sc rfl ?_|refine so rfl ?_|refine sb rfl ?_)
    first
      | refine O_callA [0] (small_S c q 15 (by decide) hT.ok) (by rfl) (by rfl) (by rfl) (by rfl) (by rfl) ?_
      | refine O_callA [1] (small_S c q 15 (by decide) hT.ok) (by rfl) (by rfl) (by rfl) (by rfl) (by rfl) ?_
      | refine O_callA [2] (small_S c q 15 (by decide) hT.ok) (by rfl) (by rfl) (by rfl) (by rfl) (by rfl) ?_
      | refine O_callA [3] (small_S c q 15 (by decide) hT.ok) (by rfl) (by rfl) (by rfl) (by rfl) (by rfl) ?_
      | refine O_callA [4] (small_S c q 15 (by decide) hT.ok) (by rfl) (by rfl) (by rfl) (by rfl) (by rfl) ?_
    rintro r' cs' ⟨rfl, rfl⟩
    repeat (first|refine sc rfl ?_|refine so rfl ?_|refine sb rfl ?_)
    first
      | refine O_callA [0] (done_S c (smallC 15 q)) (by rfl) (by rfl) (by rfl) (by rfl) (by rfl) ?_
      | refine O_callA [1] (done_S c (smallC 15 q)) (by rfl) (by rfl) (by rfl) (by rfl) (by rfl) ?_
      | refine O_callA [2] (done_S c (smallC 15 q)) (by rfl) (by rfl) (by rfl) (by rfl) (by rfl) ?_
      | refine O_callA [3] (done_S c (smallC 15 q)) (by rfl) (by rfl) (by rfl) (by rfl) (by rfl) ?_
      | refine O_callA [4] (done_S c (smallC 15 q)) (by rfl) (by rfl) (by rfl) (by rfl) (by rfl) ?_
    rintro r' cs' ⟨rfl, rfl⟩
    cases hd : doneB (smallC 15 q) with
    | false =>
      rw [hd, if_neg (by decide)] at hR0
      subst hR0
      repeat (first|refine sc rfl ?_|refine so rfl ?_|refine sb rfl ?_)
      refine C_true rfl rfl ?_
      repeat (first|refine sc rfl ?_|refine so rfl ?_|refine sb rfl ?_)
      first
        | exact ⟨_, [_], _, rfl, pickA_perm (is := [0]) (As := [_]) rfl, rfl, rfl, rfl⟩
        | exact ⟨_, [_], _, rfl, pickA_perm (is := [1]) (As := [_]) rfl, rfl, rfl, rfl⟩
        | exact ⟨_, [_], _, rfl, pickA_perm (is := [2]) (As := [_]) rfl, rfl, rfl, rfl⟩
        | exact ⟨_, [_], _, rfl, pickA_perm (is := [3]) (As := [_]) rfl, rfl, rfl, rfl⟩
        | exact ⟨_, [_], _, rfl, pickA_perm (is := [4]) (As := [_]) rfl, rfl, rfl, rfl⟩
    | true =>
      rw [hd, if_pos rfl] at hR0
      subst hR0
      repeat (first|refine sc rfl ?_|refine so rfl ?_|refine sb rfl ?_)
      refine C_false rfl rfl ?_
      repeat (first|refine sc rfl ?_|refine so rfl ?_|refine sb rfl ?_)
      first
        | exact ⟨_, [_], _, rfl, pickA_perm (is := [0]) (As := [_]) rfl, rfl, rfl, rfl⟩
        | exact ⟨_, [_], _, rfl, pickA_perm (is := [1]) (As := [_]) rfl, rfl, rfl, rfl⟩
        | exact ⟨_, [_], _, rfl, pickA_perm (is := [2]) (As := [_]) rfl, rfl, rfl, rfl⟩
        | exact ⟨_, [_], _, rfl, pickA_perm (is := [3]) (As := [_]) rfl, rfl, rfl, rfl⟩
        | exact ⟨_, [_], _, rfl, pickA_perm (is := [4]) (As := [_]) rfl, rfl, rfl, rfl⟩
  rw [if_neg h1] at hP0
  clear h1
  repeat (first|refine sc rfl ?_|refine so rfl ?_|refine sb rfl ?_)
  refine C_if rfl (fun h1 => ?_) (fun h1 => ?_) <;> simp only [pL] at h1
  · rw [if_pos h1] at hP0
    subst hP0
    simp only [] at hR0
    repeat (first|refine sc rfl ?_|refine so rfl ?_|refine sb rfl ?_)
    first
      | refine O_callA [0] (small_S c q 15 (by decide) hT.ok) (by rfl) (by rfl) (by rfl) (by rfl) (by rfl) ?_
      | refine O_callA [1] (small_S c q 15 (by decide) hT.ok) (by rfl) (by rfl) (by rfl) (by rfl) (by rfl) ?_
      | refine O_callA [2] (small_S c q 15 (by decide) hT.ok) (by rfl) (by rfl) (by rfl) (by rfl) (by rfl) ?_
      | refine O_callA [3] (small_S c q 15 (by decide) hT.ok) (by rfl) (by rfl) (by rfl) (by rfl) (by rfl) ?_
      | refine O_callA [4] (small_S c q 15 (by decide) hT.ok) (by rfl) (by rfl) (by rfl) (by rfl) (by rfl) ?_
    rintro r' cs' ⟨rfl, rfl⟩
    repeat (first|refine sc rfl ?_|refine so rfl ?_|refine sb rfl ?_)
    first
      | refine O_callA [0] (bytes_S c (smallC 15 q) hT.ok.small) (by rfl) (by rfl) (by rfl) (by rfl) (by rfl) ?_
      | refine O_callA [1] (bytes_S c (smallC 15 q) hT.ok.small) (by rfl) (by rfl) (by rfl) (by rfl) (by rfl) ?_
      | refine O_callA [2] (bytes_S c (smallC 15 q) hT.ok.small) (by rfl) (by rfl) (by rfl) (by rfl) (by rfl) ?_
      | refine O_callA [3] (bytes_S c (smallC 15 q) hT.ok.small) (by rfl) (by rfl) (by rfl) (by rfl) (by rfl) ?_
      | refine O_callA [4] (bytes_S c (smallC 15 q) hT.ok.small) (by rfl) (by rfl) (by rfl) (by rfl) (by rfl) ?_
    rintro r' cs' ⟨rfl, rfl⟩
    repeat (first|refine sc rfl ?_|refine so rfl ?_|refine sb rfl ?_)
    first
      | refine O_callA [0] (done_S c (bytesC (smallC 15 q))) (by rfl) (by rfl) (by rfl) (by rfl) (by rfl) ?_
      | refine O_callA [1] (done_S c (bytesC (smallC 15 q))) (by rfl) (by rfl) (by rfl) (by rfl) (by rfl) ?_
      | refine O_callA [2] (done_S c (bytesC (smallC 15 q))) (by rfl) (by rfl) (by rfl) (by rfl) (by rfl) ?_
      | refine O_callA [3] (done_S c (bytesC (smallC 15 q))) (by rfl) (by rfl) (by rfl) (by rfl) (by rfl) ?_
      | refine O_callA [4] (done_S c (bytesC (smallC 15 q))) (by rfl) (by rfl) (by rfl) (by rfl) (by rfl) ?_
    rintro r' cs' ⟨rfl, rfl⟩
    cases hd : doneB (bytesC (smallC 15 q)) with
    | false =>
      rw [hd, if_neg (by decide)] at hR0
      subst hR0
      repeat (first|refine sc rfl ?_|refine so rfl ?_|refine sb rfl ?_)
      refine C_true rfl rfl ?_
      repeat (first|refine sc rfl ?_|refine so rfl ?_|refine sb rfl ?_)
      first
        | exact ⟨_, [_], _, rfl, pickA_perm (is := [0]) (As := [_]) rfl, rfl, rfl, rfl⟩
        | exact ⟨_, [_], _, rfl, pickA_perm (is := [1]) (As := [_]) rfl, rfl, rfl, rfl⟩
        | exact ⟨_, [_], _, rfl, pickA_perm (is := [2]) (As := [_]) rfl, rfl, rfl, rfl⟩
        | exact ⟨_, [_], _, rfl, pickA_perm (is := [3]) (As := [_]) rfl, rfl, rfl, rfl⟩
        | exact ⟨_, [_], _, rfl, pickA_perm (is := [4]) (As := [_]) rfl, rfl, rfl, rfl⟩
    | true =>
      rw [hd, if_pos rfl] at hR0
      subst hR0
      repeat (first|refine sc rfl ?_|refine so rfl ?_|refine sb rfl ?_)
      refine C_false rfl rfl ?_
      repeat (first|refine sc rfl ?_|refine so rfl ?_|refine sb rfl ?_)
      first
        | exact ⟨_, [_], _, rfl, pickA_perm (is := [0]) (As := [_]) rfl, rfl, rfl, rfl⟩
        | exact ⟨_, [_], _, rfl, pickA_perm (is := [1]) (As := [_]) rfl, rfl, rfl, rfl⟩
        | exact ⟨_, [_], _, rfl, pickA_perm (is := [2]) (As := [_]) rfl, rfl, rfl, rfl⟩
        | exact ⟨_, [_], _, rfl, pickA_perm (is := [3]) (As := [_]) rfl, rfl, rfl, rfl⟩
        | exact ⟨_, [_], _, rfl, pickA_perm (is := [4]) (As := [_]) rfl, rfl, rfl, rfl⟩
  rw [if_neg h1] at hP0
  clear h1
  repeat (first|refine sc rfl ?_|refine so rfl ?_|refine sb rfl ?_)
  subst hP0
  simp only [] at hR0
  subst hR0
  first
    | refine O_callA [0] (come_S c key verb q hT hCP) (by rfl) (by rfl) (by rfl) (by rfl) (by rfl) ?_
    | refine O_callA [1] (come_S c key verb q hT hCP) (by rfl) (by rfl) (by rfl) (by rfl) (by rfl) ?_
    | refine O_callA [2] (come_S c key verb q hT hCP) (by rfl) (by rfl) (by rfl) (by rfl) (by rfl) ?_
    | refine O_callA [3] (come_S c key verb q hT hCP) (by rfl) (by rfl) (by rfl) (by rfl) (by rfl) ?_
    | refine O_callA [4] (come_S c key verb q hT hCP) (by rfl) (by rfl) (by rfl) (by rfl) (by rfl) ?_
  rintro r' cs' ⟨rfl, rfl⟩
  repeat (first|refine sc rfl ?_|refine so rfl ?_|refine sb rfl ?_)
  first
    | exact ⟨_, [_], _, rfl, pickA_perm (is := [0]) (As := [_]) rfl, rfl, rfl, rfl⟩
    | exact ⟨_, [_], _, rfl, pickA_perm (is := [1]) (As := [_]) rfl, rfl, rfl, rfl⟩
    | exact ⟨_, [_], _, rfl, pickA_perm (is := [2]) (As := [_]) rfl, rfl, rfl, rfl⟩
    | exact ⟨_, [_], _, rfl, pickA_perm (is := [3]) (As := [_]) rfl, rfl, rfl, rfl⟩
    | exact ⟨_, [_], _, rfl, pickA_perm (is := [4]) (As := [_]) rfl, rfl, rfl, rfl⟩
end Go.Proofs

namespace Go.Proofs
open Go.Sy Go.Lib

def muchF (s : List UInt8) : Bool := decide (9000 < s.length ∨ 150 < s.count 10)
theorem much_c (s : List UInt8) : FnP Tryz.prog 6 [.s s] (· = B (muchF s)) := by
  refine FnP.intro Tryz.tabOK Tryz.wide_ Tryz.func6 rfl (by decide) rfl (fun X => ?_)
  unfold muchF
  repeat (first|refine sc rfl ?_|refine so rfl ?_|refine sb rfl ?_)
  refine C_if rfl (fun h1 => ?_) (fun h1 => ?_) <;> simp only [pL] at h1
  · repeat (first|refine sc rfl ?_|refine so rfl ?_|refine sb rfl ?_)
    exact ⟨_, rfl, rfl, congrArg B (by simp; omega)⟩
  repeat (first|refine sc rfl ?_|refine so rfl ?_|refine sb rfl ?_)
  refine C_loop (fun i : Nat => ⟨[(0, .s s), (3, I64 (((s.take i).count 10 : Nat) : Int)), (4, I64 (i : Nat))], []⟩) (fun i => i ≤ s.length) (fun i => s.length - i) 0 (Nat.zero_le _) (Le.sub [] ⟨rfl, rfl, rfl, trivial⟩ rfl) ?_
  intro i hi
  have hc := @List.count_le_length _ _ (10 : UInt8) (s.take i)
  rw [List.length_take] at hc
  repeat (first|refine sc rfl ?_|refine so rfl ?_|refine sb rfl ?_)
  refine C_if rfl (fun m1 => ?_) (fun m1 => ?_) <;> simp only [pL] at m1
  · have hil : i < s.length := by omega
    obtain ⟨x, hxe⟩ : ∃ x, s.getD i 0 = x := ⟨_, rfl⟩
    have htk : s.take (i + 1) = s.take i ++ [x] := by
      rw [List.take_add_one, List.getElem?_eq_getElem hil, ← hxe, List.getD_eq_getElem?_getD, List.getElem?_eq_getElem hil]; rfl
    repeat (first|refine sc rfl ?_|refine so rfl ?_|refine sb rfl ?_)
    refine ⟨by omega, ?_⟩
    simp only [Int.toNat_natCast, hxe]
    repeat (first|refine sc rfl ?_|refine so rfl ?_|refine sb rfl ?_)
    refine C_if rfl (fun h2 => ?_) (fun h2 => ?_) <;> simp only [pL] at h2
    · have hx : x = 10 := UInt8.toNat_inj.1 (by show x.toNat = 10; omega)
      have e : (s.take (i + 1)).count 10 = (s.take i).count 10 + 1 := by rw [htk, List.count_append, hx]; rfl
      repeat (first|refine sc rfl ?_|refine so rfl ?_|refine sb rfl ?_)
      rw [w64 (x := (((s.take i).count 10 : Nat) : Int) + 1) (by omega) (by omega), w64 (x := (i : Int) + 1) (by omega) (by omega), show (((s.take i).count 10 : Nat) : Int) + 1 = (((s.take (i + 1)).count 10 : Nat) : Int) by omega]
      exact ⟨i + 1, hil, by omega, Le.sub [] ⟨rfl, rfl, rfl, trivial⟩ rfl⟩
    · have hx : x ≠ 10 := fun e => by rw [e] at h2; exact h2 rfl
      have e : (s.take (i + 1)).count 10 = (s.take i).count 10 := by rw [htk, List.count_append, List.count_singleton]; simp [hx]
      repeat (first|refine sc rfl ?_|refine so rfl ?_|refine sb rfl ?_)
      rw [w64 (x := (i : Int) + 1) (by omega) (by omega), ← e]
      exact ⟨i + 1, hil, by omega, Le.sub [] ⟨rfl, rfl, rfl, trivial⟩ rfl⟩
  · obtain rfl : i = s.length := by omega
    rw [List.take_length]
    repeat (first|refine sc rfl ?_|refine so rfl ?_|refine sb rfl ?_)
    exact ⟨_, rfl, rfl, congrArg B (by rw [decide_eq_decide]; omega)⟩
end Go.Proofs

namespace Go.Proofs
open Go.Sy Go.Lib

theorem spl_app (c : UInt8) (b : List UInt8) : ∀ a, spl c (a ++ c :: b) = spl c a ++ spl c b
  | [] => by simp [spl]
  | x :: r => by
    have ih := spl_app c b r
    simp only [List.cons_append, spl, ih]
    split
    · simp
    · cases hs : spl c r with
      | nil => exact absurd hs (spl_ne c r)
      | cons p q => simp
theorem spl_one (c : UInt8) : ∀ p : List UInt8, c ∉ p → spl c p = [p]
  | [], _ => rfl
  | x :: r, h => by
    simp only [List.mem_cons, not_or] at h
    have hx : ¬ x = c := fun e => h.1 e.symm
    simp only [spl, if_neg hx, spl_one c r h.2]
theorem spl_no (c : UInt8) : ∀ (l : List UInt8) (p : List UInt8), p ∈ spl c l → c ∉ p
  | [], p, h => by simp [spl] at h; subst h; simp
  | x :: r, p, h => by
    simp only [spl] at h
    split at h
    · rcases List.mem_cons.1 h with rfl | h
      · simp
      · exact spl_no c r p h
    · rename_i hx
      cases hs : spl c r with
      | nil => exact absurd hs (spl_ne c r)
      | cons a q =>
        rw [hs] at h
        rcases List.mem_cons.1 h with rfl | h
        · have := spl_no c r a (by rw [hs]; simp)
          simp only [List.mem_cons, not_or]
          exact ⟨fun e => hx e.symm, this⟩
        · exact spl_no c r p (by rw [hs]; simp [h])
theorem spl_lines (c : UInt8) (t : List UInt8) : ∀ ls : List (List UInt8), (∀ p ∈ ls, c ∉ p) → spl c ((ls.map (· ++ [c])).flatten ++ t) = ls ++ spl c t
  | [], _ => by simp
  | p :: r, h => by
    have ih := spl_lines c t r (fun q hq => h q (by simp [hq]))
    simp only [List.map_cons, List.flatten_cons, List.append_assoc, List.singleton_append, List.cons_append, List.nil_append]
    rw [spl_app, spl_one c p (h p (by simp)), ih]
    rfl
end Go.Proofs

namespace Go.Proofs
open Go.Sy Go.Lib

theorem kindWord5_c : FnP Tryz.prog 52 [I64 5] (· = .s [112, 105, 110, 103]) := by
  refine FnP.intro Tryz.tabOK Tryz.wide_ Tryz.func52 rfl (by decide) rfl (fun X => ?_)
  repeat (first|refine sc rfl ?_|refine so rfl ?_|refine sb rfl ?_)
  iterate 4
    refine C_false rfl (by decide) ?_
    repeat (first|refine sc rfl ?_|refine so rfl ?_|refine sb rfl ?_)
  refine C_true rfl (by decide) ?_
  repeat (first|refine sc rfl ?_|refine so rfl ?_|refine sb rfl ?_)
  exact ⟨_, rfl, rfl, rfl⟩
theorem figures0_c : FnP Tryz.prog 89 [.s []] (· = .s [45]) := by
  refine FnP.intro Tryz.tabOK Tryz.wide_ Tryz.func89 rfl (by decide) rfl (fun X => ?_)
  repeat (first|refine sc rfl ?_|refine so rfl ?_|refine sb rfl ?_)
  refine C_true rfl (by decide) ?_
  repeat (first|refine sc rfl ?_|refine so rfl ?_|refine sb rfl ?_)
  exact ⟨_, rfl, rfl, rfl⟩
theorem tell_c (ws : List (List UInt8)) (hl : ws.length ≤ 1000) (h : (Lib.join ws [32]).length ≤ 1000000) : FnP Tryz.prog 20 [SL 1 wc1 ws] (· = .s (Lib.join ws [32] ++ [10])) := by
  refine FnP.intro Tryz.tabOK Tryz.wide_ Tryz.func20 rfl (by decide) rfl (fun X => ?_)
  repeat (first|refine sc rfl ?_|refine so rfl ?_|refine sb rfl ?_)
  refine O_call (join_c ws (by omega) (by omega)) (by rfl) (by rfl) (by rfl) (by rfl) (fun r hr => ?_)
  subst hr
  repeat (first|refine sc rfl ?_|refine so rfl ?_|refine sb rfl ?_)
  refine ⟨by simp only [List.length_cons, List.length_nil]; omega, ?_⟩
  repeat (first|refine sc rfl ?_|refine so rfl ?_|refine sb rfl ?_)
  exact ⟨_, rfl, rfl, rfl⟩
end Go.Proofs

namespace Go.Sy
open Go.RowKit

section
variable {P : Program} {T : Tab} {X : Ctx P T} {n : Nat} {st : St}

theorem C_goto {l : Nat} {Q : Exit → St → Prop} (h : Q (.goto l) st) : SymC X n (.goto l) st Q := fun e _ _ r => wp_goto ⟨e, st, r, h⟩

theorem wp_scope_jumps_ghost {Q : Exit → Act → World → Prop} {a : Act} {w : World} {c rest : Code} (l : Nat) (J : Nat → Act → World → Prop) (hf : findLabel c l = some rest)
    (first : c.wp P (Exit.jump l (fun a w => ∃ k, J k a w) Q) a w)
    (pass : ∀ k a w, J k a w → rest.wp P (Exit.jump l (fun a' w' => ∃ j, j < k ∧ J j a' w') Q) a w) : (Code.scope c).wp P Q a w := by
  intro b k cs
  have hg : gotoIn l (.inScope c :: k) = some (.code rest :: .inScope c :: k) := by simp [gotoIn, hf]
  have key : ∀ n a w, J n a w → ∃ e a' w', Q e a' w' ∧ Arrives P (lone (b.at a (.code rest :: .inScope c :: k)) cs w) b k cs e a' w' := by
    intro n
    induction n using Nat.strongRecOn with
    | _ n ih =>
      intro a w hJ
      obtain ⟨e, a₁, w₁, hq, harr⟩ := pass n a w hJ b (.inScope c :: k) cs
      cases e with
      | normal => exact ⟨.normal, a₁, w₁, hq, Steps.trans harr (.one step_inScope)⟩
      | exit id => exact ⟨.exit id, a₁, w₁, hq, fun k' hk => harr k' (by simp [exitTo, hk])⟩
      | goto l' =>
        obtain ⟨rfl, j, hlt, hJ'⟩ := hq
        obtain ⟨e₂, a₂, w₂, hq₂, harr₂⟩ := ih j hlt a₁ w₁ hJ'
        exact ⟨e₂, a₂, w₂, hq₂, .of_steps (harr _ hg) harr₂⟩
      | ret => exact ⟨_, a₁, w₁, hq, harr⟩
      | panic ch => exact ⟨_, a₁, w₁, hq, harr⟩
      | outgrown => exact ⟨_, a₁, w₁, hq, harr⟩
  obtain ⟨e, a₁, w₁, hq, harr⟩ := first b (.inScope c :: k) cs
  cases e with
  | normal => exact ⟨.normal, a₁, w₁, hq, .head step_scope (Steps.trans harr (.one step_inScope))⟩
  | exit id => exact ⟨.exit id, a₁, w₁, hq, fun k' hk => .head step_scope (harr k' (by simp [exitTo, hk]))⟩
  | goto l' =>
    obtain ⟨rfl, j, hJ'⟩ := hq
    obtain ⟨e₂, a₂, w₂, hq₂, harr₂⟩ := key j a₁ w₁ hJ'
    exact ⟨e₂, a₂, w₂, hq₂, .of_steps (.head step_scope (harr _ hg)) harr₂⟩
  | ret => exact ⟨_, a₁, w₁, hq, .of_steps (.one step_scope) harr⟩
  | panic ch => exact ⟨_, a₁, w₁, hq, .of_steps (.one step_scope) harr⟩
  | outgrown => exact ⟨_, a₁, w₁, hq, .of_steps (.one step_scope) harr⟩

theorem C_jumps {α : Type} {Q : Exit → St → Prop} {c rest : Code} (l : Nat) (hf : findLabel c l = some rest) (S : α → St) (I : α → Prop) (m : α → Nat)
    (first : SymC X n c st (fun ex s => match ex with
      | .goto l' => l' = l ∧ ∃ y, I y ∧ Le X n s (S y)
      | ex => Q ex s))
    (round : ∀ x, I x → SymC X n rest (S x) (fun ex s => match ex with
      | .goto l' => l' = l ∧ ∃ y, I y ∧ m y < m x ∧ Le X n s (S y)
      | ex => Q ex s)) : SymC X n (.scope c) st Q := by
  intro e a w r
  refine wp_scope_jumps_ghost l (fun k a w => ∃ x e, m x = k ∧ I x ∧ Rel X n e (S x) a w) hf ?_ ?_
  · refine Code.wp_mono (fun ex a' w' hc => ?_) (first e a w r)
    cases ex with
    | goto l' =>
      obtain ⟨e', st', h1, h2, y, hy, hle⟩ := hc
      obtain ⟨e2, h3⟩ := hle e' a' w' h1
      exact ⟨h2, m y, y, e2, rfl, hy, h3⟩
    | normal => exact hc
    | exit id => exact hc
    | ret => exact hc
    | panic ch => exact hc
    | outgrown => exact hc
  · rintro k a w ⟨x, e, rfl, hx, r⟩
    refine Code.wp_mono (fun ex a' w' hc => ?_) (round x hx e a w r)
    cases ex with
    | goto l' =>
      obtain ⟨e', st', h1, h2, y, hy, hlt, hle⟩ := hc
      obtain ⟨e2, h3⟩ := hle e' a' w' h1
      exact ⟨h2, m y, hlt, y, e2, rfl, hy, h3⟩
    | normal => exact hc
    | exit id => exact hc
    | ret => exact hc
    | panic ch => exact hc
    | outgrown => exact hc
end
end Go.Sy
