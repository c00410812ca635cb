/- Contracts, part four: what is passed. -/
import Derived.Test.YtgdlhcaidfokkaaT4
import Derived.Test.YtgdlhcaidfokkaaSy16
set_option linter.unusedSimpArgs false
set_option linter.unusedVariables false
namespace Go.Proofs
open Go.Sy

def pas (what : Int) (a b : Vw) : Bool :=
  if what = 1 then decide (max b.mem a.lmem < b.lmem) else
  if what = 2 then decide (max b.slots a.lslots < b.lslots) else
  if what = 3 then decide (max b.outs a.louts < b.louts) else
  if what = 4 then decide (max b.conns a.nc < b.nc) else
  if what = 5 then decide (max b.state a.ns < b.ns) else
  if what = 6 then decide (8 < b.kept) else
  if what = 7 then decide (8 < b.tombs) else
  if what = 8 then decide (b.tok < 0 ∨ b.b < b.tok) else
  decide (b.lmem ≠ b.cost ∨ b.lslots ≠ b.waits)

def spanL (a b : Vw) : List AV := [I64 0, I64 0, I64 0, I64 a.lmem, I64 b.lmem, I64 b.mem, I64 a.lslots, I64 b.lslots, I64 b.slots, I64 a.louts, I64 b.louts, I64 b.outs, I64 a.nc, I64 b.nc, I64 b.conns, I64 a.ns, I64 b.ns, I64 b.state, I64 0, I64 0, I64 0, I64 0, I64 0, I64 0, I64 0, I64 0, I64 0, I64 0, I64 0, I64 0]

theorem passed_lo (k : Int) (hk : k = 1 ∨ k = 2 ∨ k = 3 ∨ k = 4 ∨ k = 5) (a b : Vw) : FnP Try.prog 65 [I64 k, .agg a.own, .agg b.own, .agg (spanL a b)] (· = B (pas k a b)) := by
  rcases hk with rfl | rfl | rfl | rfl | rfl <;>
  · refine FnP.intro Try.tabOK Try.wide_ Try.func65 rfl (by decide) rfl (fun X => ?_)
    repeat (first | refine sc rfl ?_ | refine so rfl ?_ | refine sb rfl ?_ | refine C_false rfl rfl ?_)
    refine C_draw (by kernel_rfl) ?_
    repeat (first | refine sq rfl ?_ | refine ⟨by decide, ?_⟩ | refine sc rfl ?_)
    exact ⟨_, rfl, rfl, rfl⟩

theorem passed_6 (a b : Vw) (k : Int) (hk : k = 6 ∨ k = 7) : FnP Try.prog 65 [I64 k, .agg a.own, .agg b.own, .agg (spanL a b)] (· = B (pas k a b)) := by
  rcases hk with rfl | rfl <;>
  · refine FnP.intro Try.tabOK Try.wide_ Try.func65 rfl (by decide) rfl (fun X => ?_)
    repeat (first | refine sc rfl ?_ | refine so rfl ?_ | refine sb rfl ?_ | refine C_false rfl rfl ?_ | refine C_true rfl rfl ?_)
    exact ⟨_, rfl, rfl, rfl⟩

theorem passed_8 (a b : Vw) : FnP Try.prog 65 [I64 8, .agg a.own, .agg b.own, .agg (spanL a b)] (· = B (pas 8 a b)) := by
  refine FnP.intro Try.tabOK Try.wide_ Try.func65 rfl (by decide) rfl (fun X => ?_)
  repeat (first | refine sc rfl ?_ | refine so rfl ?_ | refine sb rfl ?_ | refine C_false rfl rfl ?_ | refine C_true rfl rfl ?_)
  refine O_case 26 rfl (fun h => ?_) (fun h => ?_)
  · repeat (first | refine sc rfl ?_ | refine so rfl ?_)
    refine ⟨_, rfl, rfl, congrArg B ?_⟩
    simp at h
    simp [pas, h]
  · repeat (first | refine sc rfl ?_ | refine so rfl ?_)
    refine ⟨_, rfl, rfl, congrArg B ?_⟩
    simp at h
    simp [pas]
    omega

theorem passed_9 (a b : Vw) : FnP Try.prog 65 [I64 9, .agg a.own, .agg b.own, .agg (spanL a b)] (· = B (pas 9 a b)) := by
  refine FnP.intro Try.tabOK Try.wide_ Try.func65 rfl (by decide) rfl (fun X => ?_)
  repeat (first | refine sc rfl ?_ | refine so rfl ?_ | refine sb rfl ?_ | refine C_false rfl rfl ?_ | refine C_true rfl rfl ?_)
  refine O_case 43 rfl (fun h => ?_) (fun h => ?_)
  · repeat (first | refine sc rfl ?_ | refine so rfl ?_)
    refine ⟨_, rfl, rfl, congrArg B ?_⟩
    simp at h
    simp [pas, h]
  · repeat (first | refine sc rfl ?_ | refine so rfl ?_)
    refine ⟨_, rfl, rfl, congrArg B ?_⟩
    simp at h
    rw [Bool.eq_iff_iff]
    simp [pas, h]

theorem passed_c (a b : Vw) (k : Int) (h0 : 1 ≤ k) (h1 : k ≤ 9) : FnP Try.prog 65 [I64 k, .agg a.own, .agg b.own, .agg (spanL a b)] (· = B (pas k a b)) := by
  rcases (by omega : (k = 1 ∨ k = 2 ∨ k = 3 ∨ k = 4 ∨ k = 5) ∨ (k = 6 ∨ k = 7) ∨ k = 8 ∨ k = 9) with h | h | rfl | rfl
  · exact passed_lo k h a b
  · exact passed_6 a b k h
  · exact passed_8 a b
  · exact passed_9 a b

def chkU (a b : Vw) (n : Nat) : List Int := ((List.range n).map (fun i : Nat => (i : Int) + 1)).filter (fun k => pas k a b)
theorem chkU_succ (a b : Vw) (n : Nat) : chkU a b (n + 1) = if pas ((n : Int) + 1) a b = true then chkU a b n ++ [(n : Int) + 1] else chkU a b n := by
  unfold chkU
  rw [List.range_succ, List.map_append, List.filter_append]
  split <;> simp_all
theorem chkU_len (a b : Vw) (n : Nat) : (chkU a b n).length ≤ n := by
  unfold chkU
  exact Nat.le_trans (List.length_filter_le _ _) (by simp)
def chk (a b : Vw) : List Int := if a.q = 0 ∨ b.q = 0 then [] else chkU a b 9

theorem Check_c (a b : Vw) : FnP Try.prog 19 [.agg a.own, .agg b.own] (· = SL 1 (fun x => [I64 x]) (chk a b)) := by
  refine FnP.intro Try.tabOK Try.wide_ Try.func19 rfl (by decide) rfl (fun X => ?_)
  repeat (first | refine sc rfl ?_ | refine so rfl ?_ | refine sb rfl ?_)
  refine O_call (somebody_c _) (by rfl) (by rfl) (by rfl) (by rfl) (fun r hr => ?_)
  subst hr
  repeat (first | refine sc rfl ?_ | refine so rfl ?_ | refine sb rfl ?_)
  refine O_case 11 rfl (fun h => ?_) (fun h => ?_)
  · simp at h
    refine O_le _ (Le.conv 5 (y := SL 1 (fun x => [I64 x]) ([] : List Int)) rfl (fun e v h => Rep.nilsl h)) ?_
    repeat (first | refine sc rfl ?_ | refine so rfl ?_ | refine sb rfl ?_ | refine C_true rfl rfl ?_)
    exact ⟨_, rfl, rfl, by rw [chk, if_pos (.inl h)]⟩
  · simp at h
    repeat (first | refine sc rfl ?_ | refine so rfl ?_ | refine sb rfl ?_)
    refine O_call (somebody_c _) (by rfl) (by rfl) (by rfl) (by rfl) (fun r hr => ?_)
    subst hr
    repeat (first | refine sc rfl ?_ | refine so rfl ?_ | refine sb rfl ?_)
    refine C_if rfl (fun h2 => ?_) (fun h2 => ?_) <;> simp at h2
    · refine C_le _ (Le.conv 5 (y := SL 1 (fun x => [I64 x]) ([] : List Int)) rfl (fun e v h => Rep.nilsl h)) ?_
      repeat (first | refine sc rfl ?_ | refine so rfl ?_ | refine sb rfl ?_)
      exact ⟨_, rfl, rfl, by rw [chk, if_pos (.inr h2)]⟩
    · repeat (first | refine sc rfl ?_ | refine so rfl ?_ | refine sb rfl ?_)
      refine O_call (spans_c _ _) (by rfl) (by rfl) (by rfl) (by rfl) (fun r hr => ?_)
      subst hr
      repeat (first | refine sc rfl ?_ | refine so rfl ?_ | refine sb rfl ?_)
      have hchk : chk a b = chkU a b 9 := by rw [chk, if_neg (by simp [h, h2])]
      rw [hchk]
      refine C_loop (fun k : Nat => ⟨[(2, .bp 2 0), (3, .bp 3 0), (5, .own 32), (6, .bp 6 0), (7, I64 ((k : Int) + 1))], [.box 6 112 (spanL a b), .box 3 34 b.own, .box 2 34 a.own, VEC 32 3 1 (fun x => [I64 x]) (chkU a b k)]⟩)
        (fun k => k ≤ 9) (fun k => 9 - k) 0 (by omega) ((Le.nilvec (α := Int) (fun x => [I64 x]) 5 32 3 1 rfl rfl rfl).trans (Le.sub [6, 3, 2, 32] ⟨rfl, rfl, rfl, rfl, rfl, trivial⟩ rfl)) ?_
      intro k hk
      repeat (first | refine sc rfl ?_ | refine so rfl ?_ | refine sb rfl ?_)
      refine C_if rfl (fun h3 => ?_) (fun h3 => ?_) <;> simp only [decide_eq_true_eq, decide_eq_false_iff_not] at h3
      · repeat (first | refine sc rfl ?_ | refine so rfl ?_ | refine sb rfl ?_)
        refine O_call (passed_c a b ((k : Int) + 1) (by omega) (by omega)) (by rfl) (by rfl) (by rfl) (by rfl) (fun r hr => ?_)
        subst hr
        repeat (first | refine sc rfl ?_ | refine so rfl ?_ | refine sb rfl ?_)
        have hlen := chkU_len a b k
        refine C_ifJ ⟨[(2, .bp 2 0), (3, .bp 3 0), (5, .own 32), (6, .bp 6 0), (7, I64 ((k : Int) + 1))], [.box 6 112 (spanL a b), .box 3 34 b.own, .box 2 34 a.own, VEC 32 3 1 (fun x => [I64 x]) (chkU a b (k + 1))]⟩ rfl (fun h4 => ?_) (fun h4 => ?_) (fun s h => C_le _ h ?_)
        · rw [chkU_succ, if_pos h4]
          repeat (first | refine sc rfl ?_ | refine so rfl ?_ | refine sb rfl ?_)
          refine O_push (fun x => [I64 x]) (chkU a b k) ((k : Int) + 1) [(2, .bp 2 0), (3, .bp 3 0), (6, .bp 6 0), (7, I64 ((k : Int) + 1))] rfl rfl rfl rfl rfl rfl rfl rfl rfl rfl ⟨rfl, rfl, rfl, rfl, trivial⟩ rfl rfl (by omega) (by simp only [maxLen]; omega) ?_
          repeat (first | refine sc rfl ?_ | refine so rfl ?_ | refine sb rfl ?_)
          exact Le.sub [6, 3, 2, 32] ⟨rfl, rfl, rfl, rfl, rfl, trivial⟩ rfl
        · rw [chkU_succ, if_neg (by rw [h4]; decide)]
          repeat (first | refine sc rfl ?_ | refine so rfl ?_ | refine sb rfl ?_)
          exact Le.sub [6, 3, 2, 32] ⟨rfl, rfl, rfl, rfl, rfl, trivial⟩ rfl
        · repeat (first | refine sc rfl ?_ | refine so rfl ?_ | refine sb rfl ?_)
          rw [w64 (x := (k : Int) + 1 + 1) (by omega) (by omega)]
          exact ⟨k + 1, by omega, by omega, Le.sub [6, 3, 2, 32] ⟨rfl, rfl, rfl, rfl, rfl, trivial⟩ rfl⟩
      · obtain rfl : k = 9 := by omega
        refine C_le _ (Le.freezeL 5 rfl rfl) ?_
        repeat (first | refine sc rfl ?_ | refine so rfl ?_ | refine sb rfl ?_)
        exact ⟨_, rfl, rfl, rfl⟩
end Go.Proofs
