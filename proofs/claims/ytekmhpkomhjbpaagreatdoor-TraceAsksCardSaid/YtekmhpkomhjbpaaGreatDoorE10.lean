/- span.Take, Reader.Text. -/
import Derived.Test.YtekmhpkomhjbpaaGreatDoorE9
set_option linter.unusedSimpArgs false
set_option linter.unusedVariables false
set_option maxRecDepth 100000
namespace Go.Proofs
open Go.Sy Go.Lib

def textT (m : Nat) (l : List UInt8) : List UInt8 × Nat × Int :=
  if (tk l).2.2 ≠ 0 then ([], 0, (tk l).2.2) else if m < (tk l).1 then ([], 0, 3) else if l.length - (tk l).2.1 < (tk l).1 then ([], 0, 2) else ((l.drop (tk l).2.1).take (tk l).1, (tk l).2.1 + (tk l).1, 0)
theorem spanTake_c (m : Nat) (hm : m ≤ 1048576) (l : List UInt8) (hl : l.length ≤ 9223372036854775807) : FnP Tryz.prog 143 [.s l, I64 (m : Nat)]
    (· = .tup [.s (textT m l).1, I64 (((textT m l).2.1 : Nat) : Int), I64 (textT m l).2.2]) := by
  refine FnP.intro Tryz.tabOK Tryz.wide_ Tryz.func143 rfl (by decide) rfl (fun X => ?_)
  unfold textT
  have hend := @tk_end l
  repeat (first | refine sc rfl ?_ | refine so rfl ?_ | refine sb rfl ?_)
  refine O_call (vTake_p l hl) (by rfl) (by rfl) (by rfl) (by rfl) (fun r' hr => ?_)
  subst hr
  obtain ⟨n, k, e, ht⟩ : ∃ n k e, tk l = (n, k, e) := ⟨_, _, _, rfl⟩
  rw [ht] at hend ⊢
  simp only [] at hend ⊢
  repeat (first | refine sc rfl ?_ | refine so rfl ?_ | refine sb rfl ?_)
  refine C_if rfl (fun m1 => ?_) (fun m1 => ?_) <;> simp only [decide_eq_true_eq, decide_eq_false_iff_not, Bool.not_eq_true', Bool.not_eq_false', beq_iff_eq, beq_eq_false_iff_ne, bne_iff_ne, ne_eq, bne_eq_false_iff_eq, Decidable.not_not] at m1
  · rw [if_pos m1]
    repeat (first | refine sc rfl ?_ | refine so rfl ?_ | refine sb rfl ?_)
    exact ⟨_, rfl, rfl, rfl⟩
  · rw [if_neg (fun h => h m1)]
    have hk := hend m1
    repeat (first | refine sc rfl ?_ | refine so rfl ?_ | refine sb rfl ?_)
    rw [show max (m : Int) 0 = (m : Int) by omega, u64wrap (x := (m : Int)) (by omega) (by omega)]
    refine C_if rfl (fun m2 => ?_) (fun m2 => ?_) <;> simp only [decide_eq_true_eq, decide_eq_false_iff_not, Bool.not_eq_true', Bool.not_eq_false', beq_iff_eq, beq_eq_false_iff_ne, bne_iff_ne, ne_eq, bne_eq_false_iff_eq, Decidable.not_not] at m2
    · rw [if_pos (by omega)]
      repeat (first | refine sc rfl ?_ | refine so rfl ?_ | refine sb rfl ?_)
      exact ⟨_, rfl, rfl, rfl⟩
    · rw [if_neg (by omega)]
      repeat (first | refine sc rfl ?_ | refine so rfl ?_ | refine sb rfl ?_)
      rw [w64 (x := (l.length : Int) - (k : Int)) (by omega) (by omega), u64wrap (x := (l.length : Int) - (k : Int)) (by omega) (by omega)]
      refine C_if rfl (fun m3 => ?_) (fun m3 => ?_) <;> simp only [decide_eq_true_eq, decide_eq_false_iff_not, Bool.not_eq_true', Bool.not_eq_false', beq_iff_eq, beq_eq_false_iff_ne, bne_iff_ne, ne_eq, bne_eq_false_iff_eq, Decidable.not_not] at m3
      · rw [if_pos (by omega)]
        repeat (first | refine sc rfl ?_ | refine so rfl ?_ | refine sb rfl ?_)
        exact ⟨_, rfl, rfl, rfl⟩
      · rw [if_neg (by omega)]
        repeat (first | refine sc rfl ?_ | refine so rfl ?_ | refine sb rfl ?_)
        show (0 ≤ (k : Int) ∧ (k : Int) ≤ IntKind.i64.wrap ((k : Int) + IntKind.i64.wrap (n : Int)) ∧ IntKind.i64.wrap ((k : Int) + IntKind.i64.wrap (n : Int)) ≤ (l.length : Int)) ∧ _
        have w1 : IntKind.i64.wrap (n : Int) = (n : Int) := w64 (by omega) (by omega)
        have w2 : IntKind.i64.wrap ((k : Int) + (n : Int)) = ((k + n : Nat) : Int) := by rw [w64 (by omega) (by omega)]; omega
        refine ⟨by rw [w1, w2]; omega, ?_⟩
        repeat (first | refine sc rfl ?_ | refine so rfl ?_ | refine sb rfl ?_)
        refine ⟨_, rfl, rfl, ?_⟩
        show AV.tup [.s (List.take ((IntKind.i64.wrap ((k : Int) + IntKind.i64.wrap (n : Int))).toNat - ((k : Nat) : Int).toNat) (List.drop ((k : Nat) : Int).toNat l)), I64 (IntKind.i64.wrap ((k : Int) + IntKind.i64.wrap (n : Int))), I64 0] = .tup [.s (List.take n (List.drop k l)), I64 ((k + n : Nat) : Int), I64 0]
        rw [w1, w2, Int.toNat_natCast, Int.toNat_natCast, Nat.add_sub_cancel_left]
end Go.Proofs

/- Reader.Text. -/
set_option linter.unusedSimpArgs false
set_option linter.unusedVariables false
set_option maxRecDepth 100000
namespace Go.Proofs
open Go.Sy Go.Lib

theorem textT_end {m : Nat} {l : List UInt8} (h : (textT m l).2.2 = 0) : (textT m l).2.1 ≤ l.length := by
  unfold textT at h ⊢
  split
  · exact Nat.zero_le _
  · split
    · exact Nat.zero_le _
    · split
      · exact Nat.zero_le _
      · rename_i h1 h2 h3
        have := @tk_end l (by simpa using h1)
        show (tk l).2.1 + (tk l).1 ≤ l.length
        omega
theorem textF_c (m : Nat) (hm : m ≤ 1048576) (l : List UInt8) (hl : l.length ≤ 9223372036854775807) : FnP Tryz.prog 142 [.s l, .cp [I64 (m : Nat)]]
    (· = .tup [.s (textT m l).1, I64 (((textT m l).2.1 : Nat) : Int), I64 (textT m l).2.2]) := by
  refine FnP.intro Tryz.tabOK Tryz.wide_ Tryz.func142 rfl (by decide) rfl (fun X => ?_)
  repeat (first | refine sc rfl ?_ | refine so rfl ?_ | refine sb rfl ?_)
  refine O_call (spanTake_c m hm l hl) (by rfl) (by rfl) (by rfl) (by rfl) (fun r' hr => ?_)
  subst hr
  repeat (first | refine sc rfl ?_ | refine so rfl ?_ | refine sb rfl ?_)
  exact ⟨_, rfl, rfl, rfl⟩
theorem Text_A (g : Nat) (b : List UInt8) (at_ : Nat) (e : Int) (m : Nat) (hm : m ≤ 1048576) (hat : at_ ≤ b.length) (hb : b.length ≤ 9223372036854775807) :
    FnA Tryz.prog 93 [PT g 0, I64 (m : Nat)] [rdr g b at_ e] (fun r cs' => r = .s (rdV [] (textT m (b.drop at_)).1 e (textT m (b.drop at_)).2.2) ∧ cs' = [rdr g b (rdAt at_ (textT m (b.drop at_)).2.1 e (textT m (b.drop at_)).2.2) (rdE e (textT m (b.drop at_)).2.2)]) := by
  refine FnA.intro Tryz.tabOK Tryz.wide_ Tryz.func93 rfl (by decide) rfl (fun X => ?_)
  repeat (first | refine sc rfl ?_ | refine so rfl ?_ | refine sb rfl ?_)
  refine O_le _ (Le.freezebox 3 rfl rfl rfl) ?_
  repeat (first | refine sc rfl ?_ | refine so rfl ?_ | refine sb rfl ?_)
  refine O_makeFunc rfl rfl rfl rfl ?_
  repeat (first | refine sc rfl ?_ | refine so rfl ?_ | refine sb rfl ?_)
  first
    | refine O_callA [0] (takeS_A g b at_ e (.p (cloRP 142 [.cp [I64 (m : Nat)]])) 142 [.cp [I64 (m : Nat)]] (textT m (b.drop at_)).2.1 (textT m (b.drop at_)).2.2 (textT m (b.drop at_)).1 (isClo_p _ _) rfl hat (.inl rfl) (fun _ => textF_c m hm (b.drop at_) (by simp; omega)) (fun _ h => by have := textT_end h; simp at this; omega) hb) (by rfl) (by rfl) (by rfl) (by rfl) (by rfl) ?_
    | refine O_callA [1] (takeS_A g b at_ e (.p (cloRP 142 [.cp [I64 (m : Nat)]])) 142 [.cp [I64 (m : Nat)]] (textT m (b.drop at_)).2.1 (textT m (b.drop at_)).2.2 (textT m (b.drop at_)).1 (isClo_p _ _) rfl hat (.inl rfl) (fun _ => textF_c m hm (b.drop at_) (by simp; omega)) (fun _ h => by have := textT_end h; simp at this; omega) hb) (by rfl) (by rfl) (by rfl) (by rfl) (by rfl) ?_
    | refine O_callA [2] (takeS_A g b at_ e (.p (cloRP 142 [.cp [I64 (m : Nat)]])) 142 [.cp [I64 (m : Nat)]] (textT m (b.drop at_)).2.1 (textT m (b.drop at_)).2.2 (textT m (b.drop at_)).1 (isClo_p _ _) rfl hat (.inl rfl) (fun _ => textF_c m hm (b.drop at_) (by simp; omega)) (fun _ h => by have := textT_end h; simp at this; omega) hb) (by rfl) (by rfl) (by rfl) (by rfl) (by rfl) ?_
    | refine O_callA [3] (takeS_A g b at_ e (.p (cloRP 142 [.cp [I64 (m : Nat)]])) 142 [.cp [I64 (m : Nat)]] (textT m (b.drop at_)).2.1 (textT m (b.drop at_)).2.2 (textT m (b.drop at_)).1 (isClo_p _ _) rfl hat (.inl rfl) (fun _ => textF_c m hm (b.drop at_) (by simp; omega)) (fun _ h => by have := textT_end h; simp at this; omega) hb) (by rfl) (by rfl) (by rfl) (by rfl) (by rfl) ?_
    | refine O_callA [4] (takeS_A g b at_ e (.p (cloRP 142 [.cp [I64 (m : Nat)]])) 142 [.cp [I64 (m : Nat)]] (textT m (b.drop at_)).2.1 (textT m (b.drop at_)).2.2 (textT m (b.drop at_)).1 (isClo_p _ _) rfl hat (.inl rfl) (fun _ => textF_c m hm (b.drop at_) (by simp; omega)) (fun _ h => by have := textT_end h; simp at this; omega) hb) (by rfl) (by rfl) (by rfl) (by rfl) (by rfl) ?_
  rintro r' cs' ⟨rfl, rfl⟩
  repeat (first | refine sc rfl ?_ | refine so rfl ?_ | refine sb rfl ?_)
  first
    | exact ⟨_, [_], _, rfl, pickA_perm (is := [0]) (As := [_]) rfl, rfl, rfl, rfl⟩
    | exact ⟨_, [_], _, rfl, pickA_perm (is := [1]) (As := [_]) rfl, rfl, rfl, rfl⟩
    | exact ⟨_, [_], _, rfl, pickA_perm (is := [2]) (As := [_]) rfl, rfl, rfl, rfl⟩
    | exact ⟨_, [_], _, rfl, pickA_perm (is := [3]) (As := [_]) rfl, rfl, rfl, rfl⟩
    | exact ⟨_, [_], _, rfl, pickA_perm (is := [4]) (As := [_]) rfl, rfl, rfl, rfl⟩
end Go.Proofs

/- call.TakeBind. -/
set_option linter.unusedSimpArgs false
set_option linter.unusedVariables false
set_option maxRecDepth 100000
namespace Go.Proofs
open Go.Sy Go.Lib

theorem takeBind_c (b : List UInt8) (hb : b.length ≤ 9223372036854775807) (a1 a2 a3 a4 a5 : Nat) (e1 e2 e3 e4 e5 : Int) (q1 : a1 = rdAt 0 (tk b).2.1 0 (tk b).2.2) (p1 : e1 = rdE 0 (tk b).2.2)
    (q2 : a2 = rdAt a1 (intT 1048576 (b.drop a1)).2.1 e1 (intT 1048576 (b.drop a1)).2.2) (p2 : e2 = rdE e1 (intT 1048576 (b.drop a1)).2.2)
    (q3 : a3 = rdAt a2 (textT 16 (b.drop a2)).2.1 e2 (textT 16 (b.drop a2)).2.2) (p3 : e3 = rdE e2 (textT 16 (b.drop a2)).2.2)
    (q4 : a4 = rdAt a3 (textT 16 (b.drop a3)).2.1 e3 (textT 16 (b.drop a3)).2.2) (p4 : e4 = rdE e3 (textT 16 (b.drop a3)).2.2)
    (q5 : a5 = rdAt a4 (intT 1048576 (b.drop a4)).2.1 e4 (intT 1048576 (b.drop a4)).2.2) (p5 : e5 = rdE e4 (intT 1048576 (b.drop a4)).2.2)
    (h1 : a1 ≤ b.length) (h2 : a2 ≤ b.length) (h3 : a3 ≤ b.length) (h4 : a4 ≤ b.length) :
    FnP Tryz.prog 38 [.s b] (fun r => r = if rdDone b a5 e5 ≠ 0 then .tup [.agg (Bnd.c default), I64 1] else
      .tup [.agg (Bnd.c ⟨rdV 0 ((tk b).1 : Nat) 0 (tk b).2.2, rdV 0 (intT 1048576 (b.drop a1)).1 e1 (intT 1048576 (b.drop a1)).2.2, rdV [] (textT 16 (b.drop a2)).1 e2 (textT 16 (b.drop a2)).2.2, rdV [] (textT 16 (b.drop a3)).1 e3 (textT 16 (b.drop a3)).2.2, rdV 0 (intT 1048576 (b.drop a4)).1 e4 (intT 1048576 (b.drop a4)).2.2⟩), I64 0]) := by
  refine FnP.intro Tryz.tabOK Tryz.wide_ Tryz.func38 rfl (by decide) rfl (fun X => ?_)
  repeat (first | refine sc rfl ?_ | refine so rfl ?_ | refine sb rfl ?_)
  refine O_callA [] (Read_A0 b) (by rfl) (by rfl) (by rfl) (by rfl) (by rfl) ?_
  rintro r' cs' ⟨g, rfl, rfl⟩
  repeat (first | refine sc rfl ?_ | refine so rfl ?_ | refine sb rfl ?_)
  refine O_makeBound rfl rfl rfl rfl ?_
  repeat (first | refine sc rfl ?_ | refine so rfl ?_ | refine sb rfl ?_)
  refine O_makeBound rfl rfl rfl rfl ?_
  repeat (first | refine sc rfl ?_ | refine so rfl ?_ | refine sb rfl ?_)
  first
    | refine O_callA [0] (Num_A g b 0 0 (Nat.zero_le _) hb) (by rfl) (by rfl) (by rfl) (by rfl) (by rfl) ?_
    | refine O_callA [1] (Num_A g b 0 0 (Nat.zero_le _) hb) (by rfl) (by rfl) (by rfl) (by rfl) (by rfl) ?_
    | refine O_callA [2] (Num_A g b 0 0 (Nat.zero_le _) hb) (by rfl) (by rfl) (by rfl) (by rfl) (by rfl) ?_
    | refine O_callA [3] (Num_A g b 0 0 (Nat.zero_le _) hb) (by rfl) (by rfl) (by rfl) (by rfl) (by rfl) ?_
    | refine O_callA [4] (Num_A g b 0 0 (Nat.zero_le _) hb) (by rfl) (by rfl) (by rfl) (by rfl) (by rfl) ?_
  rintro r' cs' ⟨rfl, rfl⟩
  rw [List.drop_zero, ← q1, ← p1]
  repeat (first | refine sc rfl ?_ | refine so rfl ?_ | refine sb rfl ?_)
  first
    | refine O_callBound [0] (Int_A g b a1 e1 1048576 (by decide) h1 hb) rfl rfl rfl rfl rfl rfl ?_
    | refine O_callBound [1] (Int_A g b a1 e1 1048576 (by decide) h1 hb) rfl rfl rfl rfl rfl rfl ?_
  rintro r' cs' ⟨rfl, rfl⟩
  rw [← q2, ← p2]
  repeat (first | refine sc rfl ?_ | refine so rfl ?_ | refine sb rfl ?_)
  first
    | refine O_callBound [0] (Text_A g b a2 e2 16 (by decide) h2 hb) rfl rfl rfl rfl rfl rfl ?_
    | refine O_callBound [1] (Text_A g b a2 e2 16 (by decide) h2 hb) rfl rfl rfl rfl rfl rfl ?_
  rintro r' cs' ⟨rfl, rfl⟩
  rw [← q3, ← p3]
  repeat (first | refine sc rfl ?_ | refine so rfl ?_ | refine sb rfl ?_)
  first
    | refine O_callBound [0] (Text_A g b a3 e3 16 (by decide) h3 hb) rfl rfl rfl rfl rfl rfl ?_
    | refine O_callBound [1] (Text_A g b a3 e3 16 (by decide) h3 hb) rfl rfl rfl rfl rfl rfl ?_
  rintro r' cs' ⟨rfl, rfl⟩
  rw [← q4, ← p4]
  repeat (first | refine sc rfl ?_ | refine so rfl ?_ | refine sb rfl ?_)
  first
    | refine O_callBound [0] (Int_A g b a4 e4 1048576 (by decide) h4 hb) rfl rfl rfl rfl rfl rfl ?_
    | refine O_callBound [1] (Int_A g b a4 e4 1048576 (by decide) h4 hb) rfl rfl rfl rfl rfl rfl ?_
  rintro r' cs' ⟨rfl, rfl⟩
  rw [← q5, ← p5]
  repeat (first | refine sc rfl ?_ | refine so rfl ?_ | refine sb rfl ?_)
  first
    | refine O_callA [0] (Done_A g b _ _) (by rfl) (by rfl) (by rfl) (by rfl) (by rfl) ?_
    | refine O_callA [1] (Done_A g b _ _) (by rfl) (by rfl) (by rfl) (by rfl) (by rfl) ?_
    | refine O_callA [2] (Done_A g b _ _) (by rfl) (by rfl) (by rfl) (by rfl) (by rfl) ?_
    | refine O_callA [3] (Done_A g b _ _) (by rfl) (by rfl) (by rfl) (by rfl) (by rfl) ?_
    | refine O_callA [4] (Done_A g b _ _) (by rfl) (by rfl) (by rfl) (by rfl) (by rfl) ?_
  rintro r' cs' ⟨rfl, rfl⟩
  repeat (first | refine sc rfl ?_ | refine so rfl ?_ | refine sb rfl ?_)
  refine C_if rfl (fun m1 => ?_) (fun m1 => ?_) <;> simp only [decide_eq_true_eq, decide_eq_false_iff_not, Bool.not_eq_true', Bool.not_eq_false', beq_iff_eq, beq_eq_false_iff_ne, bne_iff_ne, ne_eq, bne_eq_false_iff_eq, Decidable.not_not] at m1
  · rw [if_pos m1]
    repeat (first | refine sc rfl ?_ | refine so rfl ?_ | refine sb rfl ?_)
    exact ⟨_, rfl, rfl, rfl⟩
  · rw [if_neg (fun h => h m1)]
    repeat (first | refine sc rfl ?_ | refine so rfl ?_ | refine sb rfl ?_)
    exact ⟨_, rfl, rfl, rfl⟩
end Go.Proofs

/- trace.Id. -/
set_option linter.unusedSimpArgs false
set_option linter.unusedVariables false
set_option maxRecDepth 100000
namespace Go.Proofs
open Go.Sy Go.Lib

/-- Readers' states: place and error. -/
def stN (b : List UInt8) : Nat × Int := (rdAt 0 (tk b).2.1 0 (tk b).2.2, rdE 0 (tk b).2.2)
noncomputable def stI (b : List UInt8) (q : Nat × Int) : Nat × Int := (rdAt q.1 (intT 1048576 (b.drop q.1)).2.1 q.2 (intT 1048576 (b.drop q.1)).2.2, rdE q.2 (intT 1048576 (b.drop q.1)).2.2)
def stT (b : List UInt8) (q : Nat × Int) : Nat × Int := (rdAt q.1 (textT 16 (b.drop q.1)).2.1 q.2 (textT 16 (b.drop q.1)).2.2, rdE q.2 (textT 16 (b.drop q.1)).2.2)
def stR (b : List UInt8) (q : Nat × Int) : Nat × Int := (rdAt q.1 (b.length - q.1) q.2 0, rdE q.2 0)
theorem stN_le (b : List UInt8) : (stN b).1 ≤ b.length := rdAt_le0 0
theorem stI_le (b : List UInt8) {q : Nat × Int} (h : q.1 ≤ b.length) : (stI b q).1 ≤ b.length := rdAt_le h 1048576
theorem stT_le (b : List UInt8) {q : Nat × Int} (h : q.1 ≤ b.length) : (stT b q).1 ≤ b.length := by
  unfold stT rdAt
  simp only []
  split
  · exact h
  · split
    · exact h
    · rename_i h1 h2
      have := @textT_end 16 (b.drop q.1) (by simpa using h2)
      simp at this
      omega
noncomputable def callE (b : List UInt8) : Int := let q := stR b (stI b (stI b (stN b))); if rdDone b q.1 q.2 ≠ 0 then 1 else 0
noncomputable def bindE (b : List UInt8) : Int := let q := stI b (stT b (stT b (stI b (stN b)))); if rdDone b q.1 q.2 ≠ 0 then 1 else 0
noncomputable def cancE (b : List UInt8) : Int := let q := stN b; if rdDone b q.1 q.2 ≠ 0 then 1 else 0
noncomputable def schE (b : List UInt8) : Int := let q := stR b (stN b); if rdDone b q.1 q.2 ≠ 0 then 1 else 0
noncomputable def idV (b : List UInt8) (e : Int) : Int := if e ≠ 0 then 0 else rdV 0 ((tk b).1 : Nat) 0 (tk b).2.2
theorem takeCall_i (b : List UInt8) (hb : b.length ≤ 9223372036854775807) : FnP Tryz.prog 35 [.s b] (fun r => ∃ c : Cal, r = .tup [.agg (Cal.c c), I64 (callE b)] ∧ c.id = idV b (callE b)) := by
  refine (takeCall_c b hb _ _ _ _ _ _ rfl rfl rfl rfl rfl rfl (stN_le b) (stI_le b (stN_le b)) (stI_le b (stI_le b (stN_le b)))).mono (fun r hr => ?_)
  by_cases hx : rdDone b (stR b (stI b (stI b (stN b)))).1 (stR b (stI b (stI b (stN b)))).2 ≠ 0
  · have hE : callE b = 1 := if_pos hx
    rw [hE]
    exact ⟨default, hr.trans (if_pos hx), by unfold idV; rw [if_pos (by decide)]; rfl⟩
  · have hE : callE b = 0 := if_neg hx
    rw [hE]
    exact ⟨_, hr.trans (if_neg hx), by unfold idV; rw [if_neg (by decide)]⟩
theorem takeBind_i (b : List UInt8) (hb : b.length ≤ 9223372036854775807) : FnP Tryz.prog 38 [.s b] (fun r => ∃ c : Bnd, r = .tup [.agg (Bnd.c c), I64 (bindE b)] ∧ c.id = idV b (bindE b)) := by
  refine (takeBind_c b hb _ _ _ _ _ _ _ _ _ _ rfl rfl rfl rfl rfl rfl rfl rfl rfl rfl (stN_le b) (stI_le b (stN_le b)) (stT_le b (stI_le b (stN_le b))) (stT_le b (stT_le b (stI_le b (stN_le b))))).mono (fun r hr => ?_)
  by_cases hx : rdDone b (stI b (stT b (stT b (stI b (stN b))))).1 (stI b (stT b (stT b (stI b (stN b))))).2 ≠ 0
  · have hE : bindE b = 1 := if_pos hx
    rw [hE]
    exact ⟨default, hr.trans (if_pos hx), by unfold idV; rw [if_pos (by decide)]; rfl⟩
  · have hE : bindE b = 0 := if_neg hx
    rw [hE]
    exact ⟨_, hr.trans (if_neg hx), by unfold idV; rw [if_neg (by decide)]⟩
end Go.Proofs

/- trace.Id: the program's. -/
set_option linter.unusedSimpArgs false
set_option linter.unusedVariables false
set_option maxRecDepth 100000
namespace Go.Proofs
open Go.Sy Go.Lib

theorem takeCancel_i (b : List UInt8) (hb : b.length ≤ 9223372036854775807) : FnP Tryz.prog 36 [.s b] (· = .tup [U64 (idV b (cancE b)), I64 (cancE b)]) := by
  refine (takeCancel_c b hb).mono (fun r hr => ?_)
  subst hr
  by_cases hx : rdDone b (stN b).1 (stN b).2 ≠ 0
  · have hE : cancE b = 1 := if_pos hx
    have hF : cancelF b = (0, 1) := if_pos hx
    rw [hE, hF]
    unfold idV; rw [if_pos (by decide)]
  · have hE : cancE b = 0 := if_neg hx
    have hF : cancelF b = (rdV (0 : Int) (((tk b).1 : Nat) : Int) 0 (tk b).2.2, 0) := if_neg hx
    rw [hE, hF]
    unfold idV; rw [if_neg (by decide)]
theorem takeSchema_i (b : List UInt8) (hb : b.length ≤ 9223372036854775807) : FnP Tryz.prog 37 [.s b] (fun r => ∃ s, r = .tup [U64 (idV b (schE b)), .s s, I64 (schE b)]) := by
  refine (takeSchema_c b hb (stN_le b)).mono (fun r hr => ?_)
  subst hr
  by_cases hx : rdDone b (stR b (stN b)).1 (stR b (stN b)).2 ≠ 0
  · have hE : schE b = 1 := if_pos hx
    have hF : schemaF b = (0, [], 1) := if_pos hx
    rw [hE, hF]
    exact ⟨[], by unfold idV; rw [if_pos (by decide)]⟩
  · have hE : schE b = 0 := if_neg hx
    have hF : schemaF b = (rdV (0 : Int) (((tk b).1 : Nat) : Int) 0 (tk b).2.2, rdV [] (b.drop (stN b).1) (stN b).2 0, 0) := if_neg hx
    rw [hE, hF]
    exact ⟨_, by unfold idV; rw [if_neg (by decide)]⟩
noncomputable def idF (x : Nte) : Int × Bool :=
  if x.kind = 2 ∨ x.kind = 3 then (idV x.body (callE x.body), callE x.body == 0) else if x.kind = 4 then (idV x.body (cancE x.body), cancE x.body == 0) else
  if x.kind = 6 then (idV x.body (schE x.body), schE x.body == 0) else if x.kind = 7 then (idV x.body (bindE x.body), bindE x.body == 0) else (0, false)
theorem id_c (x : Nte) (hb : x.body.length ≤ 9223372036854775807) : FnP Tryz.prog 9 [.agg (Nte.c x)] (· = .tup [U64 (idF x).1, B (idF x).2]) := by
  refine FnP.intro Tryz.tabOK Tryz.wide_ Tryz.func9 rfl (by decide) rfl (fun X => ?_)
  unfold idF
  repeat (first | refine sc rfl ?_ | refine so rfl ?_ | refine sb rfl ?_)
  refine C_if rfl (fun k2 => ?_) (fun k2 => ?_) <;> simp only [decide_eq_true_eq, decide_eq_false_iff_not, Bool.not_eq_true', Bool.not_eq_false', beq_iff_eq, beq_eq_false_iff_ne, bne_iff_ne, ne_eq, bne_eq_false_iff_eq, Decidable.not_not] at k2
  · rw [if_pos (.inl k2)]
    repeat (first | refine sc rfl ?_ | refine so rfl ?_ | refine sb rfl ?_)
    refine C_true rfl (by simp [k2]) ?_
    repeat (first | refine sc rfl ?_ | refine so rfl ?_ | refine sb rfl ?_)
    refine O_call (takeCall_i x.body hb) (by rfl) (by rfl) (by rfl) (by rfl) (fun r' hr => ?_)
    obtain ⟨c, rfl, hc⟩ := hr
    rw [← hc]
    repeat (first | refine sc rfl ?_ | refine so rfl ?_ | refine sb rfl ?_)
    exact ⟨_, rfl, rfl, rfl⟩
  repeat (first | refine sc rfl ?_ | refine so rfl ?_ | refine sb rfl ?_)
  refine C_if rfl (fun k3 => ?_) (fun k3 => ?_) <;> simp only [decide_eq_true_eq, decide_eq_false_iff_not, Bool.not_eq_true', Bool.not_eq_false', beq_iff_eq, beq_eq_false_iff_ne, bne_iff_ne, ne_eq, bne_eq_false_iff_eq, Decidable.not_not] at k3
  · rw [if_pos (.inr k3)]
    repeat (first | refine sc rfl ?_ | refine so rfl ?_ | refine sb rfl ?_)
    refine O_call (takeCall_i x.body hb) (by rfl) (by rfl) (by rfl) (by rfl) (fun r' hr => ?_)
    obtain ⟨c, rfl, hc⟩ := hr
    rw [← hc]
    repeat (first | refine sc rfl ?_ | refine so rfl ?_ | refine sb rfl ?_)
    exact ⟨_, rfl, rfl, rfl⟩
  rw [if_neg (fun h => h.elim k2 k3)]
  repeat (first | refine sc rfl ?_ | refine so rfl ?_ | refine sb rfl ?_)
  refine C_if rfl (fun k4 => ?_) (fun k4 => ?_) <;> simp only [decide_eq_true_eq, decide_eq_false_iff_not, Bool.not_eq_true', Bool.not_eq_false', beq_iff_eq, beq_eq_false_iff_ne, bne_iff_ne, ne_eq, bne_eq_false_iff_eq, Decidable.not_not] at k4
  · rw [if_pos k4]
    repeat (first | refine sc rfl ?_ | refine so rfl ?_ | refine sb rfl ?_)
    refine O_call (takeCancel_i x.body hb) (by rfl) (by rfl) (by rfl) (by rfl) (fun r' hr => ?_)
    subst hr
    repeat (first | refine sc rfl ?_ | refine so rfl ?_ | refine sb rfl ?_)
    exact ⟨_, rfl, rfl, rfl⟩
  rw [if_neg k4]
  repeat (first | refine sc rfl ?_ | refine so rfl ?_ | refine sb rfl ?_)
  refine C_if rfl (fun k6 => ?_) (fun k6 => ?_) <;> simp only [decide_eq_true_eq, decide_eq_false_iff_not, Bool.not_eq_true', Bool.not_eq_false', beq_iff_eq, beq_eq_false_iff_ne, bne_iff_ne, ne_eq, bne_eq_false_iff_eq, Decidable.not_not] at k6
  · rw [if_pos k6]
    repeat (first | refine sc rfl ?_ | refine so rfl ?_ | refine sb rfl ?_)
    refine O_call (takeSchema_i x.body hb) (by rfl) (by rfl) (by rfl) (by rfl) (fun r' hr => ?_)
    obtain ⟨s, rfl⟩ := hr
    repeat (first | refine sc rfl ?_ | refine so rfl ?_ | refine sb rfl ?_)
    exact ⟨_, rfl, rfl, rfl⟩
  rw [if_neg k6]
  repeat (first | refine sc rfl ?_ | refine so rfl ?_ | refine sb rfl ?_)
  refine C_if rfl (fun k7 => ?_) (fun k7 => ?_) <;> simp only [decide_eq_true_eq, decide_eq_false_iff_not, Bool.not_eq_true', Bool.not_eq_false', beq_iff_eq, beq_eq_false_iff_ne, bne_iff_ne, ne_eq, bne_eq_false_iff_eq, Decidable.not_not] at k7
  · rw [if_pos k7]
    repeat (first | refine sc rfl ?_ | refine so rfl ?_ | refine sb rfl ?_)
    refine O_call (takeBind_i x.body hb) (by rfl) (by rfl) (by rfl) (by rfl) (fun r' hr => ?_)
    obtain ⟨c, rfl, hc⟩ := hr
    rw [← hc]
    repeat (first | refine sc rfl ?_ | refine so rfl ?_ | refine sb rfl ?_)
    exact ⟨_, rfl, rfl, rfl⟩
  rw [if_neg k7]
  repeat (first | refine sc rfl ?_ | refine so rfl ?_ | refine sb rfl ?_)
  exact ⟨_, rfl, rfl, rfl⟩
end Go.Proofs

/- The document's steps: a number. -/
set_option linter.unusedSimpArgs false
set_option linter.unusedVariables false
set_option maxRecDepth 100000
namespace Go.Proofs
open Go.Sy Go.Lib

def gotC (n : Int) (t : List UInt8) (a : Nat) (e : Int) : List AV := [U64 n, .s t, I64 (a : Nat), I64 e]
theorem next_err (b t : List UInt8) (n : Int) (a : Nat) (e k m : Int) (he : e ≠ 0) : FnP Tryz.prog 196 [.s b, .agg (gotC n t a e), .agg [I64 k, I64 m]] (· = .agg (gotC 0 [] a e)) := by
  refine FnP.intro Tryz.tabOK Tryz.wide_ Tryz.func196 rfl (by decide) rfl (fun X => ?_)
  repeat (first | refine sc rfl ?_ | refine so rfl ?_ | refine sb rfl ?_)
  refine C_true rfl (by simpa using he) ?_
  repeat (first | refine sc rfl ?_ | refine so rfl ?_ | refine sb rfl ?_)
  exact ⟨_, rfl, rfl, rfl⟩
theorem next1_c (b t : List UInt8) (n : Int) (a : Nat) (m : Int) (ha : a ≤ b.length) (hb : b.length ≤ 9223372036854775807) (hk : (tk (b.drop a)).2.1 ≤ b.length - a) :
    FnP Tryz.prog 196 [.s b, .agg (gotC n t a 0), .agg [I64 1, I64 m]] (· = .agg (gotC ((tk (b.drop a)).1 : Nat) [] (a + (tk (b.drop a)).2.1) (tk (b.drop a)).2.2)) := by
  refine FnP.intro Tryz.tabOK Tryz.wide_ Tryz.func196 rfl (by decide) rfl (fun X => ?_)
  repeat (first | refine sc rfl ?_ | refine so rfl ?_ | refine sb rfl ?_)
  refine C_false rfl rfl ?_
  repeat (first | refine sc rfl ?_ | refine so rfl ?_ | refine sb rfl ?_)
  refine ⟨by omega, ?_⟩
  rw [Int.toNat_natCast]
  repeat (first | refine sc rfl ?_ | refine so rfl ?_ | refine sb rfl ?_)
  refine C_true rfl rfl ?_
  repeat (first | refine sc rfl ?_ | refine so rfl ?_ | refine sb rfl ?_)
  refine O_call (refTake01_p (b.drop a) (by simp; omega)) (by rfl) (by rfl) (by rfl) (by rfl) (fun r' hr => ?_)
  subst hr
  obtain ⟨x, k, e, ht⟩ : ∃ x k e, tk (b.drop a) = (x, k, e) := ⟨_, _, _, rfl⟩
  rw [ht] at hk ⊢
  simp only [] at hk ⊢
  repeat (first | refine sc rfl ?_ | refine so rfl ?_ | refine sb rfl ?_)
  rw [show IntKind.i64.wrap ((a : Int) + (k : Int)) = ((a + k : Nat) : Int) by rw [w64 (by omega) (by omega)]; omega]
  repeat (first | refine sc rfl ?_ | refine so rfl ?_ | refine sb rfl ?_)
  exact ⟨_, rfl, rfl, rfl⟩
end Go.Proofs

/- The document's steps: an int, the rest. -/
set_option linter.unusedSimpArgs false
set_option linter.unusedVariables false
set_option maxRecDepth 100000
namespace Go.Proofs
open Go.Sy Go.Lib

theorem next2_c (b t : List UInt8) (n : Int) (a : Nat) (m : Nat) (hm : m ≤ 9223372036854775807) (ha : a ≤ b.length) (hb : b.length ≤ 9223372036854775807) (hk : (rInt m (b.drop a)).2.1 ≤ b.length - a) :
    FnP Tryz.prog 196 [.s b, .agg (gotC n t a 0), .agg [I64 2, I64 (m : Nat)]] (· = .agg (gotC (IntKind.u64.wrap (rInt m (b.drop a)).1) [] (a + (rInt m (b.drop a)).2.1) (rInt m (b.drop a)).2.2)) := by
  refine FnP.intro Tryz.tabOK Tryz.wide_ Tryz.func196 rfl (by decide) rfl (fun X => ?_)
  repeat (first | refine sc rfl ?_ | refine so rfl ?_ | refine sb rfl ?_)
  refine C_false rfl rfl ?_
  repeat (first | refine sc rfl ?_ | refine so rfl ?_ | refine sb rfl ?_)
  refine ⟨by omega, ?_⟩
  rw [Int.toNat_natCast]
  repeat (first | refine sc rfl ?_ | refine so rfl ?_ | refine sb rfl ?_)
  refine C_false rfl rfl ?_
  repeat (first | refine sc rfl ?_ | refine so rfl ?_ | refine sb rfl ?_)
  refine C_true rfl rfl ?_
  repeat (first | refine sc rfl ?_ | refine so rfl ?_ | refine sb rfl ?_)
  refine O_call (rInt_c m hm (b.drop a) (by simp; omega)) (by rfl) (by rfl) (by rfl) (by rfl) (fun r' hr => ?_)
  subst hr
  obtain ⟨x, k, e, ht⟩ : ∃ x k e, rInt m (b.drop a) = (x, k, e) := ⟨_, _, _, rfl⟩
  rw [ht] at hk ⊢
  simp only [] at hk ⊢
  repeat (first | refine sc rfl ?_ | refine so rfl ?_ | refine sb rfl ?_)
  rw [show IntKind.i64.wrap ((a : Int) + (k : Int)) = ((a + k : Nat) : Int) by rw [w64 (by omega) (by omega)]; omega]
  repeat (first | refine sc rfl ?_ | refine so rfl ?_ | refine sb rfl ?_)
  exact ⟨_, rfl, rfl, rfl⟩
theorem next4_c (b t : List UInt8) (n : Int) (a : Nat) (m : Int) (ha : a ≤ b.length) (hb : b.length ≤ 9223372036854775807) :
    FnP Tryz.prog 196 [.s b, .agg (gotC n t a 0), .agg [I64 4, I64 m]] (· = .agg (gotC 0 (b.drop a) b.length 0)) := by
  refine FnP.intro Tryz.tabOK Tryz.wide_ Tryz.func196 rfl (by decide) rfl (fun X => ?_)
  have hl : (b.drop a).length = b.length - a := List.length_drop
  repeat (first | refine sc rfl ?_ | refine so rfl ?_ | refine sb rfl ?_)
  refine C_false rfl rfl ?_
  repeat (first | refine sc rfl ?_ | refine so rfl ?_ | refine sb rfl ?_)
  refine ⟨by omega, ?_⟩
  rw [Int.toNat_natCast]
  repeat (first | refine sc rfl ?_ | refine so rfl ?_ | refine sb rfl ?_)
  refine C_false rfl rfl ?_
  repeat (first | refine sc rfl ?_ | refine so rfl ?_ | refine sb rfl ?_)
  refine C_false rfl rfl ?_
  repeat (first | refine sc rfl ?_ | refine so rfl ?_ | refine sb rfl ?_)
  refine C_false rfl rfl ?_
  repeat (first | refine sc rfl ?_ | refine so rfl ?_ | refine sb rfl ?_)
  rw [show IntKind.i64.wrap ((a : Int) + ((b.drop a).length : Nat)) = ((b.length : Nat) : Int) by rw [hl, w64 (by omega) (by omega)]; omega]
  repeat (first | refine sc rfl ?_ | refine so rfl ?_ | refine sb rfl ?_)
  exact ⟨_, rfl, rfl, rfl⟩
end Go.Proofs

/- The document's spans. -/
set_option linter.unusedSimpArgs false
set_option linter.unusedVariables false
set_option maxRecDepth 100000
namespace Go.Proofs
open Go.Sy Go.Lib

theorem textT_bad {m : Nat} {l : List UInt8} (h : (intT m l).2.2 ≠ 0) : textT m l = ([], 0, (intT m l).2.2) := by
  unfold textT
  unfold intT at h ⊢
  simp only [] at h ⊢
  by_cases h1 : (tk l).2.2 = 0
  · rw [if_neg (fun hh => hh h1)]
    by_cases h2 : m < (tk l).1
    · rw [if_pos h2, if_pos ⟨h1, h2⟩]
    · rw [if_neg (fun hh => h2 hh.2)] at h; exact absurd h1 h
  · rw [if_pos h1, if_neg (fun hh => h1 hh.1)]
theorem refSpan_c (m : Nat) (hm : m ≤ 1048576) (l : List UInt8) (hl : l.length ≤ 9223372036854775807) : FnP Tryz.prog 233 [.s l, I64 (m : Nat)]
    (· = .tup [.s (textT m l).1, I64 (((textT m l).2.1 : Nat) : Int), I64 (textT m l).2.2]) := by
  refine FnP.intro Tryz.tabOK Tryz.wide_ Tryz.func233 rfl (by decide) rfl (fun X => ?_)
  repeat (first | refine sc rfl ?_ | refine so rfl ?_ | refine sb rfl ?_)
  refine O_call (rInt_c m (by omega) l hl) (by rfl) (by rfl) (by rfl) (by rfl) (fun r' hr => ?_)
  subst hr
  by_cases he : (rInt m l).2.2 = 0
  · obtain ⟨n, k, ht, hn, hr⟩ := rInt_good he
    have hk := @tk_end l (by rw [ht])
    unfold textT
    rw [ht] at hk ⊢
    rw [hr]
    simp only [] at hk ⊢
    rw [if_neg (fun hh => hh rfl), if_neg (show ¬ m < n by omega)]
    repeat (first | refine sc rfl ?_ | refine so rfl ?_ | refine sb rfl ?_)
    refine C_false rfl rfl ?_
    repeat (first | refine sc rfl ?_ | refine so rfl ?_ | refine sb rfl ?_)
    rw [w64 (x := (l.length : Int) - (k : Int)) (by omega) (by omega)]
    refine C_if rfl (fun m3 => ?_) (fun m3 => ?_) <;> simp only [decide_eq_true_eq, decide_eq_false_iff_not, Bool.not_eq_true', Bool.not_eq_false', beq_iff_eq, beq_eq_false_iff_ne, bne_iff_ne, ne_eq, bne_eq_false_iff_eq, Decidable.not_not] at m3
    · rw [if_pos (by omega)]
      repeat (first | refine sc rfl ?_ | refine so rfl ?_ | refine sb rfl ?_)
      exact ⟨_, rfl, rfl, rfl⟩
    · rw [if_neg (by omega)]
      have w2 : IntKind.i64.wrap ((k : Int) + (n : Int)) = ((k + n : Nat) : Int) := by rw [w64 (by omega) (by omega)]; omega
      repeat (first | refine sc rfl ?_ | refine so rfl ?_ | refine sb rfl ?_)
      refine ⟨by rw [w2]; omega, ?_⟩
      repeat (first | refine sc rfl ?_ | refine so rfl ?_ | refine sb rfl ?_)
      refine ⟨_, rfl, rfl, ?_⟩
      show AV.tup [.s (List.take ((IntKind.i64.wrap ((k : Int) + (n : Int))).toNat - ((k : Nat) : Int).toNat) (List.drop ((k : Nat) : Int).toNat l)), I64 (IntKind.i64.wrap ((k : Int) + (n : Int))), I64 0] = .tup [.s (List.take n (List.drop k l)), I64 ((k + n : Nat) : Int), I64 0]
      rw [w2, Int.toNat_natCast, Int.toNat_natCast, Nat.add_sub_cancel_left]
  · have h1 := (rInt_intT m (by omega) l).1
    rw [textT_bad (m := m) (by rw [← h1]; exact he), ← h1]
    simp only []
    repeat (first | refine sc rfl ?_ | refine so rfl ?_ | refine sb rfl ?_)
    refine C_true rfl (by simpa using he) ?_
    repeat (first | refine sc rfl ?_ | refine so rfl ?_ | refine sb rfl ?_)
    exact ⟨_, rfl, rfl, rfl⟩
end Go.Proofs

/- The document's steps: a text. -/
set_option linter.unusedSimpArgs false
set_option linter.unusedVariables false
set_option maxRecDepth 100000
namespace Go.Proofs
open Go.Sy Go.Lib

theorem next3_c (b t : List UInt8) (n : Int) (a : Nat) (m : Nat) (hm : m ≤ 1048576) (ha : a ≤ b.length) (hb : b.length ≤ 9223372036854775807) :
    FnP Tryz.prog 196 [.s b, .agg (gotC n t a 0), .agg [I64 3, I64 (m : Nat)]] (· = .agg (gotC 0 (textT m (b.drop a)).1 (a + (textT m (b.drop a)).2.1) (textT m (b.drop a)).2.2)) := by
  refine FnP.intro Tryz.tabOK Tryz.wide_ Tryz.func196 rfl (by decide) rfl (fun X => ?_)
  have hk : (textT m (b.drop a)).2.1 ≤ b.length - a := by
    have h1 := @textT_end m (b.drop a)
    by_cases h0 : (textT m (b.drop a)).2.2 = 0
    · have := h1 h0; simpa using this
    · unfold textT at h0 ⊢
      split
      · exact Nat.zero_le _
      · split
        · exact Nat.zero_le _
        · split
          · exact Nat.zero_le _
          · rename_i g1 g2 g3
            rw [if_neg g1, if_neg g2, if_neg g3] at h0
            exact absurd rfl h0
  repeat (first | refine sc rfl ?_ | refine so rfl ?_ | refine sb rfl ?_)
  refine C_false rfl rfl ?_
  repeat (first | refine sc rfl ?_ | refine so rfl ?_ | refine sb rfl ?_)
  refine ⟨by omega, ?_⟩
  rw [Int.toNat_natCast]
  repeat (first | refine sc rfl ?_ | refine so rfl ?_ | refine sb rfl ?_)
  refine C_false rfl rfl ?_
  repeat (first | refine sc rfl ?_ | refine so rfl ?_ | refine sb rfl ?_)
  refine C_false rfl rfl ?_
  repeat (first | refine sc rfl ?_ | refine so rfl ?_ | refine sb rfl ?_)
  refine C_true rfl rfl ?_
  repeat (first | refine sc rfl ?_ | refine so rfl ?_ | refine sb rfl ?_)
  refine O_call (refSpan_c m hm (b.drop a) (by simp; omega)) (by rfl) (by rfl) (by rfl) (by rfl) (fun r' hr => ?_)
  subst hr
  obtain ⟨x, k, e, ht⟩ : ∃ x k e, textT m (b.drop a) = (x, k, e) := ⟨_, _, _, rfl⟩
  rw [ht] at hk ⊢
  simp only [] at hk ⊢
  repeat (first | refine sc rfl ?_ | refine so rfl ?_ | refine sb rfl ?_)
  rw [show IntKind.i64.wrap ((a : Int) + (k : Int)) = ((a + k : Nat) : Int) by rw [w64 (by omega) (by omega)]; omega]
  repeat (first | refine sc rfl ?_ | refine so rfl ?_ | refine sb rfl ?_)
  exact ⟨_, rfl, rfl, rfl⟩
end Go.Proofs

/- Orders compared. -/
set_option linter.unusedSimpArgs false
set_option linter.unusedVariables false
set_option maxRecDepth 100000
namespace Go.Proofs
open Go.Sy Go.Lib

def cfV (x : Cf) : Array Value := #[.int .i64 x.quantum, .int .i64 x.rate, .int .i64 x.burst, .int .i64 x.mem, .int .i64 x.slots, .int .i64 x.outs, .int .i64 x.conns, .int .i64 x.state, .int .i64 x.decode]
def ordV (x : Ord) : Array Value := #[.int .u64 x.id, .int .i64 x.op, .int .i64 x.owner, .int .i64 x.conf.quantum, .int .i64 x.conf.rate, .int .i64 x.conf.burst, .int .i64 x.conf.mem, .int .i64 x.conf.slots, .int .i64 x.conf.outs, .int .i64 x.conf.conns, .int .i64 x.conf.state, .int .i64 x.conf.decode]
theorem rep_ord (m : Ord) (e : Env) (ys : List Value) (h : RepL e (Ord.c m) ys) : ys = (ordV m).toList := by
  simp only [Ord.c, RepL, Rep] at h
  obtain ⟨z0, t0, rfl, rfl, _, z1, t1, rfl, rfl, _, z2, t2, rfl, rfl, _, z3, t3, rfl, rfl, _, z4, t4, rfl, rfl, _, z5, t5, rfl, rfl, _, z6, t6, rfl, rfl, _, z7, t7, rfl, rfl, _, z8, t8, rfl, rfl, _, z9, t9, rfl, rfl, _, z10, t10, rfl, rfl, _, z11, t11, rfl, rfl, _, rfl⟩ := h
  rfl
theorem eq_cf (m : Cf) (w : World) : (Op.equalIn 9999 28 (.agg (cfV m)) (.agg (cfV m))).run Tryz.prog w = .ok true w := by
  rw [run_equalIn_struct w 9998 28 _ _ Tryz.underlying28 Tryz.stoodInHeld28]
  unfold Program.fieldsOf
  rw [Tryz.underlying28]
  have p0 : (part 3 (cfV m) 0).run Tryz.prog w = .ok (.int .i64 m.quantum) w := by simp [part, isAgg, run_underlying Tryz.underlying3, cfV]
  have p1 : (part 3 (cfV m) 1).run Tryz.prog w = .ok (.int .i64 m.rate) w := by simp [part, isAgg, run_underlying Tryz.underlying3, cfV]
  have p2 : (part 3 (cfV m) 2).run Tryz.prog w = .ok (.int .i64 m.burst) w := by simp [part, isAgg, run_underlying Tryz.underlying3, cfV]
  have p3 : (part 3 (cfV m) 3).run Tryz.prog w = .ok (.int .i64 m.mem) w := by simp [part, isAgg, run_underlying Tryz.underlying3, cfV]
  have p4 : (part 3 (cfV m) 4).run Tryz.prog w = .ok (.int .i64 m.slots) w := by simp [part, isAgg, run_underlying Tryz.underlying3, cfV]
  have p5 : (part 3 (cfV m) 5).run Tryz.prog w = .ok (.int .i64 m.outs) w := by simp [part, isAgg, run_underlying Tryz.underlying3, cfV]
  have p6 : (part 3 (cfV m) 6).run Tryz.prog w = .ok (.int .i64 m.conns) w := by simp [part, isAgg, run_underlying Tryz.underlying3, cfV]
  have p7 : (part 3 (cfV m) 7).run Tryz.prog w = .ok (.int .i64 m.state) w := by simp [part, isAgg, run_underlying Tryz.underlying3, cfV]
  have p8 : (part 3 (cfV m) 8).run Tryz.prog w = .ok (.int .i64 m.decode) w := by simp [part, isAgg, run_underlying Tryz.underlying3, cfV]
  have e0 : ∀ k, (Op.equalIn 9998 3 (.int .i64 k) (.int .i64 k)).run Tryz.prog w = .ok true w := fun k => by rw [run_equalIn_int w 9997 3 .i64 .i64 _ _ Tryz.underlying3]; simp
  simp only [Op.eqFields]
  rw [if_pos (by decide), if_pos (by decide), if_pos (by decide), if_pos (by decide), if_pos (by decide), if_pos (by decide), if_pos (by decide), if_pos (by decide), if_pos (by decide)]
  simp [Sem.run_bind, p0, p1, p2, p3, p4, p5, p6, p7, p8, e0]
theorem eq_ord (m : Ord) (w : World) : (Op.equalIn 10000 30 (.agg (ordV m)) (.agg (ordV m))).run Tryz.prog w = .ok true w := by
  rw [run_equalIn_struct w 9999 30 _ _ Tryz.underlying30 Tryz.stoodInHeld30]
  unfold Program.fieldsOf
  rw [Tryz.underlying30]
  have p0 : (part 26 (ordV m) 0).run Tryz.prog w = .ok (.int .u64 m.id) w := by simp [part, isAgg, run_underlying Tryz.underlying26, ordV]
  have p1 : (part 3 (ordV m) 1).run Tryz.prog w = .ok (.int .i64 m.op) w := by simp [part, isAgg, run_underlying Tryz.underlying3, ordV]
  have p2 : (part 3 (ordV m) 2).run Tryz.prog w = .ok (.int .i64 m.owner) w := by simp [part, isAgg, run_underlying Tryz.underlying3, ordV]
  have p3 : (part 28 (ordV m) 3).run Tryz.prog w = .ok (.agg (cfV m.conf)) w := by simp [part, isAgg, run_underlying Tryz.underlying28, ordV, cfV]
  have e0 : ∀ k, (Op.equalIn 9999 3 (.int .i64 k) (.int .i64 k)).run Tryz.prog w = .ok true w := fun k => by rw [run_equalIn_int w 9998 3 .i64 .i64 _ _ Tryz.underlying3]; simp
  have e1 : ∀ k, (Op.equalIn 9999 26 (.int .u64 k) (.int .u64 k)).run Tryz.prog w = .ok true w := fun k => by rw [run_equalIn_int w 9998 26 .u64 .u64 _ _ Tryz.underlying26]; simp
  simp only [Op.eqFields]
  rw [if_pos (by decide), if_pos (by decide), if_pos (by decide), if_pos (by decide)]
  simp [Sem.run_bind, p0, p1, p2, p3, e0, e1, eq_cf]
end Go.Proofs

/- The document's steps: one behind the other. -/
set_option linter.unusedSimpArgs false
set_option linter.unusedVariables false
set_option maxRecDepth 100000
namespace Go.Proofs
open Go.Sy Go.Lib

structure Gt where
  n : Int
  t : List UInt8
  a : Nat
  e : Int
instance : Inhabited Gt := ⟨⟨0, [], 0, 0⟩⟩
def Gt.c (g : Gt) : List AV := gotC g.n g.t g.a g.e
theorem tk_len (l : List UInt8) : (tk l).2.1 ≤ l.length := by
  by_cases h : (tk l).2.2 = 0
  · exact tk_end h
  · have : (tk l).2.1 = 0 := (tkS_err 10 false l h).2
    omega
theorem rInt_len (m : Nat) (l : List UInt8) : (rInt m l).2.1 ≤ l.length := by
  have := tk_len l
  unfold rInt
  split
  · exact Nat.zero_le _
  · split
    · exact Nat.zero_le _
    · exact this
theorem textT_len (m : Nat) (l : List UInt8) : (textT m l).2.1 ≤ l.length := by
  by_cases h0 : (textT m l).2.2 = 0
  · exact textT_end h0
  · unfold textT at h0 ⊢
    split
    · exact Nat.zero_le _
    · split
      · exact Nat.zero_le _
      · split
        · exact Nat.zero_le _
        · rename_i g1 g2 g3
          rw [if_neg g1, if_neg g2, if_neg g3] at h0
          exact absurd rfl h0
theorem textT_bad0 {m : Nat} {l : List UInt8} (h : (textT m l).2.2 ≠ 0) : (textT m l).2.1 = 0 := by
  unfold textT at h ⊢
  split
  · rfl
  · split
    · rfl
    · split
      · rfl
      · rename_i g1 g2 g3
        rw [if_neg g1, if_neg g2, if_neg g3] at h
        exact absurd rfl h
def isStp (s : Stp) : Prop := s = ⟨1, 0⟩ ∨ s = ⟨2, 1048576⟩ ∨ s = ⟨3, 16⟩ ∨ s = ⟨4, 0⟩
def nextF (b : List UInt8) (g : Gt) (s : Stp) : Gt :=
  if g.e ≠ 0 then ⟨0, [], g.a, g.e⟩ else if s.kind = 1 then ⟨((tk (b.drop g.a)).1 : Nat), [], g.a + (tk (b.drop g.a)).2.1, (tk (b.drop g.a)).2.2⟩
  else if s.kind = 2 then ⟨IntKind.u64.wrap (rInt 1048576 (b.drop g.a)).1, [], g.a + (rInt 1048576 (b.drop g.a)).2.1, (rInt 1048576 (b.drop g.a)).2.2⟩
  else if s.kind = 3 then ⟨0, (textT 16 (b.drop g.a)).1, g.a + (textT 16 (b.drop g.a)).2.1, (textT 16 (b.drop g.a)).2.2⟩
  else ⟨0, b.drop g.a, b.length, 0⟩
theorem nextF_le {b : List UInt8} {g : Gt} (h : g.a ≤ b.length) (s : Stp) : (nextF b g s).a ≤ b.length := by
  have h1 := tk_len (b.drop g.a)
  have h2 := rInt_len 1048576 (b.drop g.a)
  have h3 := textT_len 16 (b.drop g.a)
  rw [List.length_drop] at h1 h2 h3
  unfold nextF
  split
  · exact h
  · split
    · show g.a + _ ≤ _
      omega
    · split
      · show g.a + _ ≤ _
        omega
      · split
        · show g.a + _ ≤ _
          omega
        · exact Nat.le_refl _
theorem refNext_c (b : List UInt8) (hb : b.length ≤ 9223372036854775807) (g : Gt) (hg : g.a ≤ b.length) (s : Stp) (hs : isStp s) :
    FnP Tryz.prog 196 [.s b, .agg (Gt.c g), .agg (Stp.c s)] (· = .agg (Gt.c (nextF b g s))) := by
  obtain ⟨n, t, a, e⟩ := g
  have h1 := tk_len (b.drop a)
  have h2 := rInt_len 1048576 (b.drop a)
  rw [List.length_drop] at h1 h2
  by_cases he : e = 0
  · subst he
    rcases hs with rfl | rfl | rfl | rfl
    · exact (next1_c b t n a 0 hg hb h1).mono (fun r hr => hr.trans (by simp [nextF, Gt.c]))
    · exact (next2_c b t n a 1048576 (by decide) hg hb h2).mono (fun r hr => hr.trans (by simp [nextF, Gt.c]))
    · exact (next3_c b t n a 16 (by decide) hg hb).mono (fun r hr => hr.trans (by simp [nextF, Gt.c]))
    · exact (next4_c b t n a 0 hg hb).mono (fun r hr => hr.trans (by simp [nextF, Gt.c]))
  · exact (next_err b t n a e s.kind s.most he).mono (fun r hr => hr.trans (by simp [nextF, Gt.c, he]))
def gots (b : List UInt8) : Gt → List Stp → List Gt
  | _, [] => []
  | g, s :: l => nextF b g s :: gots b (nextF b g s) l
def lastG (b : List UInt8) : Gt → List Stp → Gt
  | g, [] => g
  | g, s :: l => lastG b (nextF b g s) l
theorem gots_snoc (b : List UInt8) (s : Stp) : ∀ (l : List Stp) (g : Gt), gots b g (l ++ [s]) = gots b g l ++ [nextF b (lastG b g l) s]
  | [], _ => rfl
  | x :: l, g => congrArg (nextF b g x :: ·) (gots_snoc b s l _)
theorem lastG_snoc (b : List UInt8) (s : Stp) : ∀ (l : List Stp) (g : Gt), lastG b g (l ++ [s]) = nextF b (lastG b g l) s
  | [], _ => rfl
  | x :: l, g => lastG_snoc b s l _
theorem gots_len (b : List UInt8) : ∀ (l : List Stp) (g : Gt), (gots b g l).length = l.length
  | [], _ => rfl
  | x :: l, g => by simp only [gots, List.length_cons, gots_len b l]
theorem lastG_le {b : List UInt8} : ∀ (l : List Stp) (g : Gt), g.a ≤ b.length → (lastG b g l).a ≤ b.length
  | [], _, h => h
  | x :: l, g, h => lastG_le l _ (nextF_le h x)
def okS (b : List UInt8) (g : Gt) : Bool := cond (g.e == 0) (((g.a : Nat) : Int) == ((b.length : Nat) : Int)) false
theorem steps_c (b : List UInt8) (hb : b.length ≤ 9223372036854775807) (ss : List Stp) (hl : ss.length ≤ 5) (hs : ∀ s ∈ ss, isStp s) :
    FnP Tryz.prog 144 [.s b, SL 2 Stp.c ss] (· = .tup [SL 4 Gt.c (gots b default ss), B (okS b (lastG b default ss))]) := by
  refine FnP.intro Tryz.tabOK Tryz.wide_ Tryz.func144 rfl (by decide) rfl (fun X => ?_)
  repeat (first | refine sc rfl ?_ | refine so rfl ?_ | refine sb rfl ?_)
  refine C_le _ (Le.nilvec Gt.c 6 25 268 4 rfl rfl rfl) ?_
  refine C_loop (fun i : Nat => ⟨[(0, .s b), (1, SL 2 Stp.c ss), (6, .own 25), (7, .bp 7 0), (8, I64 (i : Nat))], [VEC 25 268 4 Gt.c (gots b default (ss.take i)), .box 7 268 (Gt.c (lastG b default (ss.take i)))]⟩) (fun i => i ≤ ss.length) (fun i => ss.length - i) 0 (Nat.zero_le _) (Le.sub [25, 7] ⟨rfl, rfl, rfl, rfl, rfl, trivial⟩ rfl) ?_
  intro i hi
  repeat (first | refine sc rfl ?_ | refine so rfl ?_ | refine sb rfl ?_)
  refine C_if rfl (fun m1 => ?_) (fun m1 => ?_) <;> simp only [decide_eq_true_eq, decide_eq_false_iff_not, Bool.not_eq_true', Bool.not_eq_false', beq_iff_eq, beq_eq_false_iff_ne, bne_iff_ne, ne_eq, bne_eq_false_iff_eq, Decidable.not_not] at m1
  · have hil : i < ss.length := by omega
    have htk : ss.take (i + 1) = ss.take i ++ [ss.getD i default] := by rw [List.take_succ_eq_append_getElem hil, getD_at45 hil]
    have hmem : ss.getD i default ∈ ss := by rw [getD_at45 hil]; exact List.getElem_mem hil
    have hgl := gots_len b (ss.take i) default
    rw [List.length_take] at hgl
    repeat (first | refine sc rfl ?_ | refine so rfl ?_ | refine sb rfl ?_)
    refine C_drawU 20 7 rfl (by kernel_rfl) (by kernel_rfl) (by kernel_rfl) ?_
    repeat (first | refine sd rfl ?_ | refine sdb rfl ?_ | refine sds rfl ?_)
    refine ⟨by omega, ?_⟩
    rw [Int.toNat_natCast]
    repeat (first | refine sd rfl ?_ | refine sdb rfl ?_ | refine sds rfl ?_)
    refine D_call (refNext_c b hb (lastG b default (ss.take i)) (lastG_le _ _ (Nat.zero_le _)) (ss.getD i default) (hs _ hmem)) rfl rfl rfl rfl ?_
    repeat (first | refine sd rfl ?_ | refine sdb rfl ?_ | refine sds rfl ?_)
    repeat (first | refine sc rfl ?_ | refine so rfl ?_ | refine sb rfl ?_)
    refine O_push Gt.c (gots b default (ss.take i)) (nextF b (lastG b default (ss.take i)) (ss.getD i default)) [(0, .s b), (1, SL 2 Stp.c ss), (7, .bp 7 0), (8, I64 (i : Nat))] rfl rfl rfl rfl rfl rfl rfl rfl rfl rfl ⟨rfl, rfl, rfl, rfl, trivial⟩ rfl rfl (by omega) (by simp only [maxLen]; omega) ?_
    rw [← gots_snoc, ← lastG_snoc, ← htk]
    repeat (first | refine sc rfl ?_ | refine so rfl ?_ | refine sb rfl ?_)
    rw [w64 (x := (i : Int) + 1) (by omega) (by omega)]
    exact ⟨i + 1, hil, by omega, Le.sub [25, 7] ⟨rfl, rfl, rfl, rfl, rfl, trivial⟩ rfl⟩
  · obtain rfl : i = ss.length := by omega
    rw [List.take_length]
    refine C_le _ (Le.freezeL (cells := Gt.c) 6 rfl rfl) ?_
    repeat (first | refine sc rfl ?_ | refine so rfl ?_ | refine sb rfl ?_)
    generalize lastG b default ss = g
    unfold okS
    refine C_drawD rfl (by kernel_rfl) ?_
    repeat (first | refine sd rfl ?_ | refine sdb rfl ?_ | refine sds rfl ?_)
    refine D_case 4 rfl (fun m2 => ?_) (fun m2 => ?_)
    · rw [m2]
      repeat (first | refine sd rfl ?_ | refine sdb rfl ?_ | refine sds rfl ?_)
      repeat (first | refine sc rfl ?_ | refine so rfl ?_ | refine sb rfl ?_)
      exact ⟨_, rfl, rfl, rfl⟩
    · rw [m2]
      repeat (first | refine sd rfl ?_ | refine sdb rfl ?_ | refine sds rfl ?_)
      repeat (first | refine sc rfl ?_ | refine so rfl ?_ | refine sb rfl ?_)
      exact ⟨_, rfl, rfl, rfl⟩
end Go.Proofs

/- The document's ids. -/
set_option linter.unusedSimpArgs false
set_option linter.unusedVariables false
set_option maxRecDepth 100000
namespace Go.Proofs
open Go.Sy Go.Lib

abbrev s1 : Stp := ⟨1, 0⟩
abbrev s2 : Stp := ⟨2, 1048576⟩
abbrev s3 : Stp := ⟨3, 16⟩
abbrev s4 : Stp := ⟨4, 0⟩
def okQ (b : List UInt8) (ss : List Stp) : Bool := okS b (lastG b default ss)
def idQ (b : List UInt8) (ss : List Stp) : Int := cond (okQ b ss) (nextF b default s1).n 0
def eQ (b : List UInt8) (ss : List Stp) : Int := cond (okQ b ss) 0 1
theorem refCall_c (b : List UInt8) (hb : b.length ≤ 9223372036854775807) : FnP Tryz.prog 94 [.s b] (fun r => ∃ c : Cal, r = .tup [.agg (Cal.c c), I64 (eQ b [s1, s2, s2, s4])] ∧ c.id = idQ b [s1, s2, s2, s4]) := by
  refine FnP.intro Tryz.tabOK Tryz.wide_ Tryz.func94 rfl (by decide) rfl (fun X => ?_)
  repeat (first | refine sc rfl ?_ | refine so rfl ?_ | refine sb rfl ?_)
  refine O_le _ (Le.vecrow (k := 14) 4 (fun i => Stp.c (([s1, s2, s2, s4] : List Stp).getD i default)) rfl rfl (fun i hi => ?_)) ?_
  · have hi' : i < 4 := hi
    have : i = 0 ∨ i = 1 ∨ i = 2 ∨ i = 3 := by omega
    rcases this with rfl | rfl | rfl | rfl <;> rfl
  refine O_le _ (Le.freezeL (l := [s1, s2, s2, s4]) (cells := Stp.c) 14 rfl rfl) ?_
  refine O_call (steps_c b hb [s1, s2, s2, s4] (by decide) (by simp [isStp])) (by rfl) (by rfl) (by rfl) (by rfl) (fun r' hr => ?_)
  subst hr
  unfold eQ idQ okQ
  generalize okS b (lastG b default [s1, s2, s2, s4]) = ok
  show SymO _ _ _ _ _ _
  simp only [gots]
  generalize hg : nextF b default s1 = g1
  generalize nextF b g1 s2 = g2
  generalize nextF b g2 s2 = g3
  generalize nextF b g3 s4 = g4
  repeat (first | refine sc rfl ?_ | refine so rfl ?_ | refine sb rfl ?_)
  cases ok with
  | false =>
    refine C_true rfl rfl ?_
    repeat (first | refine sc rfl ?_ | refine so rfl ?_ | refine sb rfl ?_)
    exact ⟨_, rfl, rfl, default, rfl, rfl⟩
  | true =>
    refine C_false rfl rfl ?_
    repeat (first | refine sc rfl ?_ | refine so rfl ?_ | refine sb rfl ?_)
    refine C_drawU 20 19 rfl (by kernel_rfl) (by kernel_rfl) (by kernel_rfl) ?_
    repeat (first | refine sd rfl ?_ | refine sdb rfl ?_ | refine sds rfl ?_)
    refine ⟨by simp, ?_⟩
    repeat (first | refine sd rfl ?_ | refine sdb rfl ?_ | refine sds rfl ?_)
    refine ⟨by simp, ?_⟩
    repeat (first | refine sd rfl ?_ | refine sdb rfl ?_ | refine sds rfl ?_)
    refine ⟨by simp, ?_⟩
    repeat (first | refine sd rfl ?_ | refine sdb rfl ?_ | refine sds rfl ?_)
    refine ⟨by simp, ?_⟩
    repeat (first | refine sd rfl ?_ | refine sdb rfl ?_ | refine sds rfl ?_)
    repeat (first | refine sc rfl ?_ | refine so rfl ?_ | refine sb rfl ?_)
    exact ⟨_, rfl, rfl, ⟨g1.n, IntKind.i64.wrap g2.n, IntKind.i64.wrap g3.n, g4.t⟩, rfl, rfl⟩
theorem refCancel_c (b : List UInt8) (hb : b.length ≤ 9223372036854775807) : FnP Tryz.prog 95 [.s b] (· = .tup [U64 (idQ b [s1]), I64 (eQ b [s1])]) := by
  refine FnP.intro Tryz.tabOK Tryz.wide_ Tryz.func95 rfl (by decide) rfl (fun X => ?_)
  repeat (first | refine sc rfl ?_ | refine so rfl ?_ | refine sb rfl ?_)
  refine O_le _ (Le.vecrow (k := 9) 1 (fun i => Stp.c (([s1] : List Stp).getD i default)) rfl rfl (fun i hi => ?_)) ?_
  · have hi' : i < 1 := hi
    have : i = 0 := by omega
    subst this; rfl
  refine O_le _ (Le.freezeL (l := [s1]) (cells := Stp.c) 9 rfl rfl) ?_
  refine O_call (steps_c b hb [s1] (by decide) (by simp [isStp])) (by rfl) (by rfl) (by rfl) (by rfl) (fun r' hr => ?_)
  subst hr
  unfold eQ idQ okQ
  generalize okS b (lastG b default [s1]) = ok
  simp only [gots]
  generalize hg : nextF b default s1 = g1
  repeat (first | refine sc rfl ?_ | refine so rfl ?_ | refine sb rfl ?_)
  cases ok with
  | false =>
    refine C_true rfl rfl ?_
    repeat (first | refine sc rfl ?_ | refine so rfl ?_ | refine sb rfl ?_)
    exact ⟨_, rfl, rfl, rfl⟩
  | true =>
    refine C_false rfl rfl ?_
    repeat (first | refine sc rfl ?_ | refine so rfl ?_ | refine sb rfl ?_)
    refine ⟨by simp, ?_⟩
    repeat (first | refine sc rfl ?_ | refine so rfl ?_ | refine sb rfl ?_)
    exact ⟨_, rfl, rfl, rfl⟩
theorem refSchema_c (b : List UInt8) (hb : b.length ≤ 9223372036854775807) : FnP Tryz.prog 96 [.s b] (fun r => ∃ t, r = .tup [U64 (idQ b [s1, s4]), .s t, I64 (eQ b [s1, s4])]) := by
  refine FnP.intro Tryz.tabOK Tryz.wide_ Tryz.func96 rfl (by decide) rfl (fun X => ?_)
  repeat (first | refine sc rfl ?_ | refine so rfl ?_ | refine sb rfl ?_)
  refine O_le _ (Le.vecrow (k := 11) 2 (fun i => Stp.c (([s1, s4] : List Stp).getD i default)) rfl rfl (fun i hi => ?_)) ?_
  · have hi' : i < 2 := hi
    have : i = 0 ∨ i = 1 := by omega
    rcases this with rfl | rfl <;> rfl
  refine O_le _ (Le.freezeL (l := [s1, s4]) (cells := Stp.c) 11 rfl rfl) ?_
  refine O_call (steps_c b hb [s1, s4] (by decide) (by simp [isStp])) (by rfl) (by rfl) (by rfl) (by rfl) (fun r' hr => ?_)
  subst hr
  unfold eQ idQ okQ
  generalize okS b (lastG b default [s1, s4]) = ok
  simp only [gots]
  generalize hg : nextF b default s1 = g1
  generalize nextF b g1 s4 = g2
  repeat (first | refine sc rfl ?_ | refine so rfl ?_ | refine sb rfl ?_)
  cases ok with
  | false =>
    refine C_true rfl rfl ?_
    repeat (first | refine sc rfl ?_ | refine so rfl ?_ | refine sb rfl ?_)
    exact ⟨_, rfl, rfl, [], rfl⟩
  | true =>
    refine C_false rfl rfl ?_
    repeat (first | refine sc rfl ?_ | refine so rfl ?_ | refine sb rfl ?_)
    refine C_drawD rfl (by kernel_rfl) ?_
    repeat (first | refine sd rfl ?_ | refine sdb rfl ?_ | refine sds rfl ?_)
    refine ⟨by simp, ?_⟩
    repeat (first | refine sd rfl ?_ | refine sdb rfl ?_ | refine sds rfl ?_)
    refine ⟨by simp, ?_⟩
    repeat (first | refine sd rfl ?_ | refine sdb rfl ?_ | refine sds rfl ?_)
    repeat (first | refine sc rfl ?_ | refine so rfl ?_ | refine sb rfl ?_)
    exact ⟨_, rfl, rfl, g2.t, rfl⟩
theorem refBind_c (b : List UInt8) (hb : b.length ≤ 9223372036854775807) : FnP Tryz.prog 97 [.s b] (fun r => ∃ c : Bnd, r = .tup [.agg (Bnd.c c), I64 (eQ b [s1, s2, s3, s3, s2])] ∧ c.id = idQ b [s1, s2, s3, s3, s2]) := by
  refine FnP.intro Tryz.tabOK Tryz.wide_ Tryz.func97 rfl (by decide) rfl (fun X => ?_)
  repeat (first | refine sc rfl ?_ | refine so rfl ?_ | refine sb rfl ?_)
  refine O_le _ (Le.vecrow (k := 17) 5 (fun i => Stp.c (([s1, s2, s3, s3, s2] : List Stp).getD i default)) rfl rfl (fun i hi => ?_)) ?_
  · have hi' : i < 5 := hi
    have : i = 0 ∨ i = 1 ∨ i = 2 ∨ i = 3 ∨ i = 4 := by omega
    rcases this with rfl | rfl | rfl | rfl | rfl <;> rfl
  refine O_le _ (Le.freezeL (l := [s1, s2, s3, s3, s2]) (cells := Stp.c) 17 rfl rfl) ?_
  refine O_call (steps_c b hb [s1, s2, s3, s3, s2] (by decide) (by simp [isStp])) (by rfl) (by rfl) (by rfl) (by rfl) (fun r' hr => ?_)
  subst hr
  unfold eQ idQ okQ
  generalize okS b (lastG b default [s1, s2, s3, s3, s2]) = ok
  simp only [gots]
  generalize hg : nextF b default s1 = g1
  generalize nextF b g1 s2 = g2
  generalize nextF b g2 s3 = g3
  generalize nextF b g3 s3 = g4
  generalize nextF b g4 s2 = g5
  repeat (first | refine sc rfl ?_ | refine so rfl ?_ | refine sb rfl ?_)
  cases ok with
  | false =>
    refine C_true rfl rfl ?_
    repeat (first | refine sc rfl ?_ | refine so rfl ?_ | refine sb rfl ?_)
    exact ⟨_, rfl, rfl, default, rfl, rfl⟩
  | true =>
    refine C_false rfl rfl ?_
    repeat (first | refine sc rfl ?_ | refine so rfl ?_ | refine sb rfl ?_)
    refine C_drawU 30 23 rfl (by kernel_rfl) (by kernel_rfl) (by kernel_rfl) ?_
    repeat (first | refine sd rfl ?_ | refine sdb rfl ?_ | refine sds rfl ?_)
    refine ⟨by simp, ?_⟩
    repeat (first | refine sd rfl ?_ | refine sdb rfl ?_ | refine sds rfl ?_)
    refine ⟨by simp, ?_⟩
    repeat (first | refine sd rfl ?_ | refine sdb rfl ?_ | refine sds rfl ?_)
    refine ⟨by simp, ?_⟩
    repeat (first | refine sd rfl ?_ | refine sdb rfl ?_ | refine sds rfl ?_)
    refine ⟨by simp, ?_⟩
    repeat (first | refine sd rfl ?_ | refine sdb rfl ?_ | refine sds rfl ?_)
    refine ⟨by simp, ?_⟩
    repeat (first | refine sd rfl ?_ | refine sdb rfl ?_ | refine sds rfl ?_)
    repeat (first | refine sc rfl ?_ | refine so rfl ?_ | refine sb rfl ?_)
    exact ⟨_, rfl, rfl, ⟨g1.n, IntKind.i64.wrap g2.n, g3.t, g4.t, IntKind.i64.wrap g5.n⟩, rfl, rfl⟩
end Go.Proofs

/- The document's ids are the program's. -/
set_option linter.unusedSimpArgs false
set_option linter.unusedVariables false
set_option maxRecDepth 100000
namespace Go.Proofs
open Go.Sy Go.Lib

def Gt.st (g : Gt) : Nat × Int := (g.a, g.e)
theorem st_1 (b : List UInt8) : (nextF b default s1).st = stN b := by
  have h0 := fun h => (tkS_err 10 false b h).2
  change (tk b).2.2 ≠ 0 → (tk b).2.1 = 0 at h0
  show ((0 + (tk (b.drop 0)).2.1, (tk (b.drop 0)).2.2) : Nat × Int) = _
  rw [List.drop_zero]
  unfold stN rdAt rdE
  by_cases h : (tk b).2.2 = 0
  · simp [h]
  · simp [h, h0 h]
theorem st_2 (b : List UInt8) (g : Gt) : (nextF b g s2).st = stI b g.st := by
  obtain ⟨n, t, a, e⟩ := g
  unfold stI rdAt rdE Gt.st
  by_cases he : e = 0
  · subst he
    have h1 := rInt_intT 1048576 (by decide) (b.drop a)
    have h2 : (rInt 1048576 (b.drop a)).2.2 ≠ 0 → (rInt 1048576 (b.drop a)).2.1 = 0 := by
      unfold rInt
      split
      · intro; rfl
      · split
        · intro; rfl
        · intro h; exact absurd rfl h
    show ((a + (rInt 1048576 (b.drop a)).2.1, (rInt 1048576 (b.drop a)).2.2) : Nat × Int) = _
    by_cases h : (rInt 1048576 (b.drop a)).2.2 = 0
    · have h3 := (h1.2 h).1
      rw [h3] at h ⊢
      simp [h]
    · rw [h2 h, h1.1] 
      rw [h1.1] at h
      simp [h]
  · have : nextF b ⟨n, t, a, e⟩ s2 = ⟨0, [], a, e⟩ := if_pos he
    rw [this]
    simp [he]
theorem st_3 (b : List UInt8) (g : Gt) : (nextF b g s3).st = stT b g.st := by
  obtain ⟨n, t, a, e⟩ := g
  unfold stT rdAt rdE Gt.st
  by_cases he : e = 0
  · subst he
    have h2 := @textT_bad0 16 (b.drop a)
    show ((a + (textT 16 (b.drop a)).2.1, (textT 16 (b.drop a)).2.2) : Nat × Int) = _
    by_cases h : (textT 16 (b.drop a)).2.2 = 0
    · simp [h]
    · simp [h, h2 h]
  · have : nextF b ⟨n, t, a, e⟩ s3 = ⟨0, [], a, e⟩ := if_pos he
    rw [this]
    simp [he]
theorem st_4 (b : List UInt8) (g : Gt) (hg : g.a ≤ b.length) : (nextF b g s4).st = stR b g.st := by
  obtain ⟨n, t, a, e⟩ := g
  unfold stR rdAt rdE Gt.st
  by_cases he : e = 0
  · subst he
    show ((b.length, 0) : Nat × Int) = _
    have : a + (b.length - a) = b.length := by simp only [] at hg; omega
    simp [this]
  · have : nextF b ⟨n, t, a, e⟩ s4 = ⟨0, [], a, e⟩ := if_pos he
    rw [this]
    simp [he]
theorem eQ_done (b : List UInt8) (ss : List Stp) (q : Nat × Int) (h : (lastG b default ss).st = q) : eQ b ss = if rdDone b q.1 q.2 ≠ 0 then 1 else 0 := by
  subst h
  have hle := lastG_le (b := b) ss default (Nat.zero_le _)
  unfold eQ okQ okS rdDone Gt.st
  generalize lastG b default ss = g at *
  obtain ⟨n, t, a, e⟩ := g
  simp only [] at hle ⊢
  by_cases he : e = 0
  · subst he
    by_cases ha : a = b.length
    · subst ha
      simp
    · have h1 : a < b.length := by omega
      have h2 : ((a : Nat) : Int) ≠ ((b.length : Nat) : Int) := by omega
      simp [h1, h2, ha]
      rw [beq_eq_false_iff_ne.2 h2]; rfl
  · simp [he]
    rw [beq_eq_false_iff_ne.2 he]; rfl
theorem e_call (b : List UInt8) : eQ b [s1, s2, s2, s4] = callE b := eQ_done b _ _ (by
  show (nextF b (nextF b (nextF b (nextF b default s1) s2) s2) s4).st = _
  rw [st_4 b _ (nextF_le (nextF_le (nextF_le (Nat.zero_le _) _) _) _), st_2, st_2, st_1])
theorem e_bind (b : List UInt8) : eQ b [s1, s2, s3, s3, s2] = bindE b := eQ_done b _ _ (by
  show (nextF b (nextF b (nextF b (nextF b (nextF b default s1) s2) s3) s3) s2).st = _
  rw [st_2, st_3, st_3, st_2, st_1])
theorem e_canc (b : List UInt8) : eQ b [s1] = cancE b := eQ_done b _ _ (st_1 b)
theorem e_sch (b : List UInt8) : eQ b [s1, s4] = schE b := eQ_done b _ _ (by
  show (nextF b (nextF b default s1) s4).st = _
  rw [st_4 b _ (nextF_le (Nat.zero_le _) _), st_1])
theorem id_eq (b : List UInt8) (ss : List Stp) : idQ b ss = idV b (eQ b ss) := by
  have h0 := fun h => (tkS_err 10 false b h).1
  change (tk b).2.2 ≠ 0 → (tk b).1 = 0 at h0
  unfold idQ eQ idV
  cases okQ b ss with
  | false => rfl
  | true =>
    show (((tk (b.drop 0)).1 : Nat) : Int) = if (0 : Int) ≠ 0 then (0 : Int) else rdV (0 : Int) (((tk b).1 : Nat) : Int) 0 (tk b).2.2
    rw [if_neg (by decide), List.drop_zero]
    unfold rdV
    rw [if_neg (by decide)]
    by_cases h : (tk b).2.2 = 0
    · rw [if_neg (fun hh => hh h)]
    · rw [if_pos h, h0 h]; rfl
theorem asks_or (k : Int) : asks k = ((k == 2) || (k == 3) || (k == 4) || (k == 6) || (k == 7)) := by
  unfold asks AsksB_F
  cases (k == 2) <;> cases (k == 3) <;> cases (k == 4) <;> cases (k == 6) <;> cases (k == 7) <;> rfl
noncomputable def idD (k : Int) (b : List UInt8) : Int × Bool :=
  if k = 2 ∨ k = 3 then (idV b (callE b), callE b == 0) else if k = 4 then (idV b (cancE b), cancE b == 0) else if k = 6 then (idV b (schE b), schE b == 0) else (idV b (bindE b), bindE b == 0)
theorem ref36Id_c (k : Int) (b : List UInt8) (hb : b.length ≤ 9223372036854775807) : FnP Tryz.prog 40 [.agg [I64 k, I64 0, .s b]] (· = .tup [U64 (idD k b).1, B (idD k b).2]) := by
  refine FnP.intro Tryz.tabOK Tryz.wide_ Tryz.func40 rfl (by decide) rfl (fun X => ?_)
  unfold idD
  rw [← e_call, ← e_bind, ← e_canc, ← e_sch, ← id_eq, ← id_eq, ← id_eq, ← id_eq]
  repeat (first | refine sc rfl ?_ | refine so rfl ?_ | refine sb rfl ?_)
  refine C_if rfl (fun k2 => ?_) (fun k2 => ?_) <;> simp only [decide_eq_true_eq, decide_eq_false_iff_not, Bool.not_eq_true', Bool.not_eq_false', beq_iff_eq, beq_eq_false_iff_ne, bne_iff_ne, ne_eq, bne_eq_false_iff_eq, Decidable.not_not] at k2
  · rw [if_pos (.inl k2)]
    repeat (first | refine sc rfl ?_ | refine so rfl ?_ | refine sb rfl ?_)
    refine C_true rfl (by simp [k2]) ?_
    repeat (first | refine sc rfl ?_ | refine so rfl ?_ | refine sb rfl ?_)
    refine O_call (refCall_c b hb) (by rfl) (by rfl) (by rfl) (by rfl) (fun r' hr => ?_)
    obtain ⟨c, rfl, hc⟩ := hr
    rw [← hc]
    repeat (first | refine sc rfl ?_ | refine so rfl ?_ | refine sb rfl ?_)
    exact ⟨_, rfl, rfl, rfl⟩
  repeat (first | refine sc rfl ?_ | refine so rfl ?_ | refine sb rfl ?_)
  refine C_if rfl (fun k3 => ?_) (fun k3 => ?_) <;> simp only [decide_eq_true_eq, decide_eq_false_iff_not, Bool.not_eq_true', Bool.not_eq_false', beq_iff_eq, beq_eq_false_iff_ne, bne_iff_ne, ne_eq, bne_eq_false_iff_eq, Decidable.not_not] at k3
  · rw [if_pos (.inr k3)]
    repeat (first | refine sc rfl ?_ | refine so rfl ?_ | refine sb rfl ?_)
    refine O_call (refCall_c b hb) (by rfl) (by rfl) (by rfl) (by rfl) (fun r' hr => ?_)
    obtain ⟨c, rfl, hc⟩ := hr
    rw [← hc]
    repeat (first | refine sc rfl ?_ | refine so rfl ?_ | refine sb rfl ?_)
    exact ⟨_, rfl, rfl, rfl⟩
  rw [if_neg (fun h => h.elim k2 k3)]
  repeat (first | refine sc rfl ?_ | refine so rfl ?_ | refine sb rfl ?_)
  refine C_if rfl (fun k4 => ?_) (fun k4 => ?_) <;> simp only [decide_eq_true_eq, decide_eq_false_iff_not, Bool.not_eq_true', Bool.not_eq_false', beq_iff_eq, beq_eq_false_iff_ne, bne_iff_ne, ne_eq, bne_eq_false_iff_eq, Decidable.not_not] at k4
  · rw [if_pos k4]
    repeat (first | refine sc rfl ?_ | refine so rfl ?_ | refine sb rfl ?_)
    refine O_call (refCancel_c b hb) (by rfl) (by rfl) (by rfl) (by rfl) (fun r' hr => ?_)
    subst hr
    repeat (first | refine sc rfl ?_ | refine so rfl ?_ | refine sb rfl ?_)
    exact ⟨_, rfl, rfl, rfl⟩
  rw [if_neg k4]
  repeat (first | refine sc rfl ?_ | refine so rfl ?_ | refine sb rfl ?_)
  refine C_if rfl (fun k6 => ?_) (fun k6 => ?_) <;> simp only [decide_eq_true_eq, decide_eq_false_iff_not, Bool.not_eq_true', Bool.not_eq_false', beq_iff_eq, beq_eq_false_iff_ne, bne_iff_ne, ne_eq, bne_eq_false_iff_eq, Decidable.not_not] at k6
  · rw [if_pos k6]
    repeat (first | refine sc rfl ?_ | refine so rfl ?_ | refine sb rfl ?_)
    refine O_call (refSchema_c b hb) (by rfl) (by rfl) (by rfl) (by rfl) (fun r' hr => ?_)
    obtain ⟨s, rfl⟩ := hr
    repeat (first | refine sc rfl ?_ | refine so rfl ?_ | refine sb rfl ?_)
    exact ⟨_, rfl, rfl, rfl⟩
  rw [if_neg k6]
  repeat (first | refine sc rfl ?_ | refine so rfl ?_ | refine sb rfl ?_)
  refine O_call (refBind_c b hb) (by rfl) (by rfl) (by rfl) (by rfl) (fun r' hr => ?_)
  obtain ⟨c, rfl, hc⟩ := hr
  rw [← hc]
  repeat (first | refine sc rfl ?_ | refine so rfl ?_ | refine sb rfl ?_)
  exact ⟨_, rfl, rfl, rfl⟩
theorem refId_c (x : Nte) (hb : x.body.length ≤ 9223372036854775807) : FnP Tryz.prog 10 [.agg (Nte.c x)] (· = .tup [U64 (idF x).1, B (idF x).2]) := by
  refine FnP.intro Tryz.tabOK Tryz.wide_ Tryz.func10 rfl (by decide) rfl (fun X => ?_)
  repeat (first | refine sc rfl ?_ | refine so rfl ?_ | refine sb rfl ?_)
  refine O_call (AsksR_w x.kind _ (asksR_some x.kind)) (by rfl) (by rfl) (by rfl) (by rfl) (fun r' hr => ?_)
  subst hr
  have ho := asks_or x.kind
  repeat (first | refine sc rfl ?_ | refine so rfl ?_ | refine sb rfl ?_)
  refine C_if rfl (fun k1 => ?_) (fun k1 => ?_) <;> simp only [decide_eq_true_eq, decide_eq_false_iff_not, Bool.not_eq_true', Bool.not_eq_false', beq_iff_eq, beq_eq_false_iff_ne, bne_iff_ne, ne_eq, bne_eq_false_iff_eq, Decidable.not_not] at k1
  · rw [k1] at ho
    simp at ho
    obtain ⟨⟨⟨⟨g2, g3⟩, g4⟩, g6⟩, g7⟩ := ho
    have hF : idF x = (0, false) := by
      unfold idF
      rw [if_neg (fun h => h.elim g2 g3), if_neg g4, if_neg g6, if_neg g7]
    rw [hF]
    repeat (first | refine sc rfl ?_ | refine so rfl ?_ | refine sb rfl ?_)
    exact ⟨_, rfl, rfl, rfl⟩
  · rw [k1] at ho
    have hF : idF x = idD x.kind x.body := by
      unfold idF idD
      by_cases h2 : x.kind = 2 ∨ x.kind = 3
      · rw [if_pos h2, if_pos h2]
      · rw [if_neg h2, if_neg h2]
        by_cases h4 : x.kind = 4
        · rw [if_pos h4, if_pos h4]
        · rw [if_neg h4, if_neg h4]
          by_cases h6 : x.kind = 6
          · rw [if_pos h6, if_pos h6]
          · rw [if_neg h6, if_neg h6]
            have h7 : x.kind = 7 := by
              simp at ho
              omega
            rw [if_pos h7]
    rw [hF]
    repeat (first | refine sc rfl ?_ | refine so rfl ?_ | refine sb rfl ?_)
    refine O_call (ref36Id_c x.kind x.body hb) (by rfl) (by rfl) (by rfl) (by rfl) (fun r' hr => ?_)
    subst hr
    repeat (first | refine sc rfl ?_ | refine so rfl ?_ | refine sb rfl ?_)
    exact ⟨_, rfl, rfl, rfl⟩
end Go.Proofs

/- TraceAsks: the law. -/
set_option linter.unusedSimpArgs false
set_option linter.unusedVariables false
set_option maxRecDepth 100000
namespace Go.Proofs
open Go.Sy Go.Lib

theorem traceAsks_c (l : List Rw) (hbd : ∀ i, i < l.length → (l.getD i default).note.body.length ≤ 9223372036854775807) (hmx : l.length ≤ 9223372036854775807) (o : Int) : FnP Tryz.prog 3 [SL 8 Rw.c l, I64 o] (· = B true) := by
  refine FnP.intro Tryz.tabOK Tryz.wide_ Tryz.func3 rfl (by decide) rfl (fun X => ?_)
  repeat (first | refine sc rfl ?_ | refine so rfl ?_ | refine sb rfl ?_)
  refine C_if rfl (fun m0 => ?_) (fun m0 => ?_) <;> simp only [decide_eq_true_eq, decide_eq_false_iff_not, Bool.not_eq_true', Bool.not_eq_false', beq_iff_eq, beq_eq_false_iff_ne, bne_iff_ne, ne_eq, bne_eq_false_iff_eq, Decidable.not_not] at m0
  · repeat (first | refine sc rfl ?_ | refine so rfl ?_ | refine sb rfl ?_)
    refine O_call awake45_A.toP (by rfl) (by rfl) (by rfl) (by rfl) (fun r' hr => ?_)
    obtain ⟨_, rfl, _⟩ := hr
    repeat (first | refine sc rfl ?_ | refine so rfl ?_ | refine sb rfl ?_)
    exact ⟨_, rfl, rfl, rfl⟩
  have hl : l.length ≤ 300 := by omega
  have hp := fun p => Nat.le_trans (pickF_len p l) hl
  have hd : (lastF o l).length ≤ 300 := by unfold lastF; rw [List.length_drop]; omega
  repeat (first | refine sc rfl ?_ | refine so rfl ?_ | refine sb rfl ?_)
  refine O_call (rows45_c l hl) (by rfl) (by rfl) (by rfl) (by rfl) (fun r' hr => ?_)
  subst hr
  repeat (first | refine sc rfl ?_ | refine so rfl ?_ | refine sb rfl ?_)
  refine C_loop (fun i : Nat => ⟨[(0, SL 8 Rw.c l), (1, I64 o), (5, SL 8 Rw.c l), (6, I64 (i : Nat))], []⟩) (fun i => i ≤ l.length) (fun i => l.length - i) 0 (Nat.zero_le _) (Le.sub [] ⟨rfl, rfl, rfl, rfl, trivial⟩ rfl) ?_
  intro i hi
  repeat (first | refine sc rfl ?_ | refine so rfl ?_ | refine sb rfl ?_)
  refine C_if rfl (fun m1 => ?_) (fun m1 => ?_) <;> simp only [decide_eq_true_eq, decide_eq_false_iff_not, Bool.not_eq_true', Bool.not_eq_false', beq_iff_eq, beq_eq_false_iff_ne, bne_iff_ne, ne_eq, bne_eq_false_iff_eq, Decidable.not_not] at m1
  · have hil : i < l.length := by omega
    have hx := hbd i hil
    obtain ⟨x, hxe⟩ : ∃ x, l.getD i default = x := ⟨_, rfl⟩
    rw [hxe] at hx
    repeat (first | refine sc rfl ?_ | refine so rfl ?_ | refine sb rfl ?_)
    refine ⟨by omega, ?_⟩
    simp only [Int.toNat_natCast, hxe]
    repeat (first | refine sc rfl ?_ | refine so rfl ?_ | refine sb rfl ?_)
    refine O_call (trDone_c x hx) (by rfl) (by rfl) (by rfl) (by rfl) (fun r' hr => ?_)
    subst hr
    repeat (first | refine sc rfl ?_ | refine so rfl ?_ | refine sb rfl ?_)
    refine ⟨by omega, ?_⟩
    simp only [Int.toNat_natCast, hxe]
    repeat (first | refine sc rfl ?_ | refine so rfl ?_ | refine sb rfl ?_)
    refine O_call (refDone_c x hx) (by rfl) (by rfl) (by rfl) (by rfl) (fun r' hr => ?_)
    subst hr
    repeat (first | refine sc rfl ?_ | refine so rfl ?_ | refine sb rfl ?_)
    refine ⟨by omega, ?_⟩
    simp only [Int.toNat_natCast, hxe]
    repeat (first | refine sc rfl ?_ | refine so rfl ?_ | refine sb rfl ?_)
    refine O_call (id_c x.note hx) (by rfl) (by rfl) (by rfl) (by rfl) (fun r' hr => ?_)
    subst hr
    repeat (first | refine sc rfl ?_ | refine so rfl ?_ | refine sb rfl ?_)
    refine ⟨by omega, ?_⟩
    simp only [Int.toNat_natCast, hxe]
    repeat (first | refine sc rfl ?_ | refine so rfl ?_ | refine sb rfl ?_)
    refine O_call (refId_c x.note hx) (by rfl) (by rfl) (by rfl) (by rfl) (fun r' hr => ?_)
    subst hr
    repeat (first | refine sc rfl ?_ | refine so rfl ?_ | refine sb rfl ?_)
    refine O_false 64 rfl (by simp) ?_
    repeat (first | refine sc rfl ?_ | refine so rfl ?_ | refine sb rfl ?_)
    refine O_Xd (X_aggC (us := ordV (trDoneF x).1) (vs := ordV (trDoneF x).1) (b := true) (op := .neq) (fun e ys h => rep_ord _ e ys h) (fun e ys h => rep_ord _ e ys h) (fun w => eq_ord _ w) Tryz.eqGuardType30 (.inr rfl) rfl rfl rfl rfl) ?_
    repeat (first | refine sc rfl ?_ | refine so rfl ?_ | refine sb rfl ?_)
    refine O_false 82 rfl (by simp) ?_
    repeat (first | refine sc rfl ?_ | refine so rfl ?_ | refine sb rfl ?_)
    refine C_false rfl (by simp) ?_
    repeat (first | refine sc rfl ?_ | refine so rfl ?_ | refine sb rfl ?_)
    rw [w64 (x := (i : Int) + 1) (by omega) (by omega)]
    exact ⟨i + 1, hil, by omega, Le.sub [] ⟨rfl, rfl, rfl, rfl, trivial⟩ rfl⟩
  · repeat (first | refine sc rfl ?_ | refine so rfl ?_ | refine sb rfl ?_)
    refine O_call (came_c o l hl) (by rfl) (by rfl) (by rfl) (by rfl) (fun r' hr => ?_)
    subst hr
    repeat (first | refine sc rfl ?_ | refine so rfl ?_ | refine sb rfl ?_)
    refine O_call (notesF_c l hl o) (by rfl) (by rfl) (by rfl) (by rfl) (fun r' hr => ?_)
    subst hr
    refine O_call (noted_same (pickF (cameB o) l) (hp _)) (by rfl) (by rfl) (by rfl) (by rfl) (fun r' hr => ?_)
    subst hr
    repeat (first | refine sc rfl ?_ | refine so rfl ?_ | refine sb rfl ?_)
    refine O_call (served_c o l hl) (by rfl) (by rfl) (by rfl) (by rfl) (fun r' hr => ?_)
    subst hr
    repeat (first | refine sc rfl ?_ | refine so rfl ?_ | refine sb rfl ?_)
    refine O_call (notesT_c l hl o) (by rfl) (by rfl) (by rfl) (by rfl) (fun r' hr => ?_)
    subst hr
    refine O_call (noted_same (pickF (servedB o) l) (hp _)) (by rfl) (by rfl) (by rfl) (by rfl) (fun r' hr => ?_)
    subst hr
    repeat (first | refine sc rfl ?_ | refine so rfl ?_ | refine sb rfl ?_)
    refine O_call (last_c l hl hbd o) (by rfl) (by rfl) (by rfl) (by rfl) (fun r' hr => ?_)
    subst hr
    repeat (first | refine sc rfl ?_ | refine so rfl ?_ | refine sb rfl ?_)
    refine O_call (lastR_c l hl hbd o) (by rfl) (by rfl) (by rfl) (by rfl) (fun r' hr => ?_)
    subst hr
    refine O_call (alike_same (lastF o l) hd) (by rfl) (by rfl) (by rfl) (by rfl) (fun r' hr => ?_)
    subst hr
    repeat (first | refine sc rfl ?_ | refine so rfl ?_ | refine sb rfl ?_)
    refine O_call awake45_A.toP (by rfl) (by rfl) (by rfl) (by rfl) (fun r' hr => ?_)
    obtain ⟨_, rfl, _⟩ := hr
    repeat (first | refine sc rfl ?_ | refine so rfl ?_ | refine sb rfl ?_)
    exact ⟨_, rfl, rfl, rfl⟩
end Go.Proofs
