/- Contracts of span: numbers, what is left, the end. -/
import Derived.Test.YtgmdpfoccnalnaaGreatE7
import Derived.Test.YtgmdpfoccnalnaaGreatE4
import Derived.Test.YtgmdpfoccnalnaaGreatE5
set_option linter.unusedSimpArgs false
set_option linter.unusedVariables false
set_option maxRecDepth 100000
namespace Go.Proofs
open Go.Sy Go.Lib

/-- A number that is not too great, of bytes. -/
def intT (m : Nat) (l : List UInt8) : Int × Nat × Int := (IntKind.i64.wrap ((tk l).1 : Nat), (tk l).2.1, if (tk l).2.2 = 0 ∧ m < (tk l).1 then 3 else (tk l).2.2)

theorem IntF_p (m : Nat) (hm : m ≤ 9223372036854775807) (l : List UInt8) (hl : l.length ≤ 9223372036854775807) : FnP Tryz.prog 230 [.s l, .cp [I64 (m : Nat)]]
    (· = .tup [I64 (intT m l).1, I64 (((intT m l).2.1 : Nat) : Int), I64 (intT m l).2.2]) := by
  refine FnP.intro Tryz.tabOK Tryz.wide_ Tryz.func230 rfl (by decide) rfl (fun X => ?_)
  unfold intT
  repeat (first | refine sc rfl ?_ | refine so rfl ?_ | refine sb rfl ?_)
  refine O_call (vTake_p l hl) (by rfl) (by rfl) (by rfl) (by rfl) (fun r hr => ?_)
  subst hr
  obtain ⟨n, k, e, ht⟩ : ∃ n k e, tk l = (n, k, e) := ⟨_, _, _, rfl⟩
  rw [ht]
  simp only []
  repeat (first | refine sc rfl ?_ | refine so rfl ?_ | refine sb rfl ?_)
  refine O_join ⟨[(6, U64 (n : Nat)), (7, I64 (k : Nat)), (8, I64 e), (23, B (decide (e = 0 ∧ m < n)))], []⟩ ?_ (fun s h => C_le _ h ?_)
  · have fin2 : ∀ x : Bool, x = decide (e = 0 ∧ m < n) → some (B x) = some (B (decide (e = 0 ∧ m < n))) := fun x hb => by rw [hb]
    refine O_case 17 rfl (fun h5 => ?_) (fun h5 => ?_) <;> simp at h5 <;> repeat (first | refine sc rfl ?_ | refine so rfl ?_ | refine sb rfl ?_)
    · rw [show max (m : Int) 0 = (m : Int) by omega, u64wrap (x := (m : Int)) (by omega) (by omega)]
      refine Le.sub [] ⟨rfl, rfl, rfl, fin2 _ ?_, trivial⟩ rfl
      rw [Bool.eq_iff_iff, decide_eq_true_eq, decide_eq_true_eq]
      omega
    · exact Le.sub [] ⟨rfl, rfl, rfl, fin2 _ (by rw [Bool.eq_iff_iff]; simp; omega), trivial⟩ rfl
  refine C_ifJ ⟨[(6, U64 (n : Nat)), (7, I64 (k : Nat)), (8, I64 (if e = 0 ∧ m < n then 3 else e))], []⟩ rfl (fun h1 => ?_) (fun h1 => ?_) (fun s h => C_le _ h ?_)
  · rw [if_pos (of_decide_eq_true h1)]
    repeat (first | refine sc rfl ?_ | refine so rfl ?_ | refine sb rfl ?_)
    exact Le.sub [] ⟨rfl, rfl, rfl, trivial⟩ rfl
  · rw [if_neg (of_decide_eq_false h1)]
    repeat (first | refine sc rfl ?_ | refine so rfl ?_ | refine sb rfl ?_)
    exact Le.sub [] ⟨rfl, rfl, rfl, trivial⟩ rfl
  repeat (first | refine sc rfl ?_ | refine so rfl ?_ | refine sb rfl ?_)
  exact ⟨_, rfl, rfl, rfl⟩

theorem Read_A0 (b : List UInt8) : FnA Tryz.prog 163 [.s b] [] (fun r cs' => ∃ g, r = PT g 0 ∧ cs' = [rdr g b 0 0]) := by
  refine FnA.intro Tryz.tabOK Tryz.wide_ Tryz.func163 rfl (by decide) rfl (fun X => ?_)
  iterate 11 (first | refine sc rfl ?_ | refine so rfl ?_ | refine sb rfl ?_)
  refine C_absb 2 rfl rfl rfl (fun g => ?_)
  repeat (first | refine sc rfl ?_ | refine so rfl ?_ | refine sb rfl ?_)
  first
    | exact ⟨_, [_], _, rfl, pickA_perm (is := [0]) (As := [_]) rfl, rfl, g, rfl, rfl⟩
    | exact ⟨_, [_], _, rfl, pickA_perm (is := [1]) (As := [_]) rfl, rfl, g, rfl, rfl⟩

theorem tk_end {l : List UInt8} (h : (tk l).2.2 = 0) : (tk l).2.1 ≤ l.length := by
  obtain ⟨n, k, e, ht⟩ : ∃ n k e, tk l = (n, k, e) := ⟨_, _, _, rfl⟩
  rw [ht] at h ⊢
  simp only [] at h
  subst h
  exact (tk_take ht).2.2.1

theorem Num_A (g : Nat) (b : List UInt8) (at_ : Nat) (e : Int) (hat : at_ ≤ b.length) (hb : b.length ≤ 9223372036854775807) :
    FnA Tryz.prog 164 [PT g 0] [rdr g b at_ e] (fun r cs' => r = U64 (rdV 0 ((tk (b.drop at_)).1 : Nat) e (tk (b.drop at_)).2.2) ∧ cs' = [rdr g b (rdAt at_ (tk (b.drop at_)).2.1 e (tk (b.drop at_)).2.2) (rdE e (tk (b.drop at_)).2.2)]) := by
  refine FnA.intro Tryz.tabOK Tryz.wide_ Tryz.func164 rfl (by decide) rfl (fun X => ?_)
  repeat (first | refine sc rfl ?_ | refine so rfl ?_ | refine sb rfl ?_)
  first
    | refine O_callA [0] (takeU_A g b at_ e (.v (.func (.func 228) #[] #[])) 228 [] (tk (b.drop at_)).2.1 (tk (b.drop at_)).2.2 ((tk (b.drop at_)).1 : Nat) (isClo_func 228) rfl hat (.inr ⟨_, rfl⟩) (fun _ => vTake_p (b.drop at_) (by simp; omega)) (fun _ h => by have := tk_end h; simp at this; omega) hb) (by rfl) (by rfl) (by rfl) (by rfl) (by rfl) ?_
    | refine O_callA [1] (takeU_A g b at_ e (.v (.func (.func 228) #[] #[])) 228 [] (tk (b.drop at_)).2.1 (tk (b.drop at_)).2.2 ((tk (b.drop at_)).1 : Nat) (isClo_func 228) rfl hat (.inr ⟨_, rfl⟩) (fun _ => vTake_p (b.drop at_) (by simp; omega)) (fun _ h => by have := tk_end h; simp at this; omega) hb) (by rfl) (by rfl) (by rfl) (by rfl) (by rfl) ?_
    | refine O_callA [2] (takeU_A g b at_ e (.v (.func (.func 228) #[] #[])) 228 [] (tk (b.drop at_)).2.1 (tk (b.drop at_)).2.2 ((tk (b.drop at_)).1 : Nat) (isClo_func 228) rfl hat (.inr ⟨_, rfl⟩) (fun _ => vTake_p (b.drop at_) (by simp; omega)) (fun _ h => by have := tk_end h; simp at this; omega) hb) (by rfl) (by rfl) (by rfl) (by rfl) (by rfl) ?_
    | refine O_callA [3] (takeU_A g b at_ e (.v (.func (.func 228) #[] #[])) 228 [] (tk (b.drop at_)).2.1 (tk (b.drop at_)).2.2 ((tk (b.drop at_)).1 : Nat) (isClo_func 228) rfl hat (.inr ⟨_, rfl⟩) (fun _ => vTake_p (b.drop at_) (by simp; omega)) (fun _ h => by have := tk_end h; simp at this; omega) hb) (by rfl) (by rfl) (by rfl) (by rfl) (by rfl) ?_
    | refine O_callA [4] (takeU_A g b at_ e (.v (.func (.func 228) #[] #[])) 228 [] (tk (b.drop at_)).2.1 (tk (b.drop at_)).2.2 ((tk (b.drop at_)).1 : Nat) (isClo_func 228) rfl hat (.inr ⟨_, rfl⟩) (fun _ => vTake_p (b.drop at_) (by simp; omega)) (fun _ h => by have := tk_end h; simp at this; omega) hb) (by rfl) (by rfl) (by rfl) (by rfl) (by rfl) ?_
  rintro r cs' ⟨rfl, rfl⟩
  repeat (first | refine sc rfl ?_ | refine so rfl ?_ | refine sb rfl ?_)
  first
    | exact ⟨_, [_], _, rfl, pickA_perm (is := [0]) (As := [_]) rfl, rfl, rfl, rfl⟩
    | exact ⟨_, [_], _, rfl, pickA_perm (is := [1]) (As := [_]) rfl, rfl, rfl, rfl⟩
    | exact ⟨_, [_], _, rfl, pickA_perm (is := [2]) (As := [_]) rfl, rfl, rfl, rfl⟩
    | exact ⟨_, [_], _, rfl, pickA_perm (is := [3]) (As := [_]) rfl, rfl, rfl, rfl⟩
    | exact ⟨_, [_], _, rfl, pickA_perm (is := [4]) (As := [_]) rfl, rfl, rfl, rfl⟩

theorem intT_end {m : Nat} {l : List UInt8} (h : (intT m l).2.2 = 0) : (intT m l).2.1 ≤ l.length := by
  unfold intT at h ⊢
  simp only [] at h ⊢
  split at h
  · cases h
  · exact tk_end h

theorem Int_A (g : Nat) (b : List UInt8) (at_ : Nat) (e : Int) (m : Nat) (hm : m ≤ 9223372036854775807) (hat : at_ ≤ b.length) (hb : b.length ≤ 9223372036854775807) :
    FnA Tryz.prog 165 [PT g 0, I64 (m : Nat)] [rdr g b at_ e] (fun r cs' => r = I64 (rdV 0 (intT m (b.drop at_)).1 e (intT m (b.drop at_)).2.2) ∧ cs' = [rdr g b (rdAt at_ (intT m (b.drop at_)).2.1 e (intT m (b.drop at_)).2.2) (rdE e (intT m (b.drop at_)).2.2)]) := by
  refine FnA.intro Tryz.tabOK Tryz.wide_ Tryz.func165 rfl (by decide) rfl (fun X => ?_)
  repeat (first | refine sc rfl ?_ | refine so rfl ?_ | refine sb rfl ?_)
  refine O_le _ (Le.freezebox 3 rfl rfl rfl) ?_
  repeat (first | refine sc rfl ?_ | refine so rfl ?_ | refine sb rfl ?_)
  refine O_makeFunc rfl rfl rfl rfl ?_
  repeat (first | refine sc rfl ?_ | refine so rfl ?_ | refine sb rfl ?_)
  first
    | refine O_callA [0] (takeI_A g b at_ e (.p (cloRP 230 [.cp [I64 (m : Nat)]])) 230 [.cp [I64 (m : Nat)]] (intT m (b.drop at_)).2.1 (intT m (b.drop at_)).2.2 (intT m (b.drop at_)).1 (isClo_p _ _) rfl hat (.inl rfl) (fun _ => IntF_p m hm (b.drop at_) (by simp; omega)) (fun _ h => by have := intT_end h; simp at this; omega) hb) (by rfl) (by rfl) (by rfl) (by rfl) (by rfl) ?_
    | refine O_callA [1] (takeI_A g b at_ e (.p (cloRP 230 [.cp [I64 (m : Nat)]])) 230 [.cp [I64 (m : Nat)]] (intT m (b.drop at_)).2.1 (intT m (b.drop at_)).2.2 (intT m (b.drop at_)).1 (isClo_p _ _) rfl hat (.inl rfl) (fun _ => IntF_p m hm (b.drop at_) (by simp; omega)) (fun _ h => by have := intT_end h; simp at this; omega) hb) (by rfl) (by rfl) (by rfl) (by rfl) (by rfl) ?_
    | refine O_callA [2] (takeI_A g b at_ e (.p (cloRP 230 [.cp [I64 (m : Nat)]])) 230 [.cp [I64 (m : Nat)]] (intT m (b.drop at_)).2.1 (intT m (b.drop at_)).2.2 (intT m (b.drop at_)).1 (isClo_p _ _) rfl hat (.inl rfl) (fun _ => IntF_p m hm (b.drop at_) (by simp; omega)) (fun _ h => by have := intT_end h; simp at this; omega) hb) (by rfl) (by rfl) (by rfl) (by rfl) (by rfl) ?_
    | refine O_callA [3] (takeI_A g b at_ e (.p (cloRP 230 [.cp [I64 (m : Nat)]])) 230 [.cp [I64 (m : Nat)]] (intT m (b.drop at_)).2.1 (intT m (b.drop at_)).2.2 (intT m (b.drop at_)).1 (isClo_p _ _) rfl hat (.inl rfl) (fun _ => IntF_p m hm (b.drop at_) (by simp; omega)) (fun _ h => by have := intT_end h; simp at this; omega) hb) (by rfl) (by rfl) (by rfl) (by rfl) (by rfl) ?_
    | refine O_callA [4] (takeI_A g b at_ e (.p (cloRP 230 [.cp [I64 (m : Nat)]])) 230 [.cp [I64 (m : Nat)]] (intT m (b.drop at_)).2.1 (intT m (b.drop at_)).2.2 (intT m (b.drop at_)).1 (isClo_p _ _) rfl hat (.inl rfl) (fun _ => IntF_p m hm (b.drop at_) (by simp; omega)) (fun _ h => by have := intT_end h; simp at this; omega) hb) (by rfl) (by rfl) (by rfl) (by rfl) (by rfl) ?_
  rintro r cs' ⟨rfl, rfl⟩
  repeat (first | refine sc rfl ?_ | refine so rfl ?_ | refine sb rfl ?_)
  first
    | exact ⟨_, [_], _, rfl, pickA_perm (is := [0]) (As := [_]) rfl, rfl, rfl, rfl⟩
    | exact ⟨_, [_], _, rfl, pickA_perm (is := [1]) (As := [_]) rfl, rfl, rfl, rfl⟩
    | exact ⟨_, [_], _, rfl, pickA_perm (is := [2]) (As := [_]) rfl, rfl, rfl, rfl⟩
    | exact ⟨_, [_], _, rfl, pickA_perm (is := [3]) (As := [_]) rfl, rfl, rfl, rfl⟩
    | exact ⟨_, [_], _, rfl, pickA_perm (is := [4]) (As := [_]) rfl, rfl, rfl, rfl⟩

theorem RestF_c (b : List UInt8) : FnP Tryz.prog 232 [.s b] (· = .tup [.s b, I64 (b.length : Nat), I64 0]) := by
  refine FnP.intro Tryz.tabOK Tryz.wide_ Tryz.func232 rfl (by decide) rfl (fun X => ?_)
  repeat (first | refine sc rfl ?_ | refine so rfl ?_ | refine sb rfl ?_)
  exact ⟨_, rfl, rfl, rfl⟩

theorem Rest_A (g : Nat) (b : List UInt8) (at_ : Nat) (e : Int) (hat : at_ ≤ b.length) (hb : b.length ≤ 9223372036854775807) :
    FnA Tryz.prog 166 [PT g 0] [rdr g b at_ e] (fun r cs' => r = .s (rdV [] (b.drop at_) e 0) ∧ cs' = [rdr g b (rdAt at_ (b.length - at_) e 0) (rdE e 0)]) := by
  refine FnA.intro Tryz.tabOK Tryz.wide_ Tryz.func166 rfl (by decide) rfl (fun X => ?_)
  repeat (first | refine sc rfl ?_ | refine so rfl ?_ | refine sb rfl ?_)
  first
    | refine O_callA [0] (takeS_A g b at_ e (.v (.func (.func 232) #[] #[])) 232 [] (b.length - at_) 0 (b.drop at_) (isClo_func 232) rfl hat (.inr ⟨_, rfl⟩) (fun _ => by have h := RestF_c (b.drop at_); rw [List.length_drop] at h; exact h) (fun _ _ => by omega) hb) (by rfl) (by rfl) (by rfl) (by rfl) (by rfl) ?_
    | refine O_callA [1] (takeS_A g b at_ e (.v (.func (.func 232) #[] #[])) 232 [] (b.length - at_) 0 (b.drop at_) (isClo_func 232) rfl hat (.inr ⟨_, rfl⟩) (fun _ => by have h := RestF_c (b.drop at_); rw [List.length_drop] at h; exact h) (fun _ _ => by omega) hb) (by rfl) (by rfl) (by rfl) (by rfl) (by rfl) ?_
    | refine O_callA [2] (takeS_A g b at_ e (.v (.func (.func 232) #[] #[])) 232 [] (b.length - at_) 0 (b.drop at_) (isClo_func 232) rfl hat (.inr ⟨_, rfl⟩) (fun _ => by have h := RestF_c (b.drop at_); rw [List.length_drop] at h; exact h) (fun _ _ => by omega) hb) (by rfl) (by rfl) (by rfl) (by rfl) (by rfl) ?_
    | refine O_callA [3] (takeS_A g b at_ e (.v (.func (.func 232) #[] #[])) 232 [] (b.length - at_) 0 (b.drop at_) (isClo_func 232) rfl hat (.inr ⟨_, rfl⟩) (fun _ => by have h := RestF_c (b.drop at_); rw [List.length_drop] at h; exact h) (fun _ _ => by omega) hb) (by rfl) (by rfl) (by rfl) (by rfl) (by rfl) ?_
    | refine O_callA [4] (takeS_A g b at_ e (.v (.func (.func 232) #[] #[])) 232 [] (b.length - at_) 0 (b.drop at_) (isClo_func 232) rfl hat (.inr ⟨_, rfl⟩) (fun _ => by have h := RestF_c (b.drop at_); rw [List.length_drop] at h; exact h) (fun _ _ => by omega) hb) (by rfl) (by rfl) (by rfl) (by rfl) (by rfl) ?_
  rintro r cs' ⟨rfl, rfl⟩
  repeat (first | refine sc rfl ?_ | refine so rfl ?_ | refine sb rfl ?_)
  first
    | exact ⟨_, [_], _, rfl, pickA_perm (is := [0]) (As := [_]) rfl, rfl, rfl, rfl⟩
    | exact ⟨_, [_], _, rfl, pickA_perm (is := [1]) (As := [_]) rfl, rfl, rfl, rfl⟩
    | exact ⟨_, [_], _, rfl, pickA_perm (is := [2]) (As := [_]) rfl, rfl, rfl, rfl⟩
    | exact ⟨_, [_], _, rfl, pickA_perm (is := [3]) (As := [_]) rfl, rfl, rfl, rfl⟩
    | exact ⟨_, [_], _, rfl, pickA_perm (is := [4]) (As := [_]) rfl, rfl, rfl, rfl⟩

def rdDone (b : List UInt8) (at_ : Nat) (e : Int) : Int := if e ≠ 0 then e else if at_ < b.length then 1 else 0
theorem Done_A (g : Nat) (b : List UInt8) (at_ : Nat) (e : Int) : FnA Tryz.prog 167 [PT g 0] [rdr g b at_ e] (fun r cs' => r = I64 (rdDone b at_ e) ∧ cs' = [rdr g b at_ e]) := by
  refine FnA.intro Tryz.tabOK Tryz.wide_ Tryz.func167 rfl (by decide) rfl (fun X => ?_)
  unfold rdDone
  repeat (first | refine sc rfl ?_ | refine so rfl ?_ | refine sb rfl ?_)
  refine O_Xd (X_ptrnil Tryz.underlying277 rfl rfl rfl) ?_
  repeat (first | refine sc rfl ?_ | refine so rfl ?_ | refine sb rfl ?_)
  refine C_false rfl rfl ?_
  repeat (first | refine sc rfl ?_ | refine so rfl ?_ | refine sb rfl ?_)
  first
    | refine O_loadP 0 (reads_box 2) rfl rfl rfl rfl rfl rfl ?_
    | refine O_loadP 1 (reads_box 2) rfl rfl rfl rfl rfl rfl ?_
    | refine O_loadP 2 (reads_box 2) rfl rfl rfl rfl rfl rfl ?_
    | refine O_loadP 3 (reads_box 2) rfl rfl rfl rfl rfl rfl ?_
    | refine O_loadP 4 (reads_box 2) rfl rfl rfl rfl rfl rfl ?_
  repeat (first | refine sc rfl ?_ | refine so rfl ?_ | refine sb rfl ?_)
  refine C_if rfl (fun h0 => ?_) (fun h0 => ?_) <;> simp only [decide_eq_true_eq, decide_eq_false_iff_not, Bool.not_eq_true', Bool.not_eq_false', beq_iff_eq, beq_eq_false_iff_ne, bne_iff_ne, ne_eq, bne_eq_false_iff_eq, Decidable.not_not] at h0
  · repeat (first | refine sc rfl ?_ | refine so rfl ?_ | refine sb rfl ?_)
    first
      | refine O_loadP 0 (reads_box 2) rfl rfl rfl rfl rfl rfl ?_
      | refine O_loadP 1 (reads_box 2) rfl rfl rfl rfl rfl rfl ?_
      | refine O_loadP 2 (reads_box 2) rfl rfl rfl rfl rfl rfl ?_
      | refine O_loadP 3 (reads_box 2) rfl rfl rfl rfl rfl rfl ?_
      | refine O_loadP 4 (reads_box 2) rfl rfl rfl rfl rfl rfl ?_
    repeat (first | refine sc rfl ?_ | refine so rfl ?_ | refine sb rfl ?_)
    first
      | exact ⟨_, [_], _, rfl, pickA_perm (is := [0]) (As := [_]) rfl, rfl, by rw [if_pos h0], rfl⟩
      | exact ⟨_, [_], _, rfl, pickA_perm (is := [1]) (As := [_]) rfl, rfl, by rw [if_pos h0], rfl⟩
      | exact ⟨_, [_], _, rfl, pickA_perm (is := [2]) (As := [_]) rfl, rfl, by rw [if_pos h0], rfl⟩
      | exact ⟨_, [_], _, rfl, pickA_perm (is := [3]) (As := [_]) rfl, rfl, by rw [if_pos h0], rfl⟩
      | exact ⟨_, [_], _, rfl, pickA_perm (is := [4]) (As := [_]) rfl, rfl, by rw [if_pos h0], rfl⟩
  subst h0
  rw [if_neg (by decide)]
  repeat (first | refine sc rfl ?_ | refine so rfl ?_ | refine sb rfl ?_)
  refine C_drawD rfl (by kernel_rfl) ?_
  repeat (first | refine sd rfl ?_ | refine sdb rfl ?_ | refine sds rfl ?_)
  refine D_X (I64 (at_ : Nat)) (X_loadP 0 (A := rdr g b at_ 0) (reads_box 1) rfl rfl rfl rfl rfl rfl) ?_
  repeat (first | refine sd rfl ?_ | refine sdb rfl ?_ | refine sds rfl ?_)
  refine D_X (.s b) (X_loadP 0 (A := rdr g b at_ 0) (reads_box 0) rfl rfl rfl rfl rfl rfl) ?_
  repeat (first | refine sd rfl ?_ | refine sdb rfl ?_ | refine sds rfl ?_)
  repeat (first | refine sc rfl ?_ | refine so rfl ?_ | refine sb rfl ?_)
  refine C_if rfl (fun h1 => ?_) (fun h1 => ?_) <;> simp only [decide_eq_true_eq, decide_eq_false_iff_not, Bool.not_eq_true', Bool.not_eq_false', beq_iff_eq, beq_eq_false_iff_ne, bne_iff_ne, ne_eq, bne_eq_false_iff_eq, Decidable.not_not] at h1
  · rw [if_pos (by omega)]
    repeat (first | refine sc rfl ?_ | refine so rfl ?_ | refine sb rfl ?_)
    first
      | exact ⟨_, [_], _, rfl, pickA_perm (is := [0]) (As := [_]) rfl, rfl, rfl, rfl⟩
      | exact ⟨_, [_], _, rfl, pickA_perm (is := [1]) (As := [_]) rfl, rfl, rfl, rfl⟩
      | exact ⟨_, [_], _, rfl, pickA_perm (is := [2]) (As := [_]) rfl, rfl, rfl, rfl⟩
      | exact ⟨_, [_], _, rfl, pickA_perm (is := [3]) (As := [_]) rfl, rfl, rfl, rfl⟩
      | exact ⟨_, [_], _, rfl, pickA_perm (is := [4]) (As := [_]) rfl, rfl, rfl, rfl⟩
  · rw [if_neg (by omega)]
    repeat (first | refine sc rfl ?_ | refine so rfl ?_ | refine sb rfl ?_)
    first
      | exact ⟨_, [_], _, rfl, pickA_perm (is := [0]) (As := [_]) rfl, rfl, rfl, rfl⟩
      | exact ⟨_, [_], _, rfl, pickA_perm (is := [1]) (As := [_]) rfl, rfl, rfl, rfl⟩
      | exact ⟨_, [_], _, rfl, pickA_perm (is := [2]) (As := [_]) rfl, rfl, rfl, rfl⟩
      | exact ⟨_, [_], _, rfl, pickA_perm (is := [3]) (As := [_]) rfl, rfl, rfl, rfl⟩
      | exact ⟨_, [_], _, rfl, pickA_perm (is := [4]) (As := [_]) rfl, rfl, rfl, rfl⟩
end Go.Proofs

/- Contracts of conf and admin: Take; of trace: Done. -/
set_option linter.unusedSimpArgs false
set_option linter.unusedVariables false
set_option maxRecDepth 100000
namespace Go.Proofs
open Go.Sy Go.Lib

/-- Numbers taken one behind the other. -/
def ctRun (b : List UInt8) : Nat → Nat → Int → List Int × Nat × Int
  | 0, at_, e => ([], at_, e)
  | n + 1, at_, e =>
    let T := intT 1048576 (b.drop at_)
    let r := ctRun b n (rdAt at_ T.2.1 e T.2.2) (rdE e T.2.2)
    (rdV 0 T.1 e T.2.2 :: r.1, r.2)
theorem ctRun_len (b : List UInt8) : ∀ (n at_ : Nat) (e : Int), (ctRun b n at_ e).1.length = n
  | 0, _, _ => rfl
  | n + 1, at_, e => by simp only [ctRun, List.length_cons]; rw [ctRun_len b n]
theorem rdAt_le {b : List UInt8} {at_ : Nat} {e : Int} (h : at_ ≤ b.length) (m : Nat) : rdAt at_ (intT m (b.drop at_)).2.1 e (intT m (b.drop at_)).2.2 ≤ b.length := by
  unfold rdAt
  split
  · exact h
  · split
    · exact h
    · rename_i h2
      have := intT_end (Decidable.not_not.1 h2)
      simp at this
      omega
def confTakeF (b : List UInt8) : Cf × Int := if rdDone b (ctRun b 9 0 0).2.1 (ctRun b 9 0 0).2.2 ≠ 0 then (default, 1) else confOfF (ctRun b 9 0 0).1

abbrev zCf : List AV := [I64 0, I64 0, I64 0, I64 0, I64 0, I64 0, I64 0, I64 0, I64 0]
theorem confTake_c (b : List UInt8) (hb : b.length ≤ 9223372036854775807) : FnP Tryz.prog 169 [.s b] (· = .tup [.agg (Cf.c (confTakeF b).1), I64 (confTakeF b).2]) := by
  have hA : FnA Tryz.prog 169 [.s b] [] (fun r cs' => r = .tup [.agg (Cf.c (confTakeF b).1), I64 (confTakeF b).2] ∧ cs' = []) := by
    refine FnA.intro Tryz.tabOK Tryz.wide_ Tryz.func169 rfl (by decide) rfl (fun X => ?_)
    obtain ⟨q, hq⟩ : ∃ q, confTakeF b = q := ⟨_, rfl⟩
    rw [hq]
    unfold confTakeF at hq
    obtain ⟨p, hp⟩ : ∃ p, ctRun b 9 0 0 = p := ⟨_, rfl⟩
    rw [hp] at hq
    have hpl : p.1.length = 9 := by rw [← hp]; exact ctRun_len b 9 0 0
    repeat (first | refine sc rfl ?_ | refine so rfl ?_ | refine sb rfl ?_)
    refine O_callA [] (Read_A0 b) (by rfl) (by rfl) (by rfl) (by rfl) (by rfl) ?_
    rintro r cs' ⟨g, rfl, rfl⟩
    repeat (first | refine sc rfl ?_ | refine so rfl ?_ | refine sb rfl ?_)
    refine C_loop (fun s : Nat × Nat × Int × List Int => ⟨[(3, I64 0), (4, PT g 0), (2, .bp 2 0), (5, .own 14), (8, I64 (s.1 : Nat))], [.box 2 120 zCf, VEC 14 3 1 INTc s.2.2.2, .abs (rdr g b s.2.1 s.2.2.1)]⟩)
      (fun s => s.1 ≤ 9 ∧ s.2.1 ≤ b.length ∧ s.2.2.2.length = s.1 ∧ s.2.2.2 ++ (ctRun b (9 - s.1) s.2.1 s.2.2.1).1 = p.1 ∧ (ctRun b (9 - s.1) s.2.1 s.2.2.1).2 = p.2) (fun s => 9 - s.1) (0, 0, 0, []) ⟨by decide, Nat.zero_le _, rfl, by rw [← hp]; rfl, by rw [← hp]; rfl⟩
      ((Le.nilvec (α := Int) INTc 5 14 3 1 rfl rfl rfl).trans (Le.pick [2, 0, 0] ⟨rfl, rfl, rfl, rfl, rfl, trivial⟩ rfl)) ?_
    rintro ⟨i, at_, e, l⟩ ⟨h1, h2, h3, h4, h5⟩
    simp only [] at h1 h2 h3 h4 h5
    repeat (first | refine sc rfl ?_ | refine so rfl ?_ | refine sb rfl ?_)
    refine C_if rfl (fun m1 => ?_) (fun m1 => ?_) <;> simp only [decide_eq_true_eq, decide_eq_false_iff_not, Bool.not_eq_true', Bool.not_eq_false', beq_iff_eq, beq_eq_false_iff_ne, bne_iff_ne, ne_eq, bne_eq_false_iff_eq, Decidable.not_not] at m1
    · have hi : i < 9 := by omega
      rw [show 9 - i = (9 - (i + 1)) + 1 by omega] at h4 h5
      simp only [ctRun] at h4 h5
      repeat (first | refine sc rfl ?_ | refine so rfl ?_ | refine sb rfl ?_)
      first
        | refine O_callA [0] (Int_A g b at_ e 1048576 (by decide) h2 hb) (by rfl) (by rfl) (by rfl) (by rfl) (by rfl) ?_
        | refine O_callA [1] (Int_A g b at_ e 1048576 (by decide) h2 hb) (by rfl) (by rfl) (by rfl) (by rfl) (by rfl) ?_
        | refine O_callA [2] (Int_A g b at_ e 1048576 (by decide) h2 hb) (by rfl) (by rfl) (by rfl) (by rfl) (by rfl) ?_
        | refine O_callA [3] (Int_A g b at_ e 1048576 (by decide) h2 hb) (by rfl) (by rfl) (by rfl) (by rfl) (by rfl) ?_
        | refine O_callA [4] (Int_A g b at_ e 1048576 (by decide) h2 hb) (by rfl) (by rfl) (by rfl) (by rfl) (by rfl) ?_
      rintro r cs' ⟨rfl, rfl⟩
      repeat (first | refine sc rfl ?_ | refine so rfl ?_ | refine sb rfl ?_)
      refine O_push INTc l (rdV 0 (intT 1048576 (b.drop at_)).1 e (intT 1048576 (b.drop at_)).2.2) [(3, I64 0), (4, PT g 0), (2, .bp 2 0), (8, I64 (i : Nat))] rfl rfl rfl rfl rfl rfl rfl rfl rfl rfl ⟨rfl, rfl, rfl, rfl, trivial⟩ rfl rfl (by omega) (by simp only [maxLen]; omega) ?_
      repeat (first | refine sc rfl ?_ | refine so rfl ?_ | refine sb rfl ?_)
      rw [w64 (x := (i : Int) + 1) (by omega) (by omega)]
      refine ⟨(i + 1, rdAt at_ (intT 1048576 (b.drop at_)).2.1 e (intT 1048576 (b.drop at_)).2.2, rdE e (intT 1048576 (b.drop at_)).2.2, l ++ [rdV 0 (intT 1048576 (b.drop at_)).1 e (intT 1048576 (b.drop at_)).2.2]), ⟨by simp only []; omega, rdAt_le h2 _, by simp [h3], ?_, h5⟩, by simp only []; omega, Le.pick [3, 0, 1] ⟨rfl, rfl, rfl, rfl, rfl, trivial⟩ rfl⟩
      rw [List.append_assoc]
      exact h4
    · obtain rfl : i = 9 := by omega
      simp only [Nat.sub_self, ctRun, List.append_nil] at h4 h5
      subst h4
      rw [← h5] at hq
      repeat (first | refine sc rfl ?_ | refine so rfl ?_ | refine sb rfl ?_)
      first
        | refine O_callA [0] (Done_A g b at_ e) (by rfl) (by rfl) (by rfl) (by rfl) (by rfl) ?_
        | refine O_callA [1] (Done_A g b at_ e) (by rfl) (by rfl) (by rfl) (by rfl) (by rfl) ?_
        | refine O_callA [2] (Done_A g b at_ e) (by rfl) (by rfl) (by rfl) (by rfl) (by rfl) ?_
        | refine O_callA [3] (Done_A g b at_ e) (by rfl) (by rfl) (by rfl) (by rfl) (by rfl) ?_
        | refine O_callA [4] (Done_A g b at_ e) (by rfl) (by rfl) (by rfl) (by rfl) (by rfl) ?_
      rintro r cs' ⟨rfl, rfl⟩
      repeat (first | refine sc rfl ?_ | refine so rfl ?_ | refine sb rfl ?_)
      refine C_if rfl (fun m2 => ?_) (fun m2 => ?_) <;> simp only [decide_eq_true_eq, decide_eq_false_iff_not, Bool.not_eq_true', Bool.not_eq_false', beq_iff_eq, beq_eq_false_iff_ne, bne_iff_ne, ne_eq, bne_eq_false_iff_eq, Decidable.not_not] at m2
      · rw [if_pos m2] at hq
        repeat (first | refine sc rfl ?_ | refine so rfl ?_ | refine sb rfl ?_)
        exact ⟨_, [], _, rfl, .refl _, rfl, by rw [← hq]; rfl, rfl⟩
      · rw [if_neg (fun h => h m2)] at hq
        repeat (first | refine sc rfl ?_ | refine so rfl ?_ | refine sb rfl ?_)
        refine O_le _ (Le.freezeL 20 rfl rfl) ?_
        refine O_call (confOf_c p.1 (by omega)) (by rfl) (by rfl) (by rfl) (by rfl) (fun r hr => ?_)
        subst hr
        rw [hq]
        repeat (first | refine sc rfl ?_ | refine so rfl ?_ | refine sb rfl ?_)
        exact ⟨_, [], _, rfl, .refl _, rfl, rfl, rfl⟩
  exact (hA.toP).mono (fun r ⟨cs, h⟩ => h.1)

/-- Is an order formed rightly? -/
def formF (o : Ord) : Int := if o.op < 1 ∨ 6 < o.op ∨ o.owner < 1 ∨ 8 < o.owner then 1 else if o.op = 1 ∨ o.op = 6 then ckF o.conf else 0
theorem conf_c (op : Int) : FnP Tryz.prog 168 [I64 op] (· = B (decide (op = 1 ∨ op = 6))) := by
  refine FnP.intro Tryz.tabOK Tryz.wide_ Tryz.func168 rfl (by decide) rfl (fun X => ?_)
  repeat (first | refine sc rfl ?_ | refine so rfl ?_ | refine sb rfl ?_)
  refine O_case 5 rfl (fun c => ?_) (fun c => ?_) <;> simp only [decide_eq_true_eq, decide_eq_false_iff_not, Bool.not_eq_true', Bool.not_eq_false', beq_iff_eq, beq_eq_false_iff_ne, bne_iff_ne, ne_eq, bne_eq_false_iff_eq, Decidable.not_not] at c
  · repeat (first | refine sc rfl ?_ | refine so rfl ?_ | refine sb rfl ?_)
    exact ⟨_, rfl, rfl, congrArg (fun b => B b) (by rw [Bool.eq_iff_iff]; simp [c])⟩
  · repeat (first | refine sc rfl ?_ | refine so rfl ?_ | refine sb rfl ?_)
    exact ⟨_, rfl, rfl, congrArg (fun b => B b) (by rw [Bool.eq_iff_iff]; simp [c])⟩
theorem form_c (o : Ord) : FnP Tryz.prog 170 [.agg (Ord.c o)] (· = I64 (formF o)) := by
  refine FnP.intro Tryz.tabOK Tryz.wide_ Tryz.func170 rfl (by decide) rfl (fun X => ?_)
  unfold formF
  repeat (first | refine sc rfl ?_ | refine so rfl ?_ | refine sb rfl ?_)
  refine O_case 7 rfl (fun c1 => ?_) (fun c1 => ?_) <;> simp only [decide_eq_true_eq, decide_eq_false_iff_not, Bool.not_eq_true', Bool.not_eq_false', beq_iff_eq, beq_eq_false_iff_ne, bne_iff_ne, ne_eq, bne_eq_false_iff_eq, Decidable.not_not] at c1
  · repeat (first | refine sc rfl ?_ | refine so rfl ?_ | refine sb rfl ?_)
    refine C_true rfl rfl ?_
    repeat (first | refine sc rfl ?_ | refine so rfl ?_ | refine sb rfl ?_)
    exact ⟨_, rfl, rfl, by rw [if_pos (by omega)]⟩
  repeat (first | refine sc rfl ?_ | refine so rfl ?_ | refine sb rfl ?_)
  refine O_case 12 rfl (fun c2 => ?_) (fun c2 => ?_) <;> simp only [decide_eq_true_eq, decide_eq_false_iff_not, Bool.not_eq_true', Bool.not_eq_false', beq_iff_eq, beq_eq_false_iff_ne, bne_iff_ne, ne_eq, bne_eq_false_iff_eq, Decidable.not_not] at c2
  · repeat (first | refine sc rfl ?_ | refine so rfl ?_ | refine sb rfl ?_)
    refine C_true rfl rfl ?_
    repeat (first | refine sc rfl ?_ | refine so rfl ?_ | refine sb rfl ?_)
    exact ⟨_, rfl, rfl, by rw [if_pos (by omega)]⟩
  repeat (first | refine sc rfl ?_ | refine so rfl ?_ | refine sb rfl ?_)
  refine O_case 17 rfl (fun c3 => ?_) (fun c3 => ?_) <;> simp only [decide_eq_true_eq, decide_eq_false_iff_not, Bool.not_eq_true', Bool.not_eq_false', beq_iff_eq, beq_eq_false_iff_ne, bne_iff_ne, ne_eq, bne_eq_false_iff_eq, Decidable.not_not] at c3
  · repeat (first | refine sc rfl ?_ | refine so rfl ?_ | refine sb rfl ?_)
    refine C_true rfl rfl ?_
    repeat (first | refine sc rfl ?_ | refine so rfl ?_ | refine sb rfl ?_)
    exact ⟨_, rfl, rfl, by rw [if_pos (by omega)]⟩
  repeat (first | refine sc rfl ?_ | refine so rfl ?_ | refine sb rfl ?_)
  refine C_if rfl (fun c4 => ?_) (fun c4 => ?_) <;> simp only [decide_eq_true_eq, decide_eq_false_iff_not, Bool.not_eq_true', Bool.not_eq_false', beq_iff_eq, beq_eq_false_iff_ne, bne_iff_ne, ne_eq, bne_eq_false_iff_eq, Decidable.not_not] at c4
  · repeat (first | refine sc rfl ?_ | refine so rfl ?_ | refine sb rfl ?_)
    exact ⟨_, rfl, rfl, by rw [if_pos (by omega)]⟩
  rw [if_neg (by omega)]
  repeat (first | refine sc rfl ?_ | refine so rfl ?_ | refine sb rfl ?_)
  refine O_call (conf_c o.op) (by rfl) (by rfl) (by rfl) (by rfl) (fun r hr => ?_)
  subst hr
  repeat (first | refine sc rfl ?_ | refine so rfl ?_ | refine sb rfl ?_)
  refine C_if rfl (fun c5 => ?_) (fun c5 => ?_) <;> simp only [decide_eq_true_eq, decide_eq_false_iff_not, Bool.not_eq_true', Bool.not_eq_false', beq_iff_eq, beq_eq_false_iff_ne, bne_iff_ne, ne_eq, bne_eq_false_iff_eq, Decidable.not_not] at c5
  · rw [if_pos c5]
    repeat (first | refine sc rfl ?_ | refine so rfl ?_ | refine sb rfl ?_)
    refine O_call (confCheck_c o.conf) (by rfl) (by rfl) (by rfl) (by rfl) (fun r hr => ?_)
    subst hr
    repeat (first | refine sc rfl ?_ | refine so rfl ?_ | refine sb rfl ?_)
    exact ⟨_, rfl, rfl, rfl⟩
  · rw [if_neg c5]
    repeat (first | refine sc rfl ?_ | refine so rfl ?_ | refine sb rfl ?_)
    exact ⟨_, rfl, rfl, rfl⟩

/-- The order of a body, as the program takes it. -/
def adTakeF (b : List UInt8) : Ord × Int :=
  let T1 := tk b
  let a1 := rdAt 0 T1.2.1 0 T1.2.2
  let e1 := rdE 0 T1.2.2
  let T2 := intT 6 (b.drop a1)
  let a2 := rdAt a1 T2.2.1 e1 T2.2.2
  let e2 := rdE e1 T2.2.2
  let T3 := intT 8 (b.drop a2)
  let a3 := rdAt a2 T3.2.1 e2 T3.2.2
  let e3 := rdE e2 T3.2.2
  let rest := rdV [] (b.drop a3) e3 0
  let o : Ord := ⟨rdV 0 (T1.1 : Nat) 0 T1.2.2, rdV 0 T2.1 e1 T2.2.2, rdV 0 T3.1 e2 T3.2.2, default⟩
  if rdDone b (rdAt a3 (b.length - a3) e3 0) (rdE e3 0) ≠ 0 then (default, 1)
  else if o.op = 1 ∨ o.op = 6 then
    if (confTakeF rest).2 ≠ 0 then (default, 1)
    else if formF { o with conf := (confTakeF rest).1 } ≠ 0 then (default, 1) else ({ o with conf := (confTakeF rest).1 }, 0)
  else if rest ≠ [] then (default, 1)
  else if formF o ≠ 0 then (default, 1) else (o, 0)
theorem rdAt_le0 {b : List UInt8} (e : Int) : rdAt 0 (tk b).2.1 e (tk b).2.2 ≤ b.length := by
  unfold rdAt
  split
  · exact Nat.zero_le _
  · split
    · exact Nat.zero_le _
    · rename_i h2
      have := tk_end (Decidable.not_not.1 h2)
      omega

theorem adTake_c (b : List UInt8) (hb : b.length ≤ 9223372036854775807) : FnP Tryz.prog 96 [.s b] (· = .tup [.agg (Ord.c (adTakeF b).1), I64 (adTakeF b).2]) := by
  have hA : FnA Tryz.prog 96 [.s b] [] (fun r cs' => r = .tup [.agg (Ord.c (adTakeF b).1), I64 (adTakeF b).2] ∧ cs' = []) := by
    refine FnA.intro Tryz.tabOK Tryz.wide_ Tryz.func96 rfl (by decide) rfl (fun X => ?_)
    obtain ⟨q, hq⟩ : ∃ q, adTakeF b = q := ⟨_, rfl⟩
    rw [hq]
    unfold adTakeF at hq
    have l1 := rdAt_le0 (b := b) 0
    obtain ⟨a1, ha1⟩ : ∃ a1, rdAt 0 (tk b).2.1 0 (tk b).2.2 = a1 := ⟨_, rfl⟩
    obtain ⟨e1, he1⟩ : ∃ e1, rdE 0 (tk b).2.2 = e1 := ⟨_, rfl⟩
    obtain ⟨v1, hv1⟩ : ∃ v1 : Int, rdV (0 : Int) (((tk b).1 : Nat) : Int) 0 (tk b).2.2 = v1 := ⟨_, rfl⟩
    simp only [ha1, he1, hv1] at hq l1
    have l2 := rdAt_le (e := e1) l1 6
    obtain ⟨T2, hT2⟩ : ∃ T2, intT 6 (b.drop a1) = T2 := ⟨_, rfl⟩
    rw [hT2] at l2
    simp only [hT2] at hq
    obtain ⟨a2, ha2⟩ : ∃ a2, rdAt a1 T2.2.1 e1 T2.2.2 = a2 := ⟨_, rfl⟩
    obtain ⟨e2, he2⟩ : ∃ e2, rdE e1 T2.2.2 = e2 := ⟨_, rfl⟩
    obtain ⟨v2, hv2⟩ : ∃ v2 : Int, rdV 0 T2.1 e1 T2.2.2 = v2 := ⟨_, rfl⟩
    simp only [ha2, he2, hv2] at hq l2
    have l3 := rdAt_le (e := e2) l2 8
    obtain ⟨T3, hT3⟩ : ∃ T3, intT 8 (b.drop a2) = T3 := ⟨_, rfl⟩
    rw [hT3] at l3
    simp only [hT3] at hq
    obtain ⟨a3, ha3⟩ : ∃ a3, rdAt a2 T3.2.1 e2 T3.2.2 = a3 := ⟨_, rfl⟩
    obtain ⟨e3, he3⟩ : ∃ e3, rdE e2 T3.2.2 = e3 := ⟨_, rfl⟩
    obtain ⟨v3, hv3⟩ : ∃ v3 : Int, rdV 0 T3.1 e2 T3.2.2 = v3 := ⟨_, rfl⟩
    simp only [ha3, he3, hv3] at hq l3
    obtain ⟨rest, hrest⟩ : ∃ rest, rdV [] (b.drop a3) e3 0 = rest := ⟨_, rfl⟩
    have hrl : rest.length ≤ b.length := by
      rw [← hrest]; unfold rdV
      split
      · simp
      · split <;> simp
    simp only [hrest] at hq
    have hN := Num_A
    repeat (first | refine sc rfl ?_ | refine so rfl ?_ | refine sb rfl ?_)
    refine O_callA [] (Read_A0 b) (by rfl) (by rfl) (by rfl) (by rfl) (by rfl) ?_
    rintro r cs' ⟨g, rfl, rfl⟩
    repeat (first | refine sc rfl ?_ | refine so rfl ?_ | refine sb rfl ?_)
    first
      | refine O_callA [0] (Num_A g b 0 0 (Nat.zero_le _) hb) (by rfl) (by rfl) (by rfl) (by rfl) (by rfl) ?_
      | refine O_callA [1] (Num_A g b 0 0 (Nat.zero_le _) hb) (by rfl) (by rfl) (by rfl) (by rfl) (by rfl) ?_
      | refine O_callA [2] (Num_A g b 0 0 (Nat.zero_le _) hb) (by rfl) (by rfl) (by rfl) (by rfl) (by rfl) ?_
      | refine O_callA [3] (Num_A g b 0 0 (Nat.zero_le _) hb) (by rfl) (by rfl) (by rfl) (by rfl) (by rfl) ?_
      | refine O_callA [4] (Num_A g b 0 0 (Nat.zero_le _) hb) (by rfl) (by rfl) (by rfl) (by rfl) (by rfl) ?_
    rintro r cs' ⟨rfl, rfl⟩
    simp only [List.drop_zero, ha1, he1, hv1]
    repeat (first | refine sc rfl ?_ | refine so rfl ?_ | refine sb rfl ?_)
    first
      | refine O_callA [0] (Int_A g b a1 e1 6 (by decide) l1 hb) (by rfl) (by rfl) (by rfl) (by rfl) (by rfl) ?_
      | refine O_callA [1] (Int_A g b a1 e1 6 (by decide) l1 hb) (by rfl) (by rfl) (by rfl) (by rfl) (by rfl) ?_
      | refine O_callA [2] (Int_A g b a1 e1 6 (by decide) l1 hb) (by rfl) (by rfl) (by rfl) (by rfl) (by rfl) ?_
      | refine O_callA [3] (Int_A g b a1 e1 6 (by decide) l1 hb) (by rfl) (by rfl) (by rfl) (by rfl) (by rfl) ?_
      | refine O_callA [4] (Int_A g b a1 e1 6 (by decide) l1 hb) (by rfl) (by rfl) (by rfl) (by rfl) (by rfl) ?_
    rintro r cs' ⟨rfl, rfl⟩
    simp only [hT2, ha2, he2, hv2]
    repeat (first | refine sc rfl ?_ | refine so rfl ?_ | refine sb rfl ?_)
    first
      | refine O_callA [0] (Int_A g b a2 e2 8 (by decide) l2 hb) (by rfl) (by rfl) (by rfl) (by rfl) (by rfl) ?_
      | refine O_callA [1] (Int_A g b a2 e2 8 (by decide) l2 hb) (by rfl) (by rfl) (by rfl) (by rfl) (by rfl) ?_
      | refine O_callA [2] (Int_A g b a2 e2 8 (by decide) l2 hb) (by rfl) (by rfl) (by rfl) (by rfl) (by rfl) ?_
      | refine O_callA [3] (Int_A g b a2 e2 8 (by decide) l2 hb) (by rfl) (by rfl) (by rfl) (by rfl) (by rfl) ?_
      | refine O_callA [4] (Int_A g b a2 e2 8 (by decide) l2 hb) (by rfl) (by rfl) (by rfl) (by rfl) (by rfl) ?_
    rintro r cs' ⟨rfl, rfl⟩
    simp only [hT3, ha3, he3, hv3]
    repeat (first | refine sc rfl ?_ | refine so rfl ?_ | refine sb rfl ?_)
    first
      | refine O_callA [0] (Rest_A g b a3 e3 l3 hb) (by rfl) (by rfl) (by rfl) (by rfl) (by rfl) ?_
      | refine O_callA [1] (Rest_A g b a3 e3 l3 hb) (by rfl) (by rfl) (by rfl) (by rfl) (by rfl) ?_
      | refine O_callA [2] (Rest_A g b a3 e3 l3 hb) (by rfl) (by rfl) (by rfl) (by rfl) (by rfl) ?_
      | refine O_callA [3] (Rest_A g b a3 e3 l3 hb) (by rfl) (by rfl) (by rfl) (by rfl) (by rfl) ?_
      | refine O_callA [4] (Rest_A g b a3 e3 l3 hb) (by rfl) (by rfl) (by rfl) (by rfl) (by rfl) ?_
    rintro r cs' ⟨rfl, rfl⟩
    simp only [hrest]
    repeat (first | refine sc rfl ?_ | refine so rfl ?_ | refine sb rfl ?_)
    first
      | refine O_callA [0] (Done_A g b (rdAt a3 (b.length - a3) e3 0) (rdE e3 0)) (by rfl) (by rfl) (by rfl) (by rfl) (by rfl) ?_
      | refine O_callA [1] (Done_A g b (rdAt a3 (b.length - a3) e3 0) (rdE e3 0)) (by rfl) (by rfl) (by rfl) (by rfl) (by rfl) ?_
      | refine O_callA [2] (Done_A g b (rdAt a3 (b.length - a3) e3 0) (rdE e3 0)) (by rfl) (by rfl) (by rfl) (by rfl) (by rfl) ?_
      | refine O_callA [3] (Done_A g b (rdAt a3 (b.length - a3) e3 0) (rdE e3 0)) (by rfl) (by rfl) (by rfl) (by rfl) (by rfl) ?_
      | refine O_callA [4] (Done_A g b (rdAt a3 (b.length - a3) e3 0) (rdE e3 0)) (by rfl) (by rfl) (by rfl) (by rfl) (by rfl) ?_
    rintro r cs' ⟨rfl, rfl⟩
    obtain ⟨C, hC⟩ : ∃ C, confTakeF rest = C := ⟨_, rfl⟩
    simp only [hC] at hq
    repeat (first | refine sc rfl ?_ | refine so rfl ?_ | refine sb rfl ?_)
    simp only [hv1]
    refine C_if rfl (fun m1 => ?_) (fun m1 => ?_) <;> simp only [decide_eq_true_eq, decide_eq_false_iff_not, Bool.not_eq_true', Bool.not_eq_false', beq_iff_eq, beq_eq_false_iff_ne, bne_iff_ne, ne_eq, bne_eq_false_iff_eq, Decidable.not_not] at m1
    · rw [if_pos m1] at hq
      repeat (first | refine sc rfl ?_ | refine so rfl ?_ | refine sb rfl ?_)
      exact ⟨_, [], _, rfl, .refl _, rfl, by rw [← hq]; rfl, rfl⟩
    rw [if_neg (fun h => h m1)] at hq
    repeat (first | refine sc rfl ?_ | refine so rfl ?_ | refine sb rfl ?_)
    refine O_call (conf_c v2) (by rfl) (by rfl) (by rfl) (by rfl) (fun r hr => ?_)
    subst hr
    repeat (first | refine sc rfl ?_ | refine so rfl ?_ | refine sb rfl ?_)
    refine C_if rfl (fun m2 => ?_) (fun m2 => ?_) <;> simp only [decide_eq_true_eq, decide_eq_false_iff_not, Bool.not_eq_true', Bool.not_eq_false', beq_iff_eq, beq_eq_false_iff_ne, bne_iff_ne, ne_eq, bne_eq_false_iff_eq, Decidable.not_not] at m2
    · rw [if_pos m2] at hq
      repeat (first | refine sc rfl ?_ | refine so rfl ?_ | refine sb rfl ?_)
      refine O_call (confTake_c rest (by omega)) (by rfl) (by rfl) (by rfl) (by rfl) (fun r hr => ?_)
      subst hr
      rw [hC]
      repeat (first | refine sc rfl ?_ | refine so rfl ?_ | refine sb rfl ?_)
      refine C_if rfl (fun m3 => ?_) (fun m3 => ?_) <;> simp only [decide_eq_true_eq, decide_eq_false_iff_not, Bool.not_eq_true', Bool.not_eq_false', beq_iff_eq, beq_eq_false_iff_ne, bne_iff_ne, ne_eq, bne_eq_false_iff_eq, Decidable.not_not] at m3
      · rw [if_pos m3] at hq
        repeat (first | refine sc rfl ?_ | refine so rfl ?_ | refine sb rfl ?_)
        exact ⟨_, [], _, rfl, .refl _, rfl, by rw [← hq]; rfl, rfl⟩
      rw [if_neg (fun h => h m3)] at hq
      repeat (first | refine sc rfl ?_ | refine so rfl ?_ | refine sb rfl ?_)
      refine O_call (form_c ⟨v1, v2, v3, C.1⟩) (by rfl) (by rfl) (by rfl) (by rfl) (fun r hr => ?_)
      subst hr
      repeat (first | refine sc rfl ?_ | refine so rfl ?_ | refine sb rfl ?_)
      refine C_if rfl (fun m4 => ?_) (fun m4 => ?_) <;> simp only [decide_eq_true_eq, decide_eq_false_iff_not, Bool.not_eq_true', Bool.not_eq_false', beq_iff_eq, beq_eq_false_iff_ne, bne_iff_ne, ne_eq, bne_eq_false_iff_eq, Decidable.not_not] at m4
      · rw [if_pos m4] at hq
        repeat (first | refine sc rfl ?_ | refine so rfl ?_ | refine sb rfl ?_)
        exact ⟨_, [], _, rfl, .refl _, rfl, by rw [← hq]; rfl, rfl⟩
      · rw [if_neg (fun h => h m4)] at hq
        repeat (first | refine sc rfl ?_ | refine so rfl ?_ | refine sb rfl ?_)
        exact ⟨_, [], _, rfl, .refl _, rfl, by rw [← hq]; rfl, rfl⟩
    · rw [if_neg m2] at hq
      repeat (first | refine sc rfl ?_ | refine so rfl ?_ | refine sb rfl ?_)
      refine C_if rfl (fun m3 => ?_) (fun m3 => ?_) <;> simp only [decide_eq_true_eq, decide_eq_false_iff_not, Bool.not_eq_true', Bool.not_eq_false', beq_iff_eq, beq_eq_false_iff_ne, bne_iff_ne, ne_eq, bne_eq_false_iff_eq, Decidable.not_not] at m3
      · rw [if_pos m3] at hq
        repeat (first | refine sc rfl ?_ | refine so rfl ?_ | refine sb rfl ?_)
        exact ⟨_, [], _, rfl, .refl _, rfl, by rw [← hq]; rfl, rfl⟩
      rw [if_neg (fun h => h m3)] at hq
      repeat (first | refine sc rfl ?_ | refine so rfl ?_ | refine sb rfl ?_)
      refine O_call (form_c ⟨v1, v2, v3, default⟩) (by rfl) (by rfl) (by rfl) (by rfl) (fun r hr => ?_)
      subst hr
      repeat (first | refine sc rfl ?_ | refine so rfl ?_ | refine sb rfl ?_)
      refine C_if rfl (fun m4 => ?_) (fun m4 => ?_) <;> simp only [decide_eq_true_eq, decide_eq_false_iff_not, Bool.not_eq_true', Bool.not_eq_false', beq_iff_eq, beq_eq_false_iff_ne, bne_iff_ne, ne_eq, bne_eq_false_iff_eq, Decidable.not_not] at m4
      · rw [if_pos m4] at hq
        repeat (first | refine sc rfl ?_ | refine so rfl ?_ | refine sb rfl ?_)
        exact ⟨_, [], _, rfl, .refl _, rfl, by rw [← hq]; rfl, rfl⟩
      · rw [if_neg (fun h => h m4)] at hq
        repeat (first | refine sc rfl ?_ | refine so rfl ?_ | refine sb rfl ?_)
        exact ⟨_, [], _, rfl, .refl _, rfl, by rw [← hq]; rfl, rfl⟩
  exact (hA.toP).mono (fun r ⟨cs, h⟩ => h.1)

/-- The order that was done at a row. -/
def trDoneF (x : Rw) : Ord × Bool := if x.act ≠ 1 ∨ x.note.kind ≠ 8 ∨ x.note.owner ≠ 0 ∨ x.note.err ≠ 0 then (default, false) else ((adTakeF x.note.body).1, decide ((adTakeF x.note.body).2 = 0))
theorem trDone_c (x : Rw) (hb : x.note.body.length ≤ 9223372036854775807) : FnP Tryz.prog 54 [.agg (Rw.c x)] (· = .tup [.agg (Ord.c (trDoneF x).1), B (trDoneF x).2]) := by
  refine FnP.intro Tryz.tabOK Tryz.wide_ Tryz.func54 rfl (by decide) rfl (fun X => ?_)
  obtain ⟨q, hq⟩ : ∃ q, trDoneF x = q := ⟨_, rfl⟩
  rw [hq]
  unfold trDoneF at hq
  repeat (first | refine sc rfl ?_ | refine so rfl ?_ | refine sb rfl ?_)
  refine O_case 9 rfl (fun c1 => ?_) (fun c1 => ?_) <;> simp only [decide_eq_true_eq, decide_eq_false_iff_not, Bool.not_eq_true', Bool.not_eq_false', beq_iff_eq, beq_eq_false_iff_ne, bne_iff_ne, ne_eq, bne_eq_false_iff_eq, Decidable.not_not] at c1
  · repeat (first | refine sc rfl ?_ | refine so rfl ?_ | refine sb rfl ?_)
    refine C_true rfl rfl ?_
    repeat (first | refine sc rfl ?_ | refine so rfl ?_ | refine sb rfl ?_)
    exact ⟨_, rfl, rfl, by rw [← hq, if_pos (by omega)]; rfl⟩
  repeat (first | refine sc rfl ?_ | refine so rfl ?_ | refine sb rfl ?_)
  refine O_case 15 rfl (fun c2 => ?_) (fun c2 => ?_) <;> simp only [decide_eq_true_eq, decide_eq_false_iff_not, Bool.not_eq_true', Bool.not_eq_false', beq_iff_eq, beq_eq_false_iff_ne, bne_iff_ne, ne_eq, bne_eq_false_iff_eq, Decidable.not_not] at c2
  · repeat (first | refine sc rfl ?_ | refine so rfl ?_ | refine sb rfl ?_)
    refine C_true rfl rfl ?_
    repeat (first | refine sc rfl ?_ | refine so rfl ?_ | refine sb rfl ?_)
    exact ⟨_, rfl, rfl, by rw [← hq, if_pos (by omega)]; rfl⟩
  repeat (first | refine sc rfl ?_ | refine so rfl ?_ | refine sb rfl ?_)
  refine O_case 21 rfl (fun c3 => ?_) (fun c3 => ?_) <;> simp only [decide_eq_true_eq, decide_eq_false_iff_not, Bool.not_eq_true', Bool.not_eq_false', beq_iff_eq, beq_eq_false_iff_ne, bne_iff_ne, ne_eq, bne_eq_false_iff_eq, Decidable.not_not] at c3
  · repeat (first | refine sc rfl ?_ | refine so rfl ?_ | refine sb rfl ?_)
    refine C_true rfl rfl ?_
    repeat (first | refine sc rfl ?_ | refine so rfl ?_ | refine sb rfl ?_)
    exact ⟨_, rfl, rfl, by rw [← hq, if_pos (by omega)]; rfl⟩
  repeat (first | refine sc rfl ?_ | refine so rfl ?_ | refine sb rfl ?_)
  refine C_if rfl (fun c4 => ?_) (fun c4 => ?_) <;> simp only [decide_eq_true_eq, decide_eq_false_iff_not, Bool.not_eq_true', Bool.not_eq_false', beq_iff_eq, beq_eq_false_iff_ne, bne_iff_ne, ne_eq, bne_eq_false_iff_eq, Decidable.not_not] at c4
  · repeat (first | refine sc rfl ?_ | refine so rfl ?_ | refine sb rfl ?_)
    exact ⟨_, rfl, rfl, by rw [← hq, if_pos (by omega)]; rfl⟩
  rw [if_neg (by omega)] at hq
  repeat (first | refine sc rfl ?_ | refine so rfl ?_ | refine sb rfl ?_)
  refine O_call (adTake_c x.note.body hb) (by rfl) (by rfl) (by rfl) (by rfl) (fun r hr => ?_)
  subst hr
  repeat (first | refine sc rfl ?_ | refine so rfl ?_ | refine sb rfl ?_)
  exact ⟨_, rfl, rfl, by rw [← hq]; rfl⟩
end Go.Proofs

/- Contracts of the document's: numbers, configurations. -/
set_option linter.unusedSimpArgs false
set_option linter.unusedVariables false
set_option maxRecDepth 100000
namespace Go.Proofs
open Go.Sy Go.Lib

/-- The document's number that is not too great. -/
def rInt (m : Nat) (l : List UInt8) : Int × Nat × Int := if (tk l).2.2 ≠ 0 then (0, 0, (tk l).2.2) else if m < (tk l).1 then (0, 0, 3) else ((tk l).1, (tk l).2.1, 0)
theorem rInt_c (m : Nat) (hm : m ≤ 9223372036854775807) (l : List UInt8) (hl : l.length ≤ 9223372036854775807) : FnP Tryz.prog 175 [.s l, I64 (m : Nat)] (· = .tup [I64 (rInt m l).1, I64 (((rInt m l).2.1 : Nat) : Int), I64 (rInt m l).2.2]) := by
  refine FnP.intro Tryz.tabOK Tryz.wide_ Tryz.func175 rfl (by decide) rfl (fun X => ?_)
  unfold rInt
  repeat (first | refine sc rfl ?_ | refine so rfl ?_ | refine sb rfl ?_)
  refine O_call (refTake01_p l hl) (by rfl) (by rfl) (by rfl) (by rfl) (fun r hr => ?_)
  subst hr
  obtain ⟨n, k, e, ht⟩ : ∃ n k e, tk l = (n, k, e) := ⟨_, _, _, rfl⟩
  rw [ht]
  simp only []
  repeat (first | refine sc rfl ?_ | refine so rfl ?_ | refine sb rfl ?_)
  refine C_if rfl (fun m1 => ?_) (fun m1 => ?_) <;> simp only [decide_eq_true_eq, decide_eq_false_iff_not, Bool.not_eq_true', Bool.not_eq_false', beq_iff_eq, beq_eq_false_iff_ne, bne_iff_ne, ne_eq, bne_eq_false_iff_eq, Decidable.not_not] at m1
  · rw [if_pos m1]
    repeat (first | refine sc rfl ?_ | refine so rfl ?_ | refine sb rfl ?_)
    exact ⟨_, rfl, rfl, rfl⟩
  rw [if_neg (fun h => h m1)]
  repeat (first | refine sc rfl ?_ | refine so rfl ?_ | refine sb rfl ?_)
  refine C_false rfl (decide_eq_false (by omega)) ?_
  repeat (first | refine sc rfl ?_ | refine so rfl ?_ | refine sb rfl ?_)
  rw [u64wrap (x := (m : Int)) (by omega) (by omega)]
  refine C_if rfl (fun m2 => ?_) (fun m2 => ?_) <;> simp only [decide_eq_true_eq, decide_eq_false_iff_not, Bool.not_eq_true', Bool.not_eq_false', beq_iff_eq, beq_eq_false_iff_ne, bne_iff_ne, ne_eq, bne_eq_false_iff_eq, Decidable.not_not] at m2
  · rw [if_pos (by omega)]
    repeat (first | refine sc rfl ?_ | refine so rfl ?_ | refine sb rfl ?_)
    exact ⟨_, rfl, rfl, rfl⟩
  · rw [if_neg (by omega)]
    repeat (first | refine sc rfl ?_ | refine so rfl ?_ | refine sb rfl ?_)
    rw [w64 (x := (n : Int)) (by omega) (by omega)]
    exact ⟨_, rfl, rfl, rfl⟩

abbrev mostL : List Int := [1048576, 1048576, 1048576, 1048576, 64, 64, 16, 1048576, 1048576]
def okR (l : List Int) (j : Nat) : Prop := 0 ≤ l.getD j 0 ∧ l.getD j 0 ≤ mostL.getD j 0
instance (l : List Int) (j : Nat) : Decidable (okR l j) := inferInstanceAs (Decidable (_ ∧ _))
abbrev zCF : Cf := ⟨0, 0, 0, 0, 0, 0, 0, 0, 0⟩
theorem L2_step (l : List Int) (h9 : l.length = 9) (i : Nat) (hi : i < 9) : ConfOfR_L2 l (i : Int) = if okR l i then some (.inl ((i + 1 : Nat) : Int)) else some (.inr (.inl (zCF, 1))) := by
  have hd : l.getD i default = l.getD i 0 := rfl
  have hd2 : mostL.getD i default = mostL.getD i 0 := rfl
  unfold ConfOfR_L2
  rw [show decide ((i : Int) < 9) = true from decide_eq_true (by omega)]
  simp only [cond_true, Int.toNat_natCast]
  rw [chk_pos (by omega)]
  by_cases h1 : l.getD i 0 < 0
  · rw [show decide (l.getD i default < 0) = true from decide_eq_true h1]
    rw [if_neg (fun h => by have := h.1; omega)]
    rfl
  · rw [show decide (l.getD i default < 0) = false from decide_eq_false h1]
    simp only [cond_false]
    rw [chk_pos (by omega), chk_pos (by simp; omega)]
    by_cases h2 : mostL.getD i 0 < l.getD i 0
    · rw [show decide (mostL.getD i default < l.getD i default) = true from decide_eq_true h2]
      rw [if_neg (fun h => by have := h.2; omega)]
      rfl
    · rw [show decide (mostL.getD i default < l.getD i default) = false from decide_eq_false h2]
      rw [if_pos ⟨by omega, by omega⟩]
      simp only [cond_false]
      rw [w64 (by omega) (by omega)]
      rfl
theorem L2_run (l : List Int) (h9 : l.length = 9) : ∀ (n i : Nat), i + n = 9 → ((∀ j, j < 9 → i ≤ j → okR l j) → Iter (ConfOfR_L2 l) (i : Int) = some (.inr ())) ∧ ((¬ ∀ j, j < 9 → i ≤ j → okR l j) → Iter (ConfOfR_L2 l) (i : Int) = some (.inl (zCF, 1)))
  | 0, i, h => by
    obtain rfl : i = 9 := by omega
    exact ⟨fun _ => Iter_end rfl, fun h3 => absurd (fun j h1 h2 => by omega) h3⟩
  | n + 1, i, h => by
    have hs := L2_step l h9 i (by omega)
    have ih := L2_run l h9 n (i + 1) (by omega)
    by_cases h1 : okR l i
    · rw [if_pos h1] at hs
      rw [Iter_next hs]
      refine ⟨fun h2 => ih.1 (fun j a b => h2 j a (by omega)), fun h2 => ih.2 (fun h3 => h2 (fun j a b => ?_))⟩
      by_cases e : j = i
      · subst e; exact h1
      · exact h3 j a (by omega)
    · rw [if_neg h1] at hs
      rw [Iter_end hs]
      exact ⟨fun h3 => absurd (h3 i (by omega) (Nat.le_refl _)) h1, fun _ => rfl⟩
theorem ck_iff (v : Nat → Int) : ckF (Cf.ofV v) = 0 ↔ (∀ j, j < 9 → 0 ≤ v j ∧ v j ≤ mostL.getD j 0) ∧ 1040 ≤ v 0 := by
  have hl : ∀ j, j < 9 → (Cf.ofV v).l.getD j 0 = v j := fun j hj => by
    rcases (by omega : j = 0 ∨ j = 1 ∨ j = 2 ∨ j = 3 ∨ j = 4 ∨ j = 5 ∨ j = 6 ∨ j = 7 ∨ j = 8) with rfl | rfl | rfl | rfl | rfl | rfl | rfl | rfl | rfl <;> rfl
  have hh : ∀ j, j < 9 → hiP j = mostL.getD j 0 := fun j hj => by
    rcases (by omega : j = 0 ∨ j = 1 ∨ j = 2 ∨ j = 3 ∨ j = 4 ∨ j = 5 ∨ j = 6 ∨ j = 7 ∨ j = 8) with rfl | rfl | rfl | rfl | rfl | rfl | rfl | rfl | rfl <;> rfl
  unfold ckF
  constructor
  · intro h
    have h1 : ∀ i : Fin 9, okAt (Cf.ofV v) i.val = true := by
      refine Classical.byContradiction (fun h2 => ?_)
      rw [if_neg h2] at h
      cases h
    have h2 : ∀ j, j < 9 → loP j ≤ v j ∧ v j ≤ mostL.getD j 0 := fun j hj => by
      have := h1 ⟨j, hj⟩
      unfold okAt at this
      simp only [Bool.and_eq_true, decide_eq_true_eq] at this
      rw [hl j hj, hh j hj] at this
      exact this
    refine ⟨fun j hj => ⟨?_, (h2 j hj).2⟩, ?_⟩
    · have := (h2 j hj).1
      unfold loP at this
      split at this <;> omega
    · have := (h2 0 (by decide)).1
      exact this
  · rintro ⟨h1, h2⟩
    rw [if_pos]
    intro i
    unfold okAt
    simp only [Bool.and_eq_true, decide_eq_true_eq]
    rw [hl _ i.isLt, hh _ i.isLt]
    refine ⟨?_, (h1 i.val i.isLt).2⟩
    unfold loP
    split
    · rename_i h; rw [h]; exact h2
    · exact (h1 i.val i.isLt).1
theorem ConfOfR_eq (l : List Int) : ConfOfR_F l = some (confOfF l) := by
  unfold ConfOfR_F confOfF
  by_cases h9 : l.length = 9
  · rw [if_pos h9, show ((l.length : Int) != 9) = false by simp; omega]
    simp only [cond_false]
    have hck := ck_iff (fun j => l.getD j 0)
    have hrun := L2_run l h9 9 0 rfl
    unfold confOfV
    by_cases h1 : ∀ j, j < 9 → 0 ≤ j → okR l j
    · have hr : Iter (ConfOfR_L2 l) 0 = some (.inr ()) := hrun.1 h1
      rw [hr]
      simp only [Option.bind_some, Sum.elim_inr]
      rw [chk_pos (by omega)]
      by_cases h2 : l.getD 0 0 < 1040
      · rw [show decide (l.getD (Int.toNat 0) default < 1040) = true from decide_eq_true h2, if_neg (fun h => by have := (hck.1 h).2; omega)]
        rfl
      · rw [show decide (l.getD (Int.toNat 0) default < 1040) = false from decide_eq_false h2, if_pos (hck.2 ⟨fun j hj => h1 j hj (Nat.zero_le _), by omega⟩)]
        simp only [cond_false]
        rw [chk_pos (by omega), chk_pos (by omega), chk_pos (by omega), chk_pos (by omega), chk_pos (by omega), chk_pos (by omega), chk_pos (by omega), chk_pos (by omega), chk_pos (by omega)]
        rfl
    · have hr : Iter (ConfOfR_L2 l) 0 = some (.inl (zCF, 1)) := hrun.2 h1
      rw [hr, if_neg (fun h => h1 (fun j hj _ => (hck.1 h).1 j hj))]
      rfl
  · rw [if_neg h9, show ((l.length : Int) != 9) = true by simp; omega]
    rfl
theorem confOfR_c (l : List Int) : FnP Tryz.prog 238 [SL 1 INTc l] (· = .tup [.agg (Cf.c (confOfF l).1), I64 (confOfF l).2]) := ConfOfR_w l _ (ConfOfR_eq l)

theorem ckR_c (x : Cf) : FnP Tryz.prog 240 [.agg (Cf.c x)] (· = I64 (ckF x)) := by
  have h0 : (confOfF x.l).2 = ckF x := by
    unfold confOfF
    rw [if_pos (show x.l.length = 9 from rfl)]
    have e : Cf.ofV (fun j => x.l.getD j 0) = x := rfl
    unfold confOfV
    rw [e]
    by_cases h : ckF x = 0
    · rw [if_pos h, h]
    · rw [if_neg h]
      unfold ckF at h ⊢
      split
      · rename_i h2; rw [if_pos h2] at h; exact absurd rfl h
      · rfl
  have h := ConfCheckR_w x (ckF x) (by
    unfold ConfCheckR_F
    rw [show ConfListR_F x = some x.l from rfl]
    simp only [Option.bind_some]
    rw [ConfOfR_eq]
    simp only [Option.bind_some]
    rw [h0])
  exact h
end Go.Proofs

/- The document's configuration of bytes, and bytes of one; both say the same. -/
set_option linter.unusedSimpArgs false
set_option linter.unusedVariables false
set_option maxRecDepth 100000
namespace Go.Proofs
open Go.Sy Go.Lib

def rRun : Nat → List UInt8 → Option (List Int × List UInt8)
  | 0, b => some ([], b)
  | n + 1, b => if (rInt 1048576 b).2.2 ≠ 0 then none else (rRun n (b.drop (rInt 1048576 b).2.1)).map fun r => ((rInt 1048576 b).1 :: r.1, r.2)
theorem rRun_len : ∀ {n : Nat} {b : List UInt8} {r : List Int × List UInt8}, rRun n b = some r → r.1.length = n
  | 0, b, r, h => by simp only [rRun, Option.some.injEq] at h; subst h; rfl
  | n + 1, b, r, h => by
    simp only [rRun] at h
    split at h
    · cases h
    · obtain ⟨q, h1, rfl⟩ := Option.map_eq_some_iff.1 h
      simp [rRun_len h1]
theorem rRun_succ (n : Nat) (b : List UInt8) : rRun (n + 1) b = if (rInt 1048576 b).2.2 ≠ 0 then none else (rRun n (b.drop (rInt 1048576 b).2.1)).map fun r => ((rInt 1048576 b).1 :: r.1, r.2) := rfl
theorem rRun_zero (b : List UInt8) : rRun 0 b = some ([], b) := rfl
def confTakeQ (q : Option (List Int × List UInt8)) : Cf × Int := match q with
  | none => (default, 1)
  | some r => if r.2 ≠ [] then (default, 1) else confOfF r.1
def confTakeR (b : List UInt8) : Cf × Int := confTakeQ (rRun 9 b)

/-- Both ways of taking a number say the same. -/
theorem rInt_intT (m : Nat) (hm : m ≤ 9223372036854775807) (l : List UInt8) : (rInt m l).2.2 = (intT m l).2.2 ∧ ((rInt m l).2.2 = 0 → rInt m l = intT m l ∧ (intT m l).1 = ((tk l).1 : Nat) ∧ (tk l).2.2 = 0) := by
  unfold rInt intT
  by_cases h1 : (tk l).2.2 = 0
  · rw [if_neg (fun h => h h1)]
    by_cases h2 : m < (tk l).1
    · rw [if_pos h2, if_pos ⟨h1, h2⟩]
      exact ⟨rfl, fun h => absurd h (show ¬((3 : Int) = 0) by decide)⟩
    · rw [if_neg h2, if_neg (fun h => h2 h.2)]
      refine ⟨h1.symm, fun _ => ⟨?_, w64 (by omega) (by omega), h1⟩⟩
      rw [w64 (by omega) (by omega), h1]
  · rw [if_pos h1, if_neg (fun h => h1 h.1)]
    exact ⟨rfl, fun h => absurd h h1⟩
theorem ctRun_err (b : List UInt8) : ∀ (n at_ : Nat) (e : Int), e ≠ 0 → (ctRun b n at_ e).2.2 ≠ 0
  | 0, _, e, h => h
  | n + 1, at_, e, h => by
    simp only [ctRun]
    refine ctRun_err b n _ _ ?_
    unfold rdE
    rw [if_pos h]; exact h
theorem run_run (b : List UInt8) : ∀ (n at_ : Nat), at_ ≤ b.length → (∀ r, rRun n (b.drop at_) = some r → ∃ a', a' ≤ b.length ∧ ctRun b n at_ 0 = (r.1, a', 0) ∧ r.2 = b.drop a') ∧ (rRun n (b.drop at_) = none → (ctRun b n at_ 0).2.2 ≠ 0)
  | 0, at_, h => ⟨fun r hr => by simp only [rRun, Option.some.injEq] at hr; subst hr; exact ⟨at_, h, rfl, rfl⟩, fun hr => by simp [rRun] at hr⟩
  | n + 1, at_, h => by
    obtain ⟨e1, e2⟩ := rInt_intT 1048576 (by decide) (b.drop at_)
    have hle := rdAt_le (e := 0) h 1048576
    by_cases h0 : (rInt 1048576 (b.drop at_)).2.2 = 0
    · obtain ⟨e3, e4, e5⟩ := e2 h0
      have hz : (intT 1048576 (b.drop at_)).2.2 = 0 := by rw [← e1]; exact h0
      have hat : rdAt at_ (intT 1048576 (b.drop at_)).2.1 0 (intT 1048576 (b.drop at_)).2.2 = at_ + (intT 1048576 (b.drop at_)).2.1 := by unfold rdAt; rw [if_neg (by decide), if_neg (fun hh => hh hz)]
      have hE : rdE 0 (intT 1048576 (b.drop at_)).2.2 = 0 := by unfold rdE; rw [if_neg (by decide)]; exact hz
      have hV : rdV 0 (intT 1048576 (b.drop at_)).1 0 (intT 1048576 (b.drop at_)).2.2 = (intT 1048576 (b.drop at_)).1 := by unfold rdV; rw [if_neg (by decide), if_neg (fun hh => hh hz)]
      rw [hat] at hle
      have ih := run_run b n (at_ + (intT 1048576 (b.drop at_)).2.1) hle
      simp only [rRun, ctRun]
      rw [if_neg (fun hh => hh h0), hat, hE, hV, e3, List.drop_drop]
      constructor
      · intro r hr
        obtain ⟨q, h1, rfl⟩ := Option.map_eq_some_iff.1 hr
        obtain ⟨a', g1, g2, g3⟩ := ih.1 q h1
        exact ⟨a', g1, by rw [g2], g3⟩
      · intro hr
        exact ih.2 (by simpa using hr)
    · simp only [rRun, ctRun]
      rw [if_pos h0]
      refine ⟨fun r hr => (by cases hr), fun _ => ctRun_err b n _ _ ?_⟩
      unfold rdE
      rw [if_neg (by decide), ← e1]; exact h0
theorem rdDone_bad (b : List UInt8) (at_ : Nat) (e : Int) (h : e ≠ 0) : rdDone b at_ e ≠ 0 := by
  unfold rdDone
  rw [if_pos h]; exact h
theorem rdDone_more (b : List UInt8) (at_ : Nat) (h : at_ < b.length) : rdDone b at_ 0 ≠ 0 := by
  unfold rdDone
  rw [if_neg (show ¬((0 : Int) ≠ 0) by decide), if_pos h]; decide
theorem rdDone_end (b : List UInt8) (at_ : Nat) (h : ¬at_ < b.length) : ¬rdDone b at_ 0 ≠ 0 := by
  unfold rdDone
  rw [if_neg (show ¬((0 : Int) ≠ 0) by decide), if_neg h]; decide
theorem confTake_same (b : List UInt8) : confTakeR b = confTakeF b := by
  have h := run_run b 9 0 (Nat.zero_le _)
  rw [List.drop_zero] at h
  unfold confTakeR confTakeQ confTakeF
  cases hr : rRun 9 b with
  | none =>
    rw [if_pos (rdDone_bad _ _ _ (h.2 hr))]
  | some r =>
    obtain ⟨a', g1, g2, g3⟩ := h.1 r hr
    rw [g2]
    by_cases h4 : a' < b.length
    · rw [if_pos (rdDone_more b a' h4)]
      show (if r.2 ≠ [] then _ else _) = _
      rw [if_pos (by rw [g3]; intro hh; have := congrArg List.length hh; simp at this; omega)]
    · rw [if_neg (rdDone_end b a' h4)]
      show (if r.2 ≠ [] then _ else _) = _
      rw [if_neg (fun hh => hh (by rw [g3, List.drop_eq_nil_iff]; omega))]

theorem confTakeR_c (b : List UInt8) (hb : b.length ≤ 9223372036854775807) : FnP Tryz.prog 176 [.s b] (· = .tup [.agg (Cf.c (confTakeF b).1), I64 (confTakeF b).2]) := by
  rw [← confTake_same]
  refine FnP.intro Tryz.tabOK Tryz.wide_ Tryz.func176 rfl (by decide) rfl (fun X => ?_)
  obtain ⟨q, hq⟩ : ∃ q, confTakeR b = q := ⟨_, rfl⟩
  rw [hq]
  unfold confTakeR at hq
  obtain ⟨Q, hQ⟩ : ∃ Q, rRun 9 b = Q := ⟨_, rfl⟩
  rw [hQ] at hq
  repeat (first | refine sc rfl ?_ | refine so rfl ?_ | refine sb rfl ?_)
  refine C_loop (fun s : Nat × List UInt8 × List Int => ⟨[(0, .s s.2.1), (3, I64 0), (2, .bp 2 0), (4, .own 25), (5, I64 (s.1 : Nat))], [.box 2 120 zCf, VEC 25 3 1 INTc s.2.2]⟩)
    (fun s => s.1 ≤ 9 ∧ s.2.1.length ≤ b.length ∧ s.2.2.length = s.1 ∧ ((rRun (9 - s.1) s.2.1).map fun r => (s.2.2 ++ r.1, r.2)) = Q) (fun s => 9 - s.1) (0, b, []) ⟨Nat.zero_le _, Nat.le_refl _, rfl, by show ((rRun 9 b).map fun r => (r.1, r.2)) = Q; rw [hQ]; cases Q <;> rfl⟩
    ((Le.nilvec (α := Int) INTc 4 25 3 1 rfl rfl rfl).trans (Le.sub [2, 25] ⟨rfl, rfl, rfl, rfl, rfl, trivial⟩ rfl)) ?_
  rintro ⟨i, s, l⟩ ⟨h1, h2, h3, h4⟩
  simp only [] at h1 h2 h3 h4
  repeat (first | refine sc rfl ?_ | refine so rfl ?_ | refine sb rfl ?_)
  refine C_if rfl (fun m1 => ?_) (fun m1 => ?_) <;> simp only [decide_eq_true_eq, decide_eq_false_iff_not, Bool.not_eq_true', Bool.not_eq_false', beq_iff_eq, beq_eq_false_iff_ne, bne_iff_ne, ne_eq, bne_eq_false_iff_eq, Decidable.not_not] at m1
  · have hi : i < 9 := by omega
    rw [show 9 - i = (9 - (i + 1)) + 1 by omega] at h4
    rw [rRun_succ] at h4
    have hR := rInt_intT 1048576 (by decide) s
    repeat (first | refine sc rfl ?_ | refine so rfl ?_ | refine sb rfl ?_)
    refine O_call (rInt_c 1048576 (by decide) s (by omega)) (by rfl) (by rfl) (by rfl) (by rfl) (fun r hr => ?_)
    subst hr
    obtain ⟨R, hRR⟩ : ∃ R, rInt 1048576 s = R := ⟨_, rfl⟩
    rw [hRR] at h4 hR ⊢
    repeat (first | refine sc rfl ?_ | refine so rfl ?_ | refine sb rfl ?_)
    refine C_if rfl (fun m2 => ?_) (fun m2 => ?_) <;> simp only [decide_eq_true_eq, decide_eq_false_iff_not, Bool.not_eq_true', Bool.not_eq_false', beq_iff_eq, beq_eq_false_iff_ne, bne_iff_ne, ne_eq, bne_eq_false_iff_eq, Decidable.not_not] at m2
    · rw [if_pos m2] at h4
      repeat (first | refine sc rfl ?_ | refine so rfl ?_ | refine sb rfl ?_)
      exact ⟨_, rfl, rfl, by rw [← hq, ← h4]; rfl⟩
    rw [if_neg (fun h => h m2)] at h4
    obtain ⟨e3, e4, e5⟩ := hR.2 m2
    have hk : R.2.1 ≤ s.length := by
      have := intT_end (m := 1048576) (l := s) (by rw [← e3]; exact m2)
      rw [← e3] at this; exact this
    repeat (first | refine sc rfl ?_ | refine so rfl ?_ | refine sb rfl ?_)
    refine O_push INTc l R.1 [(0, .s s), (3, I64 0), (2, .bp 2 0), (5, I64 (i : Nat)), (7, I64 ((R.2.1 : Nat) : Int))] rfl rfl rfl rfl rfl rfl rfl rfl rfl rfl ⟨rfl, rfl, rfl, rfl, rfl, trivial⟩ rfl rfl (by omega) (by simp only [maxLen]; omega) ?_
    repeat (first | refine sc rfl ?_ | refine so rfl ?_ | refine sb rfl ?_)
    refine ⟨by omega, ?_⟩
    rw [Int.toNat_natCast]
    repeat (first | refine sc rfl ?_ | refine so rfl ?_ | refine sb rfl ?_)
    rw [w64 (x := (i : Int) + 1) (by omega) (by omega)]
    refine ⟨(i + 1, s.drop R.2.1, l ++ [R.1]), ⟨by simp only []; omega, by simp; omega, by simp [h3], ?_⟩, by simp only []; omega, Le.sub [2, 25] ⟨rfl, rfl, rfl, rfl, rfl, trivial⟩ rfl⟩
    rw [← h4]
    show ((rRun (9 - (i + 1)) (s.drop R.2.1)).map fun r => ((l ++ [R.1]) ++ r.1, r.2)) = _
    cases rRun (9 - (i + 1)) (s.drop R.2.1) <;> simp
  · obtain rfl : i = 9 := by omega
    rw [Nat.sub_self, rRun_zero] at h4
    simp only [Option.map_some, List.append_nil] at h4
    rw [← h4] at hq
    simp only [confTakeQ] at hq
    repeat (first | refine sc rfl ?_ | refine so rfl ?_ | refine sb rfl ?_)
    refine C_if rfl (fun m2 => ?_) (fun m2 => ?_) <;> simp only [decide_eq_true_eq, decide_eq_false_iff_not, Bool.not_eq_true', Bool.not_eq_false', beq_iff_eq, beq_eq_false_iff_ne, bne_iff_ne, ne_eq, bne_eq_false_iff_eq, Decidable.not_not] at m2
    · rw [if_pos m2] at hq
      repeat (first | refine sc rfl ?_ | refine so rfl ?_ | refine sb rfl ?_)
      exact ⟨_, rfl, rfl, by rw [← hq]; rfl⟩
    · rw [if_neg (fun h => h m2)] at hq
      repeat (first | refine sc rfl ?_ | refine so rfl ?_ | refine sb rfl ?_)
      refine O_le _ (Le.freezeL 32 rfl rfl) ?_
      refine O_call (confOfR_c l) (by rfl) (by rfl) (by rfl) (by rfl) (fun r hr => ?_)
      subst hr
      rw [hq]
      repeat (first | refine sc rfl ?_ | refine so rfl ?_ | refine sb rfl ?_)
      exact ⟨_, rfl, rfl, rfl⟩
end Go.Proofs

/- The document's order as bytes, and its Put and Take. -/
set_option linter.unusedSimpArgs false
set_option linter.unusedVariables false
set_option maxRecDepth 100000
namespace Go.Proofs
open Go.Sy Go.Lib

theorem formF_bad {o : Ord} (h : o.op < 1 ∨ 6 < o.op ∨ o.owner < 1 ∨ 8 < o.owner) : formF o = 1 := if_pos h
theorem formF_good {o : Ord} (h : ¬(o.op < 1 ∨ 6 < o.op ∨ o.owner < 1 ∨ 8 < o.owner)) : formF o = if o.op = 1 ∨ o.op = 6 then ckF o.conf else 0 := if_neg h
theorem ConfCheckR_eq (x : Cf) : ConfCheckR_F x = some (ckF x) := by
  have h0 : (confOfF x.l).2 = ckF x := by
    unfold confOfF
    rw [if_pos (show x.l.length = 9 from rfl)]
    have e : Cf.ofV (fun j => x.l.getD j 0) = x := rfl
    unfold confOfV
    rw [e]
    by_cases h : ckF x = 0
    · rw [if_pos h, h]
    · rw [if_neg h]
      unfold ckF at h ⊢
      split
      · rename_i h2; rw [if_pos h2] at h; exact absurd rfl h
      · rfl
  unfold ConfCheckR_F
  rw [show ConfListR_F x = some x.l from rfl]
  simp only [Option.bind_some]
  rw [ConfOfR_eq]
  simp only [Option.bind_some]
  rw [h0]
theorem beqd (a b : Int) : (a == b) = decide (a = b) := rfl
theorem bned (a b : Int) : (a != b) = !decide (a = b) := rfl
theorem FormR_eq (o : Ord) : FormR_F o = some (decide (formF o = 0)) := by
  unfold FormR_F
  rw [ConfCheckR_eq]
  simp only [Option.bind_some, beqd, bned]
  by_cases h : o.op < 1 ∨ 6 < o.op ∨ o.owner < 1 ∨ 8 < o.owner
  · rw [formF_bad h]
    by_cases h1 : o.op < 1
    · rw [decide_eq_true h1]; rfl
    by_cases h2 : 6 < o.op
    · rw [decide_eq_false h1, decide_eq_true h2]; rfl
    by_cases h3 : o.owner < 1
    · rw [decide_eq_false h1, decide_eq_false h2, decide_eq_true h3]; rfl
    · rw [decide_eq_false h1, decide_eq_false h2, decide_eq_false h3, decide_eq_true (show 8 < o.owner by omega)]; rfl
  · rw [formF_good h]
    rw [decide_eq_false (show ¬o.op < 1 by omega), decide_eq_false (show ¬6 < o.op by omega), decide_eq_false (show ¬o.owner < 1 by omega), decide_eq_false (show ¬8 < o.owner by omega)]
    by_cases h5 : o.op = 1
    · rw [decide_eq_true h5, if_pos (Or.inl h5)]; rfl
    by_cases h6 : o.op = 6
    · rw [decide_eq_false h5, decide_eq_true h6, if_pos (Or.inr h6)]; rfl
    · rw [decide_eq_false h5, decide_eq_false h6, if_neg (by omega)]; rfl
theorem formR_c (o : Ord) : FnP Tryz.prog 178 [.agg (Ord.c o)] (· = B (decide (formF o = 0))) := FormR_w o _ (FormR_eq o)
theorem confListR_c (c : Cf) : FnP Tryz.prog 272 [.agg (Cf.c c)] (· = SL 1 INTc c.l) := ConfListR_w c _ rfl

theorem vput_le : ∀ (k n : Nat), n < 128 ^ (k + 1) → (vput n).length ≤ k + 1
  | 0, n, h => by rw [vput_lt (by omega)]; simp
  | k + 1, n, h => by
    by_cases h1 : n < 128
    · rw [vput_lt h1]; simp
    · rw [vput_ge h1, List.length_cons]
      have := vput_le k (n / 128) (by rw [Nat.div_lt_iff_lt_mul (by decide), ← Nat.pow_succ]; exact h)
      omega
theorem vput_10 {n : Nat} (h : n < 18446744073709551616) : (vput n).length ≤ 10 := vput_le 9 n (by omega)
def catV (l : List Int) : List UInt8 := l.flatMap fun x => vput x.toNat
theorem catV_le {l : List Int} (h : ∀ x ∈ l, 0 ≤ x ∧ x ≤ 9223372036854775807) : (catV l).length ≤ 10 * l.length := by
  induction l with
  | nil => exact Nat.zero_le _
  | cons a l ih =>
    have h1 := ih (fun x hx => h x (List.mem_cons_of_mem _ hx))
    have h2 := h a (List.mem_cons_self ..)
    have h3 := vput_10 (n := a.toNat) (by omega)
    simp only [catV, List.flatMap_cons, List.length_append, List.length_cons]
    unfold catV at h1
    omega
theorem catV_snoc (l : List Int) (n : Nat) : catV (l ++ [(n : Int)]) = catV l ++ vput n := by simp [catV]
def confPutF (c : Cf) : List UInt8 × Int := if ckF c ≠ 0 then ([], 1) else (catV c.l, 0)
theorem ck_nn {c : Cf} (h : ckF c = 0) : ∀ x ∈ c.l, 0 ≤ x ∧ x ≤ 9223372036854775807 := by
  have h1 := (ck_iff (fun j => c.l.getD j 0)).1 h
  intro x hx
  obtain ⟨i, hi, rfl⟩ := List.mem_iff_getElem.1 hx
  have h9 : c.l.length = 9 := rfl
  have := h1.1 i (by omega)
  simp only [List.getD_eq_getElem?_getD, List.getElem?_eq_getElem hi, Option.getD_some] at this
  refine ⟨this.1, Int.le_trans this.2 ?_⟩
  have hm : ∀ j : Fin 9, mostL.getD j.val 0 ≤ 9223372036854775807 := by decide
  simpa using hm ⟨i, by omega⟩
theorem confPut_c (c : Cf) : FnP Tryz.prog 239 [.agg (Cf.c c)] (· = .tup [.s (confPutF c).1, I64 (confPutF c).2]) := by
  refine FnP.intro Tryz.tabOK Tryz.wide_ Tryz.func239 rfl (by decide) rfl (fun X => ?_)
  obtain ⟨q, hq⟩ : ∃ q, confPutF c = q := ⟨_, rfl⟩
  rw [hq]
  unfold confPutF at hq
  repeat (first | refine sc rfl ?_ | refine so rfl ?_ | refine sb rfl ?_)
  refine O_call (ckR_c c) (by rfl) (by rfl) (by rfl) (by rfl) (fun r hr => ?_)
  subst hr
  repeat (first | refine sc rfl ?_ | refine so rfl ?_ | refine sb rfl ?_)
  refine C_if rfl (fun m1 => ?_) (fun m1 => ?_) <;> simp only [decide_eq_true_eq, decide_eq_false_iff_not, Bool.not_eq_true', Bool.not_eq_false', beq_iff_eq, beq_eq_false_iff_ne, bne_iff_ne, ne_eq, bne_eq_false_iff_eq, Decidable.not_not] at m1
  · rw [if_pos m1] at hq
    repeat (first | refine sc rfl ?_ | refine so rfl ?_ | refine sb rfl ?_)
    exact ⟨_, rfl, rfl, by rw [← hq]⟩
  rw [if_neg (fun h => h m1)] at hq
  have hnn := ck_nn (c := c) m1
  obtain ⟨L, hL⟩ : ∃ L, c.l = L := ⟨_, rfl⟩
  have h9 : L.length = 9 := by rw [← hL]; rfl
  rw [hL] at hnn hq
  repeat (first | refine sc rfl ?_ | refine so rfl ?_ | refine sb rfl ?_)
  refine O_call (confListR_c c) (by rfl) (by rfl) (by rfl) (by rfl) (fun r hr => ?_)
  subst hr
  rw [hL]
  repeat (first | refine sc rfl ?_ | refine so rfl ?_ | refine sb rfl ?_)
  refine C_loop (fun i : Nat => ⟨[(2, .s []), (3, I64 0), (4, SL 1 INTc L), (5, .s (catV (L.take i))), (6, I64 (i : Nat))], []⟩)
    (fun i => i ≤ 9) (fun i => 9 - i) 0 (by decide)
    (Le.sub [] ⟨rfl, rfl, rfl, rfl, rfl, trivial⟩ rfl) ?_
  intro i h1
  repeat (first | refine sc rfl ?_ | refine so rfl ?_ | refine sb rfl ?_)
  refine C_if rfl (fun m2 => ?_) (fun m2 => ?_) <;> simp only [decide_eq_true_eq, decide_eq_false_iff_not, Bool.not_eq_true', Bool.not_eq_false', beq_iff_eq, beq_eq_false_iff_ne, bne_iff_ne, ne_eq, bne_eq_false_iff_eq, Decidable.not_not] at m2
  · have hi : i < L.length := by omega
    have hx := hnn L[i] (List.getElem_mem hi)
    have hg : L.getD i default = L[i] := by simp [List.getD_eq_getElem?_getD, List.getElem?_eq_getElem hi]
    repeat (first | refine sc rfl ?_ | refine so rfl ?_ | refine sb rfl ?_)
    refine ⟨by omega, ?_⟩
    simp only [Int.toNat_natCast, hg]
    repeat (first | refine sc rfl ?_ | refine so rfl ?_ | refine sb rfl ?_)
    obtain ⟨n, hn⟩ : ∃ n : Nat, L[i] = (n : Int) := ⟨L[i].toNat, by omega⟩
    rw [hn] at hx
    have hw : IntKind.u64.wrap (n : Int) = (n : Int) := u64wrap (by omega) (by omega)
    rw [hn, hw]
    repeat (first | refine sc rfl ?_ | refine so rfl ?_ | refine sb rfl ?_)
    refine O_call (refPut01_p n (by omega)) (by rfl) (by rfl) (by rfl) (by rfl) (fun r hr => ?_)
    subst hr
    repeat (first | refine sc rfl ?_ | refine so rfl ?_ | refine sb rfl ?_)
    have hc : (catV (L.take i)).length ≤ 10 * i := by
      have := catV_le (l := L.take i) (fun x hx => hnn x (List.mem_of_mem_take hx))
      rw [List.length_take] at this
      omega
    have hv := vput_10 (n := n) (by omega)
    refine ⟨by omega, ?_⟩
    rw [← catV_snoc, ← hn, show L.take i ++ [L[i]] = L.take (i + 1) from List.take_append_getElem hi]
    repeat (first | refine sc rfl ?_ | refine so rfl ?_ | refine sb rfl ?_)
    rw [w64 (x := (i : Int) + 1) (by omega) (by omega)]
    exact ⟨i + 1, by omega, by omega, Le.sub [] ⟨rfl, rfl, rfl, rfl, rfl, trivial⟩ rfl⟩
  · obtain rfl : i = 9 := by omega
    rw [List.take_of_length_le (by omega)]
    repeat (first | refine sc rfl ?_ | refine so rfl ?_ | refine sb rfl ?_)
    exact ⟨_, rfl, rfl, by rw [← hq]⟩
end Go.Proofs

/- The document's order as bytes, and its Put. -/
set_option linter.unusedSimpArgs false
set_option linter.unusedVariables false
set_option maxRecDepth 100000
namespace Go.Proofs
open Go.Sy Go.Lib

def ordHead (o : Ord) : List UInt8 := vput o.id.toNat ++ vput o.op.toNat ++ vput o.owner.toNat
def ordPutF (o : Ord) : List UInt8 × Int := if formF o ≠ 0 then ([], 1) else (if o.op = 1 ∨ o.op = 6 then ordHead o ++ (confPutF o.conf).1 else ordHead o, 0)
theorem confPut_le (c : Cf) : (confPutF c).1.length ≤ 90 := by
  unfold confPutF
  split
  · simp
  · rename_i h
    exact catV_le (l := c.l) (ck_nn (Decidable.not_not.1 h))
theorem ordPut_c (o : Ord) (h0 : 0 ≤ o.id) (h1 : o.id < 18446744073709551616) : FnP Tryz.prog 177 [.agg (Ord.c o)] (· = .tup [.s (ordPutF o).1, I64 (ordPutF o).2]) := by
  refine FnP.intro Tryz.tabOK Tryz.wide_ Tryz.func177 rfl (by decide) rfl (fun X => ?_)
  obtain ⟨q, hq⟩ : ∃ q, ordPutF o = q := ⟨_, rfl⟩
  rw [hq]
  unfold ordPutF at hq
  repeat (first | refine sc rfl ?_ | refine so rfl ?_ | refine sb rfl ?_)
  refine O_call (formR_c o) (by rfl) (by rfl) (by rfl) (by rfl) (fun r hr => ?_)
  subst hr
  repeat (first | refine sc rfl ?_ | refine so rfl ?_ | refine sb rfl ?_)
  refine C_if rfl (fun m1 => ?_) (fun m1 => ?_) <;> simp only [decide_eq_true_eq, decide_eq_false_iff_not, Bool.not_eq_true', Bool.not_eq_false', beq_iff_eq, beq_eq_false_iff_ne, bne_iff_ne, ne_eq, bne_eq_false_iff_eq, Decidable.not_not] at m1
  · rw [if_pos m1] at hq
    repeat (first | refine sc rfl ?_ | refine so rfl ?_ | refine sb rfl ?_)
    exact ⟨_, rfl, rfl, by rw [← hq]⟩
  rw [if_neg (fun h => h m1)] at hq
  have hf : ¬(o.op < 1 ∨ 6 < o.op ∨ o.owner < 1 ∨ 8 < o.owner) := fun h => by rw [formF_bad h] at m1; cases m1
  obtain ⟨id, hid⟩ : ∃ n : Nat, o.id = (n : Int) := ⟨o.id.toNat, by omega⟩
  obtain ⟨op, hop⟩ : ∃ n : Nat, o.op = (n : Int) := ⟨o.op.toNat, by omega⟩
  obtain ⟨ow, how⟩ : ∃ n : Nat, o.owner = (n : Int) := ⟨o.owner.toNat, by omega⟩
  have e0 : ordHead o = vput id ++ vput op ++ vput ow := by unfold ordHead; rw [hid, hop, how]; rfl
  obtain ⟨H, hH⟩ : ∃ H, ordHead o = H := ⟨_, rfl⟩
  rw [e0] at hH
  rw [e0, hH] at hq
  have l1 := vput_10 (n := id) (by omega)
  have l2 := vput_10 (n := op) (by omega)
  have l3 := vput_10 (n := ow) (by omega)
  have l4 := confPut_le o.conf
  have l5 : H.length ≤ 30 := by rw [← hH]; simp only [List.length_append]; omega
  repeat (first | refine sc rfl ?_ | refine so rfl ?_ | refine sb rfl ?_)
  rw [hid, hop, how]
  refine C_drawD rfl (by kernel_rfl) ?_
  repeat (first | refine sd rfl ?_ | refine sdb rfl ?_ | refine sds rfl ?_)
  refine D_call (refPut01_p id (by omega)) rfl rfl rfl rfl ?_
  repeat (first | refine sd rfl ?_ | refine sdb rfl ?_ | refine sds rfl ?_)
  rw [u64wrap (x := (op : Int)) (by omega) (by omega)]
  refine D_call (refPut01_p op (by omega)) rfl rfl rfl rfl ?_
  repeat (first | refine sd rfl ?_ | refine sdb rfl ?_ | refine sds rfl ?_)
  refine ⟨by omega, ?_⟩
  repeat (first | refine sd rfl ?_ | refine sdb rfl ?_ | refine sds rfl ?_)
  rw [u64wrap (x := (ow : Int)) (by omega) (by omega)]
  refine D_call (refPut01_p ow (by omega)) rfl rfl rfl rfl ?_
  repeat (first | refine sd rfl ?_ | refine sdb rfl ?_ | refine sds rfl ?_)
  refine ⟨by simp only [List.length_append]; omega, ?_⟩
  rw [hH]
  repeat (first | refine sd rfl ?_ | refine sdb rfl ?_ | refine sds rfl ?_)
  repeat (first | refine sc rfl ?_ | refine so rfl ?_ | refine sb rfl ?_)
  rw [hop] at hq
  have fin : ∀ C : List UInt8 × Int, confPutF o.conf = C → (op : Int) = 1 ∨ (op : Int) = 6 → (H ++ C.1, (0 : Int)) = q := fun C hC h => by rw [← hq, if_pos h, hC]
  refine O_case 26 rfl (fun m2 => ?_) (fun m2 => ?_) <;> simp only [decide_eq_true_eq, decide_eq_false_iff_not, Bool.not_eq_true', Bool.not_eq_false', beq_iff_eq, beq_eq_false_iff_ne, bne_iff_ne, ne_eq, bne_eq_false_iff_eq, Decidable.not_not] at m2
  · repeat (first | refine sc rfl ?_ | refine so rfl ?_ | refine sb rfl ?_)
    refine C_true rfl rfl ?_
    repeat (first | refine sc rfl ?_ | refine so rfl ?_ | refine sb rfl ?_)
    refine O_call (confPut_c o.conf) (by rfl) (by rfl) (by rfl) (by rfl) (fun r hr => ?_)
    subst hr
    obtain ⟨C, hC⟩ : ∃ C, confPutF o.conf = C := ⟨_, rfl⟩
    rw [hC] at l4 ⊢
    repeat (first | refine sc rfl ?_ | refine so rfl ?_ | refine sb rfl ?_)
    refine ⟨by omega, ?_⟩
    repeat (first | refine sc rfl ?_ | refine so rfl ?_ | refine sb rfl ?_)
    exact ⟨_, rfl, rfl, by rw [← fin C hC (Or.inl m2)]⟩
  repeat (first | refine sc rfl ?_ | refine so rfl ?_ | refine sb rfl ?_)
  refine C_if rfl (fun m3 => ?_) (fun m3 => ?_) <;> simp only [decide_eq_true_eq, decide_eq_false_iff_not, Bool.not_eq_true', Bool.not_eq_false', beq_iff_eq, beq_eq_false_iff_ne, bne_iff_ne, ne_eq, bne_eq_false_iff_eq, Decidable.not_not] at m3
  · repeat (first | refine sc rfl ?_ | refine so rfl ?_ | refine sb rfl ?_)
    refine O_call (confPut_c o.conf) (by rfl) (by rfl) (by rfl) (by rfl) (fun r hr => ?_)
    subst hr
    obtain ⟨C, hC⟩ : ∃ C, confPutF o.conf = C := ⟨_, rfl⟩
    rw [hC] at l4 ⊢
    repeat (first | refine sc rfl ?_ | refine so rfl ?_ | refine sb rfl ?_)
    refine ⟨by omega, ?_⟩
    repeat (first | refine sc rfl ?_ | refine so rfl ?_ | refine sb rfl ?_)
    exact ⟨_, rfl, rfl, by rw [← fin C hC (Or.inr m3)]⟩
  · repeat (first | refine sc rfl ?_ | refine so rfl ?_ | refine sb rfl ?_)
    exact ⟨_, rfl, rfl, by rw [← hq, if_neg (by omega)]⟩
theorem rInt_good {m : Nat} {b : List UInt8} (h : (rInt m b).2.2 = 0) : ∃ n k, tk b = (n, k, 0) ∧ n ≤ m ∧ rInt m b = ((n : Int), k, 0) := by
  unfold rInt at h ⊢
  generalize tk b = t at h ⊢
  obtain ⟨n, k, e⟩ := t
  simp only [] at h ⊢
  by_cases h1 : e = 0
  · subst h1
    rw [if_neg (by decide)] at h ⊢
    by_cases h2 : m < n
    · rw [if_pos h2] at h; exact absurd h (by decide)
    · rw [if_neg h2]; exact ⟨n, k, rfl, by omega, rfl⟩
  · rw [if_pos h1] at h; exact absurd h h1
theorem rInt_at {m n k : Nat} {b : List UInt8} (h : tk b = (n, k, 0)) (hn : n ≤ m) : rInt m b = ((n : Int), k, 0) := by
  unfold rInt; rw [h]; simp only []
  rw [if_neg (show ¬((0 : Int) ≠ 0) by decide), if_neg (by omega)]
theorem intT_at {m n k : Nat} {b : List UInt8} (hm : m ≤ 9223372036854775807) (h : tk b = (n, k, 0)) (hn : n ≤ m) : intT m b = ((n : Int), k, 0) := by
  have h1 := rInt_at h hn
  rw [← ((rInt_intT m hm b).2 (by rw [h1])).1, h1]
/-- What a table of bytes says is put back as it was. -/
theorem rRun_put : ∀ {n : Nat} {b : List UInt8} {r : List Int × List UInt8}, rRun n b = some r → b = catV r.1 ++ r.2
  | 0, b, r, h => by simp only [rRun, Option.some.injEq] at h; subst h; rfl
  | n + 1, b, r, h => by
    rw [rRun_succ] at h
    split at h
    · cases h
    · rename_i h0
      obtain ⟨q, h1, rfl⟩ := Option.map_eq_some_iff.1 h
      have h2 := rRun_put h1
      obtain ⟨m, k, e1, e2, e3⟩ := rInt_good (Decidable.not_not.1 h0)
      rw [e3] at h2 ⊢
      have h3 := (tk_take e1).1
      show b = (vput m ++ catV q.1) ++ q.2
      rw [List.append_assoc, ← h2, ← h3, List.take_append_drop]
theorem rdAt_0 (a k : Nat) : rdAt a k 0 0 = a + k := by unfold rdAt; rw [if_neg (by decide), if_neg (by decide)]
theorem rdE_0 (e : Int) : rdE 0 e = e := by unfold rdE; rw [if_neg (by decide)]
theorem rdE_b {e : Int} (h : e ≠ 0) (x : Int) : rdE e x = e := by unfold rdE; rw [if_pos h]
theorem rdV_0 {α : Type} (d v : α) : rdV d v 0 0 = v := by unfold rdV; rw [if_neg (by decide), if_neg (by decide)]

def ordFin (b : List UInt8) (o : Ord) : Ord × Int := if (ordPutF o).2 ≠ 0 ∨ (ordPutF o).1 ≠ b then (default, 1) else (o, 0)
def ordTakeF (b : List UInt8) : Ord × Int :=
  if (tk b).2.2 ≠ 0 then (default, 1) else
  if (rInt 6 (b.drop (tk b).2.1)).2.2 ≠ 0 then (default, 1) else
  if (rInt 8 (b.drop ((tk b).2.1 + (rInt 6 (b.drop (tk b).2.1)).2.1))).2.2 ≠ 0 then (default, 1) else
  let T1 := tk b
  let T2 := rInt 6 (b.drop T1.2.1)
  let T3 := rInt 8 (b.drop (T1.2.1 + T2.2.1))
  let rest := b.drop (T1.2.1 + T2.2.1 + T3.2.1)
  if T2.1 = 1 ∨ T2.1 = 6 then
    if (confTakeF rest).2 ≠ 0 then (default, 1) else ordFin b ⟨(T1.1 : Nat), T2.1, T3.1, (confTakeF rest).1⟩
  else ordFin b ⟨(T1.1 : Nat), T2.1, T3.1, default⟩
theorem ordPut_err (o : Ord) : (ordPutF o).2 ≠ 0 ↔ formF o ≠ 0 := by
  unfold ordPutF
  by_cases h : formF o ≠ 0
  · rw [if_pos h]; exact ⟨fun _ => h, fun _ => by decide⟩
  · rw [if_neg h]; exact ⟨fun h2 => absurd rfl h2, fun h2 => absurd h2 h⟩
theorem confTake_put {b : List UInt8} (h : ¬(confTakeF b).2 ≠ 0) : confPutF (confTakeF b).1 = (b, 0) := by
  rw [← confTake_same] at h ⊢
  unfold confTakeR at h ⊢
  cases hr : rRun 9 b with
  | none => rw [hr] at h; exact absurd (show (1 : Int) ≠ 0 by decide) h
  | some r =>
    rw [hr] at h
    simp only [confTakeQ] at h ⊢
    by_cases h2 : r.2 ≠ []
    · rw [if_pos h2] at h; exact absurd (show (1 : Int) ≠ 0 by decide) h
    · rw [if_neg h2] at h ⊢
      have h3 := Decidable.not_not.1 h2
      have h4 := rRun_put hr
      have h5 := rRun_len hr
      rw [h3, List.append_nil] at h4
      unfold confOfF at h ⊢
      rw [if_pos h5] at h ⊢
      unfold confOfV at h ⊢
      by_cases h6 : ckF (Cf.ofV fun j => r.1.getD j 0) = 0
      · rw [if_pos h6]
        show confPutF (Cf.ofV fun j => r.1.getD j 0) = _
        unfold confPutF
        rw [if_neg (fun h => h h6)]
        have h7 : (Cf.ofV fun j => r.1.getD j 0).l = r.1 := by
          obtain ⟨l, r2⟩ := r
          simp only [] at h5
          match l, h5 with
          | [a0, a1, a2, a3, a4, a5, a6, a7, a8], _ => rfl
        rw [h7, h4]
      · rw [if_neg h6] at h; exact absurd (show (1 : Int) ≠ 0 by decide) h
theorem adTake_b1 {b : List UInt8} (h : (tk b).2.2 ≠ 0) : adTakeF b = (default, 1) := by
  unfold adTakeF
  refine if_pos (rdDone_bad _ _ _ ?_)
  rw [rdE_0, rdE_b h, rdE_b h, rdE_b h]; exact h
theorem adTake_b2 {b : List UInt8} {n1 k1 : Nat} (h1 : tk b = (n1, k1, 0)) (h : (rInt 6 (b.drop k1)).2.2 ≠ 0) : adTakeF b = (default, 1) := by
  rw [(rInt_intT 6 (by decide) (b.drop k1)).1] at h
  unfold adTakeF
  rw [h1]
  simp only [rdAt_0, rdE_0, rdV_0, Nat.zero_add]
  refine if_pos (rdDone_bad _ _ _ ?_)
  rw [rdE_b h, rdE_b h]; exact h
theorem adTake_b3 {b : List UInt8} {n1 k1 n2 k2 : Nat} (h1 : tk b = (n1, k1, 0)) (h2 : tk (b.drop k1) = (n2, k2, 0)) (l2 : n2 ≤ 6) (h : (rInt 8 (b.drop (k1 + k2))).2.2 ≠ 0) : adTakeF b = (default, 1) := by
  rw [(rInt_intT 8 (by decide) (b.drop (k1 + k2))).1] at h
  unfold adTakeF
  rw [h1]
  simp only [rdAt_0, rdE_0, rdV_0, Nat.zero_add]
  rw [intT_at (by decide) h2 l2]
  simp only [rdAt_0, rdE_0, rdV_0, Nat.zero_add]
  refine if_pos (rdDone_bad _ _ _ ?_)
  rw [rdE_b h]; exact h
theorem ordFin_bad {b : List UInt8} {o : Ord} (h : formF o ≠ 0) : ordFin b o = (default, 1) := if_pos (Or.inl ((ordPut_err o).2 h))
theorem ordFin_eq {b : List UInt8} {o : Ord} (h : ¬formF o ≠ 0) (h2 : (ordPutF o).1 = b) : ordFin b o = (o, 0) := if_neg (fun h3 => h3.elim (fun h4 => h ((ordPut_err o).1 h4)) (fun h4 => h4 h2))
theorem ordFin_ne {b : List UInt8} {o : Ord} (h2 : (ordPutF o).1 ≠ b) : ordFin b o = (default, 1) := if_pos (Or.inr h2)
theorem ordTake_same (b : List UInt8) : ordTakeF b = adTakeF b := by
  by_cases h1 : (tk b).2.2 ≠ 0
  · rw [adTake_b1 h1]; exact if_pos h1
  obtain ⟨n1, k1, t1⟩ : ∃ n1 k1, tk b = (n1, k1, 0) := ⟨(tk b).1, (tk b).2.1, by rw [← Decidable.not_not.1 h1]⟩
  by_cases h2 : (rInt 6 (b.drop k1)).2.2 ≠ 0
  · rw [adTake_b2 t1 h2]
    unfold ordTakeF
    rw [if_neg h1, t1]
    exact if_pos h2
  obtain ⟨n2, k2, t2, l2, r2⟩ := rInt_good (Decidable.not_not.1 h2)
  by_cases h3 : (rInt 8 (b.drop (k1 + k2))).2.2 ≠ 0
  · rw [adTake_b3 t1 t2 l2 h3]
    unfold ordTakeF
    rw [if_neg h1, t1]
    simp only []
    rw [if_neg h2, r2]
    exact if_pos h3
  obtain ⟨n3, k3, t3, l3, r3⟩ := rInt_good (Decidable.not_not.1 h3)
  obtain ⟨p1, q1, s1, u1⟩ := tk_take t1
  obtain ⟨p2, q2, s2, u2⟩ := tk_take t2
  obtain ⟨p3, q3, s3, u3⟩ := tk_take t3
  simp only [List.length_drop] at s2 s3
  unfold ordTakeF adTakeF
  rw [if_neg h1, t1]
  simp only [rdAt_0, rdE_0, rdV_0, Nat.zero_add]
  rw [if_neg h2, r2, intT_at (by decide) t2 l2]
  simp only [rdAt_0, rdE_0, rdV_0, Nat.zero_add]
  rw [if_neg h3, r3, intT_at (by decide) t3 l3]
  simp only [rdAt_0, rdE_0, rdV_0, Nat.zero_add]
  rw [if_neg (rdDone_end b _ (by omega))]
  obtain ⟨rest, hrest⟩ : ∃ rest, b.drop (k1 + k2 + k3) = rest := ⟨_, rfl⟩
  have hb : b = (vput n1 ++ vput n2 ++ vput n3) ++ rest := by
    rw [← hrest, ← p1, ← p2, ← p3, ← List.take_add, ← List.take_add, List.take_append_drop]
  rw [hrest]
  by_cases h4 : (n2 : Int) = 1 ∨ (n2 : Int) = 6
  · rw [if_pos h4, if_pos h4]
    by_cases h5 : (confTakeF rest).2 ≠ 0
    · rw [if_pos h5, if_pos h5]
    · rw [if_neg h5, if_neg h5]
      by_cases h6 : formF ⟨(n1 : Int), (n2 : Int), (n3 : Int), (confTakeF rest).1⟩ ≠ 0
      · rw [if_pos h6, ordFin_bad h6]
      · rw [if_neg h6, ordFin_eq h6]
        unfold ordPutF
        rw [if_neg h6]
        simp only []
        rw [if_pos h4, confTake_put h5]
        exact hb.symm
  · rw [if_neg h4, if_neg h4]
    by_cases h6 : formF ⟨(n1 : Int), (n2 : Int), (n3 : Int), default⟩ ≠ 0
    · rw [ordFin_bad h6]
      split
      · rfl
      · rfl
    · have hp : (ordPutF ⟨(n1 : Int), (n2 : Int), (n3 : Int), default⟩).1 = vput n1 ++ vput n2 ++ vput n3 := by
        unfold ordPutF
        rw [if_neg h6]
        simp only []
        rw [if_neg h4]
        rfl
      by_cases h7 : rest ≠ []
      · rw [if_pos h7, ordFin_ne]
        rw [hp, hb]
        intro h8
        exact h7 (List.self_eq_append_right.1 h8)
      · rw [if_neg h7, if_neg h6, ordFin_eq h6]
        rw [hp, hb, Decidable.not_not.1 h7, List.append_nil]
end Go.Proofs

/- The document's order of bytes, and what was done. -/
set_option linter.unusedSimpArgs false
set_option linter.unusedVariables false
set_option maxRecDepth 100000
namespace Go.Proofs
open Go.Sy Go.Lib

theorem ordTake_c (b : List UInt8) (hb : b.length ≤ 9223372036854775807) : FnP Tryz.prog 106 [.s b] (· = .tup [.agg (Ord.c (adTakeF b).1), I64 (adTakeF b).2]) := by
  rw [← ordTake_same]
  refine FnP.intro Tryz.tabOK Tryz.wide_ Tryz.func106 rfl (by decide) rfl (fun X => ?_)
  obtain ⟨q, hq⟩ : ∃ q, ordTakeF b = q := ⟨_, rfl⟩
  rw [hq]
  unfold ordTakeF at hq
  repeat (first | refine sc rfl ?_ | refine so rfl ?_ | refine sb rfl ?_)
  refine O_call (refTake01_p b hb) (by rfl) (by rfl) (by rfl) (by rfl) (fun r hr => ?_)
  subst hr
  repeat (first | refine sc rfl ?_ | refine so rfl ?_ | refine sb rfl ?_)
  refine C_if rfl (fun m1 => ?_) (fun m1 => ?_) <;> simp only [decide_eq_true_eq, decide_eq_false_iff_not, Bool.not_eq_true', Bool.not_eq_false', beq_iff_eq, beq_eq_false_iff_ne, bne_iff_ne, ne_eq, bne_eq_false_iff_eq, Decidable.not_not] at m1
  · rw [if_pos m1] at hq
    repeat (first | refine sc rfl ?_ | refine so rfl ?_ | refine sb rfl ?_)
    exact ⟨_, rfl, rfl, by rw [← hq]; rfl⟩
  rw [if_neg (fun h => h m1)] at hq
  obtain ⟨n1, k1, t1⟩ : ∃ n1 k1, tk b = (n1, k1, 0) := ⟨(tk b).1, (tk b).2.1, by rw [← m1]⟩
  obtain ⟨p1, q1, s1, u1⟩ := tk_take t1
  rw [t1] at hq ⊢
  simp only [] at hq ⊢
  repeat (first | refine sc rfl ?_ | refine so rfl ?_ | refine sb rfl ?_)
  refine ⟨by omega, ?_⟩
  rw [Int.toNat_natCast]
  repeat (first | refine sc rfl ?_ | refine so rfl ?_ | refine sb rfl ?_)
  refine O_call (rInt_c 6 (by decide) (b.drop k1) (by simp; omega)) (by rfl) (by rfl) (by rfl) (by rfl) (fun r hr => ?_)
  subst hr
  repeat (first | refine sc rfl ?_ | refine so rfl ?_ | refine sb rfl ?_)
  refine C_if rfl (fun m2 => ?_) (fun m2 => ?_) <;> simp only [decide_eq_true_eq, decide_eq_false_iff_not, Bool.not_eq_true', Bool.not_eq_false', beq_iff_eq, beq_eq_false_iff_ne, bne_iff_ne, ne_eq, bne_eq_false_iff_eq, Decidable.not_not] at m2
  · rw [if_pos m2] at hq
    repeat (first | refine sc rfl ?_ | refine so rfl ?_ | refine sb rfl ?_)
    exact ⟨_, rfl, rfl, by rw [← hq]; rfl⟩
  rw [if_neg (fun h => h m2)] at hq
  obtain ⟨n2, k2, t2, l2, r2⟩ := rInt_good m2
  obtain ⟨p2, q2, s2, u2⟩ := tk_take t2
  rw [r2] at hq ⊢
  simp only [] at hq ⊢
  simp only [List.length_drop] at s2
  repeat (first | refine sc rfl ?_ | refine so rfl ?_ | refine sb rfl ?_)
  rw [w64 (x := (k1 : Int) + (k2 : Int)) (by omega) (by omega)]
  repeat (first | refine sc rfl ?_ | refine so rfl ?_ | refine sb rfl ?_)
  refine ⟨by omega, ?_⟩
  rw [show ((k1 : Int) + (k2 : Int)).toNat = k1 + k2 by omega]
  repeat (first | refine sc rfl ?_ | refine so rfl ?_ | refine sb rfl ?_)
  refine O_call (rInt_c 8 (by decide) (b.drop (k1 + k2)) (by simp; omega)) (by rfl) (by rfl) (by rfl) (by rfl) (fun r hr => ?_)
  subst hr
  repeat (first | refine sc rfl ?_ | refine so rfl ?_ | refine sb rfl ?_)
  refine C_if rfl (fun m3 => ?_) (fun m3 => ?_) <;> simp only [decide_eq_true_eq, decide_eq_false_iff_not, Bool.not_eq_true', Bool.not_eq_false', beq_iff_eq, beq_eq_false_iff_ne, bne_iff_ne, ne_eq, bne_eq_false_iff_eq, Decidable.not_not] at m3
  · rw [if_pos m3] at hq
    repeat (first | refine sc rfl ?_ | refine so rfl ?_ | refine sb rfl ?_)
    exact ⟨_, rfl, rfl, by rw [← hq]; rfl⟩
  rw [if_neg (fun h => h m3)] at hq
  obtain ⟨n3, k3, t3, l3, r3⟩ := rInt_good m3
  obtain ⟨p3, q3, s3, u3⟩ := tk_take t3
  rw [r3] at hq ⊢
  simp only [] at hq ⊢
  simp only [List.length_drop] at s3
  obtain ⟨rest, hrest⟩ : ∃ rest, b.drop (k1 + k2 + k3) = rest := ⟨_, rfl⟩
  have hrl : rest.length ≤ 9223372036854775807 := by rw [← hrest]; simp; omega
  rw [hrest] at hq
  obtain ⟨K, hK⟩ : ∃ K, confTakeF rest = K := ⟨_, rfl⟩
  rw [hK] at hq
  have z12 : ∃ z : List AV, z = [AV.v (.int .u64 0), I64 0, I64 0, I64 0, I64 0, I64 0, I64 0, I64 0, I64 0, I64 0, I64 0, I64 0] := ⟨_, rfl⟩
  repeat (first | refine sc rfl ?_ | refine so rfl ?_ | refine sb rfl ?_)
  refine O_join ⟨[(0, .s b), (2, .bp 2 0), (11, .bp 11 0), (5, I64 (k1 : Nat)), (8, I64 (k2 : Nat)), (10, I64 (k3 : Nat)), (57, B (decide ((n2 : Int) = 1 ∨ (n2 : Int) = 6)))], [.box 11 134 (Ord.c ⟨(n1 : Int), (n2 : Int), (n3 : Int), default⟩), .box 2 134 (Ord.c default)]⟩ ?_ (fun s h => C_le _ h ?_)
  · refine O_case 54 rfl (fun h5 => ?_) (fun h5 => ?_) <;> simp only [decide_eq_true_eq, decide_eq_false_iff_not, Bool.not_eq_true', Bool.not_eq_false', beq_iff_eq, beq_eq_false_iff_ne, bne_iff_ne, ne_eq, bne_eq_false_iff_eq, Decidable.not_not] at h5
    · repeat (first | refine sc rfl ?_ | refine so rfl ?_ | refine sb rfl ?_)
      exact Le.sub [11, 2] ⟨rfl, rfl, rfl, rfl, rfl, rfl, congrArg (fun x => some (B x)) (by rw [Bool.eq_iff_iff]; simp; omega), trivial⟩ rfl
    · repeat (first | refine sc rfl ?_ | refine so rfl ?_ | refine sb rfl ?_)
      exact Le.sub [11, 2] ⟨rfl, rfl, rfl, rfl, rfl, rfl, congrArg (fun x => some (B x)) (by rw [Bool.eq_iff_iff]; simp; omega), trivial⟩ rfl
  obtain ⟨o, ho, hfin⟩ : ∃ o : Ord, o = ⟨(n1 : Int), (n2 : Int), (n3 : Int), if (n2 : Int) = 1 ∨ (n2 : Int) = 6 then K.1 else default⟩ ∧ (¬((n2 : Int) = 1 ∨ (n2 : Int) = 6) ∨ K.2 = 0 → ordFin b o = q) := by
    refine ⟨_, rfl, fun h => ?_⟩
    by_cases h4 : (n2 : Int) = 1 ∨ (n2 : Int) = 6
    · rw [if_pos h4] at hq ⊢
      rw [if_neg (fun h5 => h.elim (fun h6 => h6 h4) (fun h6 => h5 h6))] at hq
      exact hq
    · rw [if_neg h4] at hq ⊢
      exact hq
  refine C_joinP ⟨[(0, .s b), (2, .bp 2 0), (11, .bp 11 0)], [.box 11 134 (Ord.c o), .box 2 134 (Ord.c default)]⟩ (¬((n2 : Int) = 1 ∨ (n2 : Int) = 6) ∨ K.2 = 0) ?_ (fun s hs hp => ?_)
  · refine C_if rfl (fun m4 => ?_) (fun m4 => ?_) <;> simp only [decide_eq_true_eq, decide_eq_false_iff_not, Bool.not_eq_true', Bool.not_eq_false', beq_iff_eq, beq_eq_false_iff_ne, bne_iff_ne, ne_eq, bne_eq_false_iff_eq, Decidable.not_not] at m4
    · rw [if_pos m4] at hq ho
      repeat (first | refine sc rfl ?_ | refine so rfl ?_ | refine sb rfl ?_)
      rw [w64 (x := (k1 : Int) + (k2 : Int)) (by omega) (by omega)]
      repeat (first | refine sc rfl ?_ | refine so rfl ?_ | refine sb rfl ?_)
      rw [w64 (x := (k1 : Int) + (k2 : Int) + (k3 : Int)) (by omega) (by omega)]
      repeat (first | refine sc rfl ?_ | refine so rfl ?_ | refine sb rfl ?_)
      refine ⟨by omega, ?_⟩
      rw [show ((k1 : Int) + (k2 : Int) + (k3 : Int)).toNat = k1 + k2 + k3 by omega, hrest]
      repeat (first | refine sc rfl ?_ | refine so rfl ?_ | refine sb rfl ?_)
      refine O_call (confTakeR_c rest hrl) (by rfl) (by rfl) (by rfl) (by rfl) (fun r hr => ?_)
      subst hr
      rw [hK]
      repeat (first | refine sc rfl ?_ | refine so rfl ?_ | refine sb rfl ?_)
      refine C_if rfl (fun m5 => ?_) (fun m5 => ?_) <;> simp only [decide_eq_true_eq, decide_eq_false_iff_not, Bool.not_eq_true', Bool.not_eq_false', beq_iff_eq, beq_eq_false_iff_ne, bne_iff_ne, ne_eq, bne_eq_false_iff_eq, Decidable.not_not] at m5
      · rw [if_pos m5] at hq
        repeat (first | refine sc rfl ?_ | refine so rfl ?_ | refine sb rfl ?_)
        exact ⟨_, rfl, rfl, by rw [← hq]; rfl⟩
      · repeat (first | refine sc rfl ?_ | refine so rfl ?_ | refine sb rfl ?_)
        refine ⟨?_, Or.inr m5⟩
        rw [ho]
        exact Le.sub [11, 2] ⟨rfl, rfl, rfl, trivial⟩ rfl
    · rw [if_neg m4] at ho
      repeat (first | refine sc rfl ?_ | refine so rfl ?_ | refine sb rfl ?_)
      refine ⟨?_, Or.inl m4⟩
      rw [ho]
      exact Le.sub [11, 2] ⟨rfl, rfl, rfl, trivial⟩ rfl
  refine C_le _ hs ?_
  have hq2 := hfin hp
  unfold ordFin at hq2
  have hid : o.id = (n1 : Int) := by rw [ho]
  obtain ⟨U, hU⟩ : ∃ U, ordPutF o = U := ⟨_, rfl⟩
  rw [hU] at hq2
  repeat (first | refine sc rfl ?_ | refine so rfl ?_ | refine sb rfl ?_)
  refine O_call (ordPut_c o (by omega) (by omega)) (by rfl) (by rfl) (by rfl) (by rfl) (fun r hr => ?_)
  subst hr
  rw [hU]
  repeat (first | refine sc rfl ?_ | refine so rfl ?_ | refine sb rfl ?_)
  refine O_case 81 rfl (fun m6 => ?_) (fun m6 => ?_) <;> simp only [decide_eq_true_eq, decide_eq_false_iff_not, Bool.not_eq_true', Bool.not_eq_false', beq_iff_eq, beq_eq_false_iff_ne, bne_iff_ne, ne_eq, bne_eq_false_iff_eq, Decidable.not_not] at m6
  · rw [if_pos (Or.inl m6)] at hq2
    repeat (first | refine sc rfl ?_ | refine so rfl ?_ | refine sb rfl ?_)
    refine C_true rfl rfl ?_
    repeat (first | refine sc rfl ?_ | refine so rfl ?_ | refine sb rfl ?_)
    exact ⟨_, rfl, rfl, by rw [← hq2]; rfl⟩
  repeat (first | refine sc rfl ?_ | refine so rfl ?_ | refine sb rfl ?_)
  refine C_if rfl (fun m7 => ?_) (fun m7 => ?_) <;> simp only [decide_eq_true_eq, decide_eq_false_iff_not, Bool.not_eq_true', Bool.not_eq_false', beq_iff_eq, beq_eq_false_iff_ne, bne_iff_ne, ne_eq, bne_eq_false_iff_eq, Decidable.not_not] at m7
  · rw [if_pos (Or.inr m7)] at hq2
    repeat (first | refine sc rfl ?_ | refine so rfl ?_ | refine sb rfl ?_)
    exact ⟨_, rfl, rfl, by rw [← hq2]; rfl⟩
  · rw [if_neg (fun h => h.elim (fun h => h m6) (fun h => h m7))] at hq2
    repeat (first | refine sc rfl ?_ | refine so rfl ?_ | refine sb rfl ?_)
    exact ⟨_, rfl, rfl, by rw [← hq2]; rfl⟩

theorem refDone_c (x : Rw) (hb : x.note.body.length ≤ 9223372036854775807) : FnP Tryz.prog 61 [.agg (Rw.c x)] (· = .tup [.agg (Ord.c (trDoneF x).1), B (trDoneF x).2]) := by
  refine FnP.intro Tryz.tabOK Tryz.wide_ Tryz.func61 rfl (by decide) rfl (fun X => ?_)
  obtain ⟨q, hq⟩ : ∃ q, trDoneF x = q := ⟨_, rfl⟩
  rw [hq]
  unfold trDoneF at hq
  repeat (first | refine sc rfl ?_ | refine so rfl ?_ | refine sb rfl ?_)
  refine O_case 9 rfl (fun c1 => ?_) (fun c1 => ?_) <;> simp only [decide_eq_true_eq, decide_eq_false_iff_not, Bool.not_eq_true', Bool.not_eq_false', beq_iff_eq, beq_eq_false_iff_ne, bne_iff_ne, ne_eq, bne_eq_false_iff_eq, Decidable.not_not] at c1
  · repeat (first | refine sc rfl ?_ | refine so rfl ?_ | refine sb rfl ?_)
    refine C_true rfl rfl ?_
    repeat (first | refine sc rfl ?_ | refine so rfl ?_ | refine sb rfl ?_)
    exact ⟨_, rfl, rfl, by rw [← hq, if_pos (by omega)]; rfl⟩
  repeat (first | refine sc rfl ?_ | refine so rfl ?_ | refine sb rfl ?_)
  refine O_case 15 rfl (fun c2 => ?_) (fun c2 => ?_) <;> simp only [decide_eq_true_eq, decide_eq_false_iff_not, Bool.not_eq_true', Bool.not_eq_false', beq_iff_eq, beq_eq_false_iff_ne, bne_iff_ne, ne_eq, bne_eq_false_iff_eq, Decidable.not_not] at c2
  · repeat (first | refine sc rfl ?_ | refine so rfl ?_ | refine sb rfl ?_)
    refine C_true rfl rfl ?_
    repeat (first | refine sc rfl ?_ | refine so rfl ?_ | refine sb rfl ?_)
    exact ⟨_, rfl, rfl, by rw [← hq, if_pos (by omega)]; rfl⟩
  repeat (first | refine sc rfl ?_ | refine so rfl ?_ | refine sb rfl ?_)
  refine O_case 21 rfl (fun c3 => ?_) (fun c3 => ?_) <;> simp only [decide_eq_true_eq, decide_eq_false_iff_not, Bool.not_eq_true', Bool.not_eq_false', beq_iff_eq, beq_eq_false_iff_ne, bne_iff_ne, ne_eq, bne_eq_false_iff_eq, Decidable.not_not] at c3
  · repeat (first | refine sc rfl ?_ | refine so rfl ?_ | refine sb rfl ?_)
    refine C_true rfl rfl ?_
    repeat (first | refine sc rfl ?_ | refine so rfl ?_ | refine sb rfl ?_)
    exact ⟨_, rfl, rfl, by rw [← hq, if_pos (by omega)]; rfl⟩
  repeat (first | refine sc rfl ?_ | refine so rfl ?_ | refine sb rfl ?_)
  refine C_if rfl (fun c4 => ?_) (fun c4 => ?_) <;> simp only [decide_eq_true_eq, decide_eq_false_iff_not, Bool.not_eq_true', Bool.not_eq_false', beq_iff_eq, beq_eq_false_iff_ne, bne_iff_ne, ne_eq, bne_eq_false_iff_eq, Decidable.not_not] at c4
  · repeat (first | refine sc rfl ?_ | refine so rfl ?_ | refine sb rfl ?_)
    exact ⟨_, rfl, rfl, by rw [← hq, if_pos (by omega)]; rfl⟩
  rw [if_neg (by omega)] at hq
  repeat (first | refine sc rfl ?_ | refine so rfl ?_ | refine sb rfl ?_)
  refine O_call (ordTake_c x.note.body hb) (by rfl) (by rfl) (by rfl) (by rfl) (fun r hr => ?_)
  subst hr
  repeat (first | refine sc rfl ?_ | refine so rfl ?_ | refine sb rfl ?_)
  exact ⟨_, rfl, rfl, by rw [← hq]; rfl⟩
end Go.Proofs

/- The symbolic walk, part 66: make([]T, m), elements of any size. -/
set_option linter.unusedSimpArgs false
set_option linter.unusedVariables false
namespace Go.Sy
open Go.RowKit

theorem constA_soundI (G : IM) {v : Value} : RepI G (constA v) v := by
  cases v <;> simp [constA, RepI, S]
theorem zero_soundI (G : IM) : ∀ {zs : List Value}, zs.all (·.oneCell') = true → RepIL G (zs.map constA) zs
  | [], _ => by simp [RepIL]
  | z :: zs, h => by
    simp only [List.all_cons, Bool.and_eq_true] at h
    simp only [List.map_cons, RepIL]
    exact ⟨z, zs, rfl, constA_soundI G, h.1, zero_soundI G h.2⟩

section
variable {P : Program} {T : Tab} {X : Ctx P T} {n : Nat} {e : Env} {st : St} {a : Act} {w : World} {ops : Array Oper} {K : St → Prop}

/-- make([]T, m). -/
theorem O_makeW {t el : TypeId} {by_ sz0 b0 esz : Nat} {ag0 ag1 : Bool} {z0 zs : List Value} {d1 : TD} {lo co : Operand} {d m : Nat} {ty : TypeId} {pos : String} {aft : Array Edge} {rest : List Oper} {s : List (Nat × AV)} {c : List Ch}
    (hTs : T t = some ⟨sz0, b0, ag0, z0, .slice el⟩) (hTe : T el = some ⟨esz, by_, ag1, zs, d1⟩) (hlo : opd s lo = some (I64 (m : Nat))) (hco : opd s co = some (I64 (m : Nat))) (hd : Nat.blt d n = true)
    (hzl : zs.length = esz) (hb : by_ * m ≤ 281474976710656) (hm : m ≤ maxLen)
    (k : ∀ b, SymO X n ops rest ⟨(d, .v (HD b m m)) :: s, .abs (vecA (HD b m m) el esz m (fun _ => zs.map constA)) :: c⟩ K) : SymO X n ops (⟨some d, .makeSlice t lo co, ty, pos, aft, none⟩ :: rest) ⟨s, c⟩ K := by
  intro e a w Q r hq
  unfold wpList
  rw [if_pos (guardA_sound r (o := ⟨some d, .makeSlice t lo co, ty, pos, aft, none⟩) (b := true) rfl)]
  refine .inl ?_
  have h1 := opd_sound r hlo
  have h2 := opd_sound r hco
  simp only [Rep] at h1 h2
  obtain ⟨pi, z, i1, i2, i3, i4, i5, i6, i7⟩ := (X.ok _ _ hTe).info
  obtain ⟨dd, e1, _, e3⟩ := (X.ok _ _ hTs).desc
  simp only [TDOK] at e3
  subst e3
  have hm63 : (m : Int) ≤ 9223372036854775807 := by simp [maxLen] at hm; omega
  have hbb : (pi.bytes : Int) * (m : Int) ≤ 281474976710656 := by
    have h : ((by_ * m : Nat) : Int) ≤ 281474976710656 := by omega
    rw [i3]; rwa [Int.natCast_mul] at h
  have hrun := run_make (P := P) w t el pi z e1 i1 i4 .i64 .i64 m m (by omega) (Int.le_refl _) hbb hm63
  simp only [Int.toNat_natCast] at hrun
  unfold Oper.wp
  have hrun2 : (execOp a.eval ⟨some d, .makeSlice t lo co, ty, pos, aft, none⟩).run P w = .ok (.value (HD w.heap.size m m)) (w.alloc (.cells (madeCells z.cells (m * pi.size)) el)) := by
    simp only [execOp, h1, h2, Sem.run_bind, hrun, Result.andThen_ok, Sem.run_pure]
  rw [hrun2]
  have hz : z.cells.toList = zs := i5
  have hsz : z.cells.size = esz := by rw [← hzl, ← hz]; simp
  have hcl : (madeCells z.cells (m * pi.size)).toList.length = m * esz := by rw [i2]; simp [madeCells]
  have r2 := r.allocAbs (A := vecA (HD w.heap.size m m) el esz m (fun _ => zs.map constA)) (o := .cells (madeCells z.cells (m * pi.size)) el) rfl (by
    refine ⟨(madeCells z.cells (m * pi.size)).toList, ⟨hcl, .inr ⟨w.heap.size, m, madeCells z.cells (m * pi.size), rfl, Nat.zero_le _, Go.heap_alloc_new w _, Nat.le_refl _, hm, by simpa using hcl, ?_⟩⟩, ?_⟩
    · rw [List.take_of_length_le (by omega)]
    · intro i hi
      have hrow : ((madeCells z.cells (m * pi.size)).toList.drop (i * esz)).take esz = zs := by
        apply List.ext_getElem?
        intro j
        rw [List.getElem?_take]
        by_cases hj : j < esz
        · rw [if_pos hj, List.getElem?_drop]
          have hlt : i * esz + j < m * esz := by
            have : (i + 1) * esz ≤ m * esz := Nat.mul_le_mul_right _ hi
            rw [Nat.add_mul, Nat.one_mul] at this
            omega
          have hmod : (i * esz + j) % esz = j := by rw [Nat.mul_comm, Nat.mul_add_mod, Nat.mod_eq_of_lt hj]
          rw [← hz, i2]
          simp [madeCells, hlt, hsz, hmod, hj]
        · rw [if_neg hj, List.getElem?_eq_none (by omega)]
      show RepIL e.G (zs.map constA) _
      rw [hrow]
      exact zero_soundI _ i6)
  exact k w.heap.size _ _ _ Q (r2.put (x := .v (HD w.heap.size m m)) hd (by simp only [Rep])) hq
end
end Go.Sy

/- The document's book: New, Check, Do. -/
set_option linter.unusedSimpArgs false
set_option linter.unusedVariables false
set_option maxRecDepth 100000
namespace Go.Proofs
open Go.Sy Go.Lib

def rOfF (k : Bk) (w : Int) : Tn := if w < 0 ∨ 8 < w then default else k.l.getD w.toNat default
theorem rOf_eq (k : Bk) (hk : k.l.length = 9) (w : Int) : BookOfR_F k w = some (rOfF k w) := by
  unfold BookOfR_F rOfF
  by_cases h1 : w < 0
  · rw [decide_eq_true h1, if_pos (.inl h1)]; rfl
  by_cases h2 : 8 < w
  · rw [decide_eq_false h1, decide_eq_true h2, if_pos (.inr h2)]; rfl
  · rw [decide_eq_false h1, decide_eq_false h2, if_neg (by omega)]
    simp only [cond_false, Option.bind_some]
    rw [chk_pos (by omega)]
theorem rOf_c (k : Bk) (hk : k.l.length = 9) (w : Int) : FnP Tryz.prog 65 [.agg (Bk.c k), I64 w] (· = .agg (Tn.c (rOfF k w))) := BookOfR_w k w _ (rOf_eq k hk w)
def rCheckF (k : Bk) (o : Ord) : Int :=
  if formF o ≠ 0 then 1
  else if o.op = 1 ∧ (rOfF k o.owner).lives = true then 7
  else if o.op ≠ 1 ∧ (rOfF k o.owner).lives = false then 12
  else if (o.op = 2 ∧ (rOfF k o.owner).rests = true) ∨ (o.op = 3 ∧ (rOfF k o.owner).rests = false) then 17 else 0
theorem rCheck_eq (k : Bk) (hk : k.l.length = 9) (o : Ord) : CheckR_F k o = some (rCheckF k o) := by
  unfold CheckR_F rCheckF
  rw [FormR_eq, rOf_eq k hk]
  obtain ⟨t, ht⟩ : ∃ t, rOfF k o.owner = t := ⟨_, rfl⟩
  rw [ht]
  simp only [Option.bind_some, beqd, bned]
  by_cases h0 : formF o = 0
  · rw [decide_eq_true h0, if_neg (fun h => h h0)]
    obtain ⟨lv, rs, cf⟩ := t
    by_cases h1 : o.op = 1
    · have h2 : ¬o.op = 2 := by omega
      have h3 : ¬o.op = 3 := by omega
      cases lv <;> cases rs <;> simp [h1]
    · by_cases h2 : o.op = 2
      · cases lv <;> cases rs <;> simp [h2]
      · by_cases h3 : o.op = 3
        · cases lv <;> cases rs <;> simp [h3]
        · cases lv <;> cases rs <;> simp [h1, h2, h3]
  · rw [decide_eq_false h0, if_pos h0]; rfl
theorem rCheck_c (k : Bk) (hk : k.l.length = 9) (o : Ord) : FnP Tryz.prog 107 [.agg (Bk.c k), .agg (Ord.c o)] (· = I64 (rCheckF k o)) := CheckR_w k o _ (rCheck_eq k hk o)
theorem rNew_c : FnP Tryz.prog 60 [] (· = .agg (Bk.c ⟨List.replicate 9 default⟩)) := by
  refine FnP.intro Tryz.tabOK Tryz.wide_ Tryz.func60 rfl (by decide) rfl (fun X => ?_)
  repeat (first | refine sc rfl ?_ | refine so rfl ?_ | refine sb rfl ?_)
  refine O_makeW (m := 9) rfl rfl rfl rfl rfl rfl (by decide) (by simp only [maxLen]; decide) (fun b => ?_)
  refine O_le _ (Le.frVec 0 (fun i => Tn.c ((List.replicate 9 (default : Tn)).getD i default)) rfl (fun i hi => ?_)) ?_
  · have : (List.replicate 9 (default : Tn)).getD i default = default := by
      rw [List.getD_eq_getElem?_getD, List.getElem?_replicate]; split <;> rfl
    rw [this]; rfl
  refine O_le _ (Le.slotA 0 1 rfl rfl) ?_
  repeat (first | refine sc rfl ?_ | refine so rfl ?_ | refine sb rfl ?_)
  exact ⟨_, rfl, rfl, rfl⟩
end Go.Proofs

/- The document's book: Do. -/
set_option linter.unusedSimpArgs false
set_option linter.unusedVariables false
set_option maxRecDepth 100000
namespace Go.Proofs
open Go.Sy Go.Lib

def rDoT (o : Ord) (t : Tn) : Tn := if o.op = 1 then ⟨true, false, o.conf⟩ else if o.op = 2 then ⟨t.lives, true, t.conf⟩ else if o.op = 3 then ⟨t.lives, false, t.conf⟩ else if o.op = 4 then default else if o.op = 6 then ⟨t.lives, t.rests, o.conf⟩ else t
def rDoF (k : Bk) (o : Ord) : Bk × Int := if rCheckF k o ≠ 0 then (k, rCheckF k o) else (⟨k.l.set o.owner.toNat (rDoT o (rOfF k o.owner))⟩, 0)
theorem rDo_c (k : Bk) (hk : k.l.length = 9) (o : Ord) : FnP Tryz.prog 62 [.agg (Bk.c k), .agg (Ord.c o)] (· = .tup [.agg (Bk.c (rDoF k o).1), I64 (rDoF k o).2]) := by
  refine FnP.intro Tryz.tabOK Tryz.wide_ Tryz.func62 rfl (by decide) rfl (fun X => ?_)
  obtain ⟨q, hq⟩ : ∃ q, rDoF k o = q := ⟨_, rfl⟩
  rw [hq]
  unfold rDoF at hq
  repeat (first | refine sc rfl ?_ | refine so rfl ?_ | refine sb rfl ?_)
  refine O_call (rCheck_c k hk o) (by rfl) (by rfl) (by rfl) (by rfl) (fun r hr => ?_)
  subst hr
  obtain ⟨v, hv⟩ : ∃ v, rCheckF k o = v := ⟨_, rfl⟩
  rw [hv] at hq ⊢
  repeat (first | refine sc rfl ?_ | refine so rfl ?_ | refine sb rfl ?_)
  refine C_if rfl (fun m1 => ?_) (fun m1 => ?_) <;> simp only [decide_eq_true_eq, decide_eq_false_iff_not, Bool.not_eq_true', Bool.not_eq_false', beq_iff_eq, beq_eq_false_iff_ne, bne_iff_ne, ne_eq, bne_eq_false_iff_eq, Decidable.not_not] at m1
  · rw [if_pos m1] at hq
    repeat (first | refine sc rfl ?_ | refine so rfl ?_ | refine sb rfl ?_)
    exact ⟨_, rfl, rfl, by rw [← hq]; rfl⟩
  rw [if_neg (fun h => h m1)] at hq
  have hf : ¬(o.op < 1 ∨ 6 < o.op ∨ o.owner < 1 ∨ 8 < o.owner) := fun hh => by
    have := formF_bad hh
    unfold rCheckF at hv
    rw [if_pos (by rw [this]; decide)] at hv
    rw [← hv] at m1
    cases m1
  obtain ⟨w, hw⟩ : ∃ w : Nat, o.owner = (w : Int) := ⟨o.owner.toNat, by omega⟩
  have hw9 : w < k.l.length := by omega
  have hof : rOfF k o.owner = k.l.getD w default := by unfold rOfF; rw [if_neg (by omega), hw]; rfl
  rw [hof, hw, Int.toNat_natCast] at hq
  refine C_le _ (Le.freezebox 3 rfl rfl rfl) ?_
  repeat (first | refine sc rfl ?_ | refine so rfl ?_ | refine sb rfl ?_)
  refine O_empty (fun i => Tn.c (([] : List Tn).getD i default)) rfl rfl rfl rfl rfl ?_
  refine O_absv 16 rfl rfl (fun _ => O_le _ (Le.addVec 144 11 (fun i => Tn.c (([] : List Tn).getD i default))) ?_) (fun g cc => ?_)
  all_goals
    repeat (first | refine sc rfl ?_ | refine so rfl ?_ | refine sb rfl ?_)
    refine O_appendV 0 (m2 := k.l.length) (m3 := k.l.length) (row2 := fun i => Tn.c (k.l.getD i default)) (row3 := fun i => Tn.c (k.l.getD i default)) rfl rfl rfl rfl rfl rfl (fun i hi => rfl) rfl (by show (0 + k.l.length) * 80 ≤ 140737488355328; omega) (by show 0 + k.l.length ≤ maxLen; simp only [maxLen]; omega) (by simp) (fun i hi => ?_) (fun v' hv' => ?_)
    · unfold appRow; rw [if_neg (by omega), Nat.sub_zero]
    obtain ⟨g9, cc9, rfl⟩ := hv'.resolve_left (fun h => by omega)
    repeat (first | refine sc rfl ?_ | refine so rfl ?_ | refine sb rfl ?_)
    rw [hw]
    refine ⟨by omega, ?_⟩
    rw [Int.toNat_natCast]
    repeat (first | refine sc rfl ?_ | refine so rfl ?_ | refine sb rfl ?_)
    refine O_loadP 0 (A := vecA (HD g9 k.l.length cc9) 144 11 k.l.length (fun i => Tn.c (k.l.getD i default))) (cells := (Tn.c (k.l.getD w default)).drop 0) (reads_vec (q := w) (j := 0) hw9 (by omega)) rfl rfl rfl rfl rfl rfl ?_
    obtain ⟨t, ht⟩ : ∃ t, k.l.getD w default = t := ⟨_, rfl⟩
    rw [ht] at hq ⊢
    repeat (first | refine so rfl ?_ | refine sb rfl ?_)
    refine sc rfl ?_
    refine C_joinP ⟨[(3, .cp [.v (.int .u64 o.id), I64 o.op, I64 (w : Nat), I64 o.conf.quantum, I64 o.conf.rate, I64 o.conf.burst, I64 o.conf.mem, I64 o.conf.slots, I64 o.conf.outs, I64 o.conf.conns, I64 o.conf.state, I64 o.conf.decode]), (7, .v (HD g9 k.l.length cc9)), (8, .bp 8 0), (4, .bp 4 0), (5, I64 0)], [.box 8 144 (Tn.c (rDoT o t)), .abs (vecA (HD g9 k.l.length cc9) 144 11 k.l.length (fun i => Tn.c (k.l.getD i default))), .box 4 131 [.v (.slice none 0 0)]]⟩ True ?_ (fun s hs _ => C_le _ hs ?_)
    · repeat (first | refine sc rfl ?_ | refine so rfl ?_ | refine sb rfl ?_)
      refine C_if rfl (fun d1 => ?_) (fun d1 => ?_) <;> simp only [decide_eq_true_eq, decide_eq_false_iff_not, Bool.not_eq_true', Bool.not_eq_false', beq_iff_eq, beq_eq_false_iff_ne, bne_iff_ne, ne_eq, bne_eq_false_iff_eq, Decidable.not_not] at d1
      · repeat (first | refine sc rfl ?_ | refine so rfl ?_ | refine sb rfl ?_)
        rw [show rDoT o t = ⟨true, false, o.conf⟩ by unfold rDoT; rw [if_pos d1]]
        exact ⟨Le.pick [0, 0, 0] ⟨rfl, rfl, rfl, rfl, rfl, trivial⟩ rfl, trivial⟩
      repeat (first | refine sc rfl ?_ | refine so rfl ?_ | refine sb rfl ?_)
      refine C_if rfl (fun d2 => ?_) (fun d2 => ?_) <;> simp only [decide_eq_true_eq, decide_eq_false_iff_not, Bool.not_eq_true', Bool.not_eq_false', beq_iff_eq, beq_eq_false_iff_ne, bne_iff_ne, ne_eq, bne_eq_false_iff_eq, Decidable.not_not] at d2
      · repeat (first | refine sc rfl ?_ | refine so rfl ?_ | refine sb rfl ?_)
        rw [show rDoT o t = ⟨t.lives, true, t.conf⟩ by unfold rDoT; rw [if_neg d1, if_pos d2]]
        exact ⟨Le.pick [0, 0, 0] ⟨rfl, rfl, rfl, rfl, rfl, trivial⟩ rfl, trivial⟩
      repeat (first | refine sc rfl ?_ | refine so rfl ?_ | refine sb rfl ?_)
      refine C_if rfl (fun d3 => ?_) (fun d3 => ?_) <;> simp only [decide_eq_true_eq, decide_eq_false_iff_not, Bool.not_eq_true', Bool.not_eq_false', beq_iff_eq, beq_eq_false_iff_ne, bne_iff_ne, ne_eq, bne_eq_false_iff_eq, Decidable.not_not] at d3
      · repeat (first | refine sc rfl ?_ | refine so rfl ?_ | refine sb rfl ?_)
        rw [show rDoT o t = ⟨t.lives, false, t.conf⟩ by unfold rDoT; rw [if_neg d1, if_neg d2, if_pos d3]]
        exact ⟨Le.pick [0, 0, 0] ⟨rfl, rfl, rfl, rfl, rfl, trivial⟩ rfl, trivial⟩
      repeat (first | refine sc rfl ?_ | refine so rfl ?_ | refine sb rfl ?_)
      refine C_if rfl (fun d4 => ?_) (fun d4 => ?_) <;> simp only [decide_eq_true_eq, decide_eq_false_iff_not, Bool.not_eq_true', Bool.not_eq_false', beq_iff_eq, beq_eq_false_iff_ne, bne_iff_ne, ne_eq, bne_eq_false_iff_eq, Decidable.not_not] at d4
      · repeat (first | refine sc rfl ?_ | refine so rfl ?_ | refine sb rfl ?_)
        rw [show rDoT o t = default by unfold rDoT; rw [if_neg d1, if_neg d2, if_neg d3, if_pos d4]]
        exact ⟨Le.pick [0, 0, 0] ⟨rfl, rfl, rfl, rfl, rfl, trivial⟩ rfl, trivial⟩
      repeat (first | refine sc rfl ?_ | refine so rfl ?_ | refine sb rfl ?_)
      refine C_if rfl (fun d6 => ?_) (fun d6 => ?_) <;> simp only [decide_eq_true_eq, decide_eq_false_iff_not, Bool.not_eq_true', Bool.not_eq_false', beq_iff_eq, beq_eq_false_iff_ne, bne_iff_ne, ne_eq, bne_eq_false_iff_eq, Decidable.not_not] at d6
      · repeat (first | refine sc rfl ?_ | refine so rfl ?_ | refine sb rfl ?_)
        rw [show rDoT o t = ⟨t.lives, t.rests, o.conf⟩ by unfold rDoT; rw [if_neg d1, if_neg d2, if_neg d3, if_neg d4, if_pos d6]]
        exact ⟨Le.pick [0, 0, 0] ⟨rfl, rfl, rfl, rfl, rfl, trivial⟩ rfl, trivial⟩
      repeat (first | refine sc rfl ?_ | refine so rfl ?_ | refine sb rfl ?_)
      rw [show rDoT o t = t by unfold rDoT; rw [if_neg d1, if_neg d2, if_neg d3, if_neg d4, if_neg d6]]
      exact ⟨Le.pick [0, 0, 0] ⟨rfl, rfl, rfl, rfl, rfl, trivial⟩ rfl, trivial⟩
    · obtain ⟨t', ht'⟩ : ∃ t', rDoT o t = t' := ⟨_, rfl⟩
      rw [ht'] at hq ⊢
      repeat (first | refine sc rfl ?_ | refine so rfl ?_ | refine sb rfl ?_)
      refine ⟨by omega, ?_⟩
      rw [Int.toNat_natCast]
      repeat (first | refine sc rfl ?_ | refine so rfl ?_ | refine sb rfl ?_)
      have hset : ∀ i, i < k.l.length → (k.l.set w t').getD i default = if i = w then t' else k.l.getD i default := fun i hi => by
        simp only [List.getD_eq_getElem?_getD, List.getElem?_set]
        by_cases hij : w = i
        · subst hij; simp [hi]
        · rw [if_neg hij, if_neg (fun h => hij h.symm)]
      refine O_Xn (X_storeV 1 w (row' := fun i => Tn.c ((k.l.set w t').getD i default)) (cells := Tn.c t') rfl rfl rfl (by omega) rfl rfl rfl hw9 rfl (fun i hi => ?_)) ?_
      · show Tn.c ((k.l.set w t').getD i default) = _
        rw [hset i hi]
        by_cases h : i = w
        · rw [if_pos h, if_pos h]
        · rw [if_neg h, if_neg h]
      refine O_le _ (Le.frVec 0 (fun i => Tn.c ((k.l.set w t').getD i default)) rfl (fun i hi => rfl)) ?_
      refine O_le _ (Le.slotA 0 7 rfl rfl) ?_
      rw [show AV.sl k.l.length 11 (fun i => Tn.c ((k.l.set w t').getD i default)) = SL 11 Tn.c (k.l.set w t') by show _ = AV.sl (k.l.set w t').length 11 _; rw [List.length_set]]
      repeat (first | refine sc rfl ?_ | refine so rfl ?_ | refine sb rfl ?_)
      exact ⟨_, rfl, rfl, by rw [← hq]; rfl⟩
end Go.Proofs
