/- Contracts: the reader's methods. -/
import Derived.Test.YtgdlhcaidfokkaaDoorD42
set_option linter.unusedSimpArgs false
set_option linter.unusedVariables false
set_option maxRecDepth 100000
namespace Go.Proofs
open Go.Sy Go.Lib

theorem tk_zero {l : List UInt8} (h : (tk l).2.2 ≠ 0) : tk l = (0, 0, (tk l).2.2) := by
  obtain ⟨h1, h2⟩ := tkS_err 10 false l h
  exact Prod.ext h1 (Prod.ext h2 rfl)

theorem IntF_p (l : List UInt8) (hl : l.length ≤ 9223372036854775000) : FnP Tryd.prog 73 [.s l, .cp [I64 1048576]]
    (· = .tup [I64 (IntKind.i64.wrap ((tk l).1 : Nat)), I64 ((tk l).2.1 : Nat), I64 (if (tk l).2.2 = 0 ∧ 1048576 < (tk l).1 then 3 else (tk l).2.2)]) := by
  refine FnP.intro Tryd.tabOK Tryd.wide_ Tryd.func73 rfl (by decide) rfl (fun X => ?_)
  repeat (first | refine sc rfl ?_ | refine so rfl ?_ | refine sb rfl ?_)
  refine O_call (vTake_p l hl) (by rfl) (by rfl) (by rfl) (by rfl) (fun r hr => ?_)
  subst hr
  obtain ⟨n, k, e, ht⟩ : ∃ n k e, tk l = (n, k, e) := ⟨_, _, _, rfl⟩
  rw [ht]
  simp only []
  repeat (first | refine sc rfl ?_ | refine so rfl ?_ | refine sb rfl ?_)
  refine O_join ⟨[(6, U64 (n : Nat)), (7, I64 (k : Nat)), (8, I64 e), (23, B (decide (e = 0 ∧ 1048576 < n)))], []⟩ ?_ (fun s h => C_le _ h ?_)
  · have fin2 : ∀ x : Bool, x = decide (e = 0 ∧ 1048576 < n) → some (B x) = some (B (decide (e = 0 ∧ 1048576 < n))) := fun x hb => by rw [hb]
    refine O_case 17 rfl (fun h5 => ?_) (fun h5 => ?_) <;> simp at h5 <;> repeat (first | refine sc rfl ?_ | refine so rfl ?_ | refine sb rfl ?_)
    · rw [show IntKind.u64.wrap (max 1048576 0) = 1048576 by decide]
      refine Le.sub [] ⟨rfl, rfl, rfl, fin2 _ ?_, trivial⟩ rfl
      rw [Bool.eq_iff_iff, decide_eq_true_eq, decide_eq_true_eq]
      omega
    · exact Le.sub [] ⟨rfl, rfl, rfl, fin2 _ (by rw [Bool.eq_iff_iff]; simp; omega), trivial⟩ rfl
  refine C_ifJ ⟨[(6, U64 (n : Nat)), (7, I64 (k : Nat)), (8, I64 (if e = 0 ∧ 1048576 < n then 3 else e))], []⟩ rfl (fun h1 => ?_) (fun h1 => ?_) (fun s h => C_le _ h ?_)
  · rw [if_pos (of_decide_eq_true h1)]
    repeat (first | refine sc rfl ?_ | refine so rfl ?_ | refine sb rfl ?_)
    exact Le.sub [] ⟨rfl, rfl, rfl, trivial⟩ rfl
  · rw [if_neg (of_decide_eq_false h1)]
    repeat (first | refine sc rfl ?_ | refine so rfl ?_ | refine sb rfl ?_)
    exact Le.sub [] ⟨rfl, rfl, rfl, trivial⟩ rfl
  repeat (first | refine sc rfl ?_ | refine so rfl ?_ | refine sb rfl ?_)
  exact ⟨_, rfl, rfl, rfl⟩

theorem RestF_p (l : List UInt8) : FnP Tryd.prog 77 [.s l] (· = .tup [.s l, I64 (l.length : Nat), I64 0]) := by
  refine FnP.intro Tryd.tabOK Tryd.wide_ Tryd.func77 rfl (by decide) rfl (fun X => ?_)
  repeat (first | refine sc rfl ?_ | refine so rfl ?_ | refine sb rfl ?_)
  exact ⟨_, rfl, rfl, rfl⟩

theorem Read_p (l : List UInt8) : FnNew Tryd.prog 43 98 [.s l] (· = [.s l, I64 0, I64 0]) := by
  refine FnNew.intro Tryd.tabOK Tryd.wide_ Tryd.func43 rfl (by decide) rfl (fun X => ?_)
  repeat (first | refine sc rfl ?_ | refine so rfl ?_ | refine sb rfl ?_)
  exact ⟨5, _, _, rfl, rfl, rfl, rfl⟩

/-- What a number up to the greatest status is. -/
theorem Int_ok (b : List UInt8) (n k : Nat) (ht : tk b = (n, k, 0)) (hn : n ≤ 1048576) (hb : b.length ≤ 9223372036854775000) :
    FnBox Tryd.prog 44 98 [.s b, I64 0, I64 0] [I64 1048576] (fun r cells => r = I64 (n : Nat) ∧ cells = [.s b, I64 (k : Nat), I64 0]) := by
  have hk := tk_take ht
  refine FnBox.intro Tryd.tabOK Tryd.wide_ Tryd.func44 rfl (by decide) rfl rfl (fun X => ?_)
  repeat (first | refine sc rfl ?_ | refine so rfl ?_ | refine sb rfl ?_)
  refine O_le _ (Le.freezebox 3 rfl rfl rfl) ?_
  repeat (first | refine sc rfl ?_ | refine so rfl ?_ | refine sb rfl ?_)
  refine O_makeFunc rfl rfl rfl rfl ?_
  repeat (first | refine sc rfl ?_ | refine so rfl ?_ | refine sb rfl ?_)
  have hI := IntF_p b hb
  rw [ht] at hI
  rw [if_neg (show ¬ (((n, k, (0 : Int)) : TK).2.2 = 0 ∧ 1048576 < ((n, k, (0 : Int)) : TK).1) from fun h => by have h2 : 1048576 < n := h.2; omega)] at hI
  simp only [] at hI
  rw [w64 (by omega) (by omega)] at hI
  refine O_callBox (takeI_ok b 0 (cloRP 73 [.cp [I64 1048576]]) 73 [.cp [I64 1048576]] k n (isClo_p _ _) rfl (by omega) hI (by omega) hb) rfl rfl rfl rfl rfl rfl rfl rfl (fun r cells hp => ?_)
  obtain ⟨rfl, rfl⟩ := hp
  rw [Nat.zero_add]
  repeat (first | refine sc rfl ?_ | refine so rfl ?_ | refine sb rfl ?_)
  exact ⟨_, _, _, rfl, rfl, rfl, rfl, rfl, rfl⟩
theorem Int_err (b : List UInt8) (ht : (tk b).2.2 ≠ 0 ∨ 1048576 < (tk b).1) (hb : b.length ≤ 9223372036854775000) :
    FnBox Tryd.prog 44 98 [.s b, I64 0, I64 0] [I64 1048576] (fun r cells => ∃ e : Int, e ≠ 0 ∧ r = I64 0 ∧ cells = [.s b, I64 0, I64 e]) := by
  refine FnBox.intro Tryd.tabOK Tryd.wide_ Tryd.func44 rfl (by decide) rfl rfl (fun X => ?_)
  repeat (first | refine sc rfl ?_ | refine so rfl ?_ | refine sb rfl ?_)
  refine O_le _ (Le.freezebox 3 rfl rfl rfl) ?_
  repeat (first | refine sc rfl ?_ | refine so rfl ?_ | refine sb rfl ?_)
  refine O_makeFunc rfl rfl rfl rfl ?_
  repeat (first | refine sc rfl ?_ | refine so rfl ?_ | refine sb rfl ?_)
  have hI := IntF_p b hb
  have he : (if (tk b).2.2 = 0 ∧ 1048576 < (tk b).1 then 3 else (tk b).2.2) ≠ 0 := by
    split
    · decide
    · rename_i h; rcases ht with h2 | h2
      · exact h2
      · intro h3; exact h ⟨h3, h2⟩
  refine O_callBox (takeI_err b 0 (cloRP 73 [.cp [I64 1048576]]) 73 [.cp [I64 1048576]] ((tk b).2.1 : Nat) _ _ (isClo_p _ _) rfl (by omega) hI he) rfl rfl rfl rfl rfl rfl rfl rfl (fun r cells hp => ?_)
  obtain ⟨rfl, rfl⟩ := hp
  repeat (first | refine sc rfl ?_ | refine so rfl ?_ | refine sb rfl ?_)
  exact ⟨_, _, _, rfl, rfl, rfl, rfl, _, he, rfl, rfl⟩

theorem Num_stop (b : List UInt8) (at_ : Nat) (e : Int) (he : e ≠ 0) :
    FnBox Tryd.prog 45 98 [.s b, I64 (at_ : Nat), I64 e] [] (fun r cells => r = U64 0 ∧ cells = [.s b, I64 (at_ : Nat), I64 e]) := by
  refine FnBox.intro Tryd.tabOK Tryd.wide_ Tryd.func45 rfl (by decide) rfl rfl (fun X => ?_)
  repeat (first | refine sc rfl ?_ | refine so rfl ?_ | refine sb rfl ?_)
  refine O_callBox (takeU_stop b at_ e (.func (.func 74) #[] #[]) he) rfl rfl rfl rfl rfl rfl rfl rfl (fun r cells hp => ?_)
  obtain ⟨rfl, rfl⟩ := hp
  repeat (first | refine sc rfl ?_ | refine so rfl ?_ | refine sb rfl ?_)
  exact ⟨_, _, _, rfl, rfl, rfl, rfl, rfl, rfl⟩
theorem Num_ok (b : List UInt8) (at_ n k : Nat) (hat : at_ ≤ b.length) (ht : tk (b.drop at_) = (n, k, 0)) (hb : b.length ≤ 9223372036854775000) :
    FnBox Tryd.prog 45 98 [.s b, I64 (at_ : Nat), I64 0] [] (fun r cells => r = U64 (n : Nat) ∧ cells = [.s b, I64 ((at_ + k : Nat) : Int), I64 0]) := by
  have hk := tk_take ht
  rw [List.length_drop] at hk
  refine FnBox.intro Tryd.tabOK Tryd.wide_ Tryd.func45 rfl (by decide) rfl rfl (fun X => ?_)
  repeat (first | refine sc rfl ?_ | refine so rfl ?_ | refine sb rfl ?_)
  have hI := vTake_p (b.drop at_) (by rw [List.length_drop]; omega)
  rw [ht] at hI
  refine O_callBox (takeU_ok b at_ (.func (.func 74) #[] #[]) 74 [] k n (isClo_func _) rfl hat hI (by omega) hb) rfl rfl rfl rfl rfl rfl rfl rfl (fun r cells hp => ?_)
  obtain ⟨rfl, rfl⟩ := hp
  repeat (first | refine sc rfl ?_ | refine so rfl ?_ | refine sb rfl ?_)
  exact ⟨_, _, _, rfl, rfl, rfl, rfl, rfl, rfl⟩
theorem Num_err (b : List UInt8) (at_ : Nat) (hat : at_ ≤ b.length) (ht : (tk (b.drop at_)).2.2 ≠ 0) (hb : b.length ≤ 9223372036854775000) :
    FnBox Tryd.prog 45 98 [.s b, I64 (at_ : Nat), I64 0] [] (fun r cells => ∃ e : Int, e ≠ 0 ∧ r = U64 0 ∧ cells = [.s b, I64 (at_ : Nat), I64 e]) := by
  refine FnBox.intro Tryd.tabOK Tryd.wide_ Tryd.func45 rfl (by decide) rfl rfl (fun X => ?_)
  repeat (first | refine sc rfl ?_ | refine so rfl ?_ | refine sb rfl ?_)
  have hI := vTake_p (b.drop at_) (by rw [List.length_drop]; omega)
  refine O_callBox (takeU_err b at_ (.func (.func 74) #[] #[]) 74 [] _ _ _ (isClo_func _) rfl hat hI ht) rfl rfl rfl rfl rfl rfl rfl rfl (fun r cells hp => ?_)
  obtain ⟨rfl, rfl⟩ := hp
  repeat (first | refine sc rfl ?_ | refine so rfl ?_ | refine sb rfl ?_)
  exact ⟨_, _, _, rfl, rfl, rfl, rfl, _, ht, rfl, rfl⟩

theorem Rest_stop (b : List UInt8) (at_ : Nat) (e : Int) (he : e ≠ 0) :
    FnBox Tryd.prog 46 98 [.s b, I64 (at_ : Nat), I64 e] [] (fun r cells => r = .s [] ∧ cells = [.s b, I64 (at_ : Nat), I64 e]) := by
  refine FnBox.intro Tryd.tabOK Tryd.wide_ Tryd.func46 rfl (by decide) rfl rfl (fun X => ?_)
  repeat (first | refine sc rfl ?_ | refine so rfl ?_ | refine sb rfl ?_)
  refine O_callBox (takeS_stop b at_ e (.func (.func 77) #[] #[]) he) rfl rfl rfl rfl rfl rfl rfl rfl (fun r cells hp => ?_)
  obtain ⟨rfl, rfl⟩ := hp
  repeat (first | refine sc rfl ?_ | refine so rfl ?_ | refine sb rfl ?_)
  exact ⟨_, _, _, rfl, rfl, rfl, rfl, rfl, rfl⟩
theorem Rest_ok (b : List UInt8) (at_ : Nat) (hat : at_ ≤ b.length) (hb : b.length ≤ 9223372036854775000) :
    FnBox Tryd.prog 46 98 [.s b, I64 (at_ : Nat), I64 0] [] (fun r cells => r = .s (b.drop at_) ∧ cells = [.s b, I64 ((b.length : Nat) : Int), I64 0]) := by
  refine FnBox.intro Tryd.tabOK Tryd.wide_ Tryd.func46 rfl (by decide) rfl rfl (fun X => ?_)
  repeat (first | refine sc rfl ?_ | refine so rfl ?_ | refine sb rfl ?_)
  refine O_callBox (takeS_ok b at_ (.func (.func 77) #[] #[]) 77 [] (b.drop at_).length (b.drop at_) (isClo_func _) rfl hat (RestF_p _) (by rw [List.length_drop]; omega) hb) rfl rfl rfl rfl rfl rfl rfl rfl (fun r cells hp => ?_)
  obtain ⟨rfl, rfl⟩ := hp
  rw [show at_ + (b.drop at_).length = b.length by rw [List.length_drop]; omega]
  repeat (first | refine sc rfl ?_ | refine so rfl ?_ | refine sb rfl ?_)
  exact ⟨_, _, _, rfl, rfl, rfl, rfl, rfl, rfl⟩

theorem Done_err (b : List UInt8) (at_ : Nat) (e : Int) (he : e ≠ 0) :
    FnBox Tryd.prog 47 98 [.s b, I64 (at_ : Nat), I64 e] [] (fun r cells => r = I64 e ∧ cells = [.s b, I64 (at_ : Nat), I64 e]) := by
  refine FnBox.intro Tryd.tabOK Tryd.wide_ Tryd.func47 rfl (by decide) rfl rfl (fun X => ?_)
  repeat (first | refine sc rfl ?_ | refine so rfl ?_ | refine sb rfl ?_ | refine C_scope ?_)
  refine O_isnil Tryd.underlying61 rfl rfl rfl ?_
  repeat (first | refine sc rfl ?_ | refine so rfl ?_ | refine sb rfl ?_ | refine C_scope ?_)
  refine C_false rfl rfl ?_
  repeat (first | refine sc rfl ?_ | refine so rfl ?_ | refine sb rfl ?_ | refine C_scope ?_)
  refine C_true rfl (by simpa using he) ?_
  repeat (first | refine sc rfl ?_ | refine so rfl ?_ | refine sb rfl ?_ | refine C_scope ?_)
  exact ⟨_, _, _, rfl, rfl, rfl, rfl, rfl, rfl⟩
theorem Done_ok (b : List UInt8) (hb : b.length ≤ 9223372036854775000) :
    FnBox Tryd.prog 47 98 [.s b, I64 ((b.length : Nat) : Int), I64 0] [] (fun r cells => r = I64 0 ∧ cells = [.s b, I64 ((b.length : Nat) : Int), I64 0]) := by
  refine FnBox.intro Tryd.tabOK Tryd.wide_ Tryd.func47 rfl (by decide) rfl rfl (fun X => ?_)
  repeat (first | refine sc rfl ?_ | refine so rfl ?_ | refine sb rfl ?_ | refine C_scope ?_)
  refine O_isnil Tryd.underlying61 rfl rfl rfl ?_
  repeat (first | refine sc rfl ?_ | refine so rfl ?_ | refine sb rfl ?_ | refine C_scope ?_)
  refine C_false rfl rfl ?_
  repeat (first | refine sc rfl ?_ | refine so rfl ?_ | refine sb rfl ?_ | refine C_scope ?_)
  refine C_false rfl rfl ?_
  repeat (first | refine sc rfl ?_ | refine so rfl ?_ | refine sb rfl ?_ | refine C_scope ?_)
  refine C_drawD rfl (by kernel_rfl) ?_
  repeat (first | refine sd rfl ?_)
  refine C_false rfl (by simp) ?_
  repeat (first | refine sc rfl ?_ | refine so rfl ?_ | refine sb rfl ?_ | refine C_scope ?_)
  exact ⟨_, _, _, rfl, rfl, rfl, rfl, rfl, rfl⟩
end Go.Proofs
