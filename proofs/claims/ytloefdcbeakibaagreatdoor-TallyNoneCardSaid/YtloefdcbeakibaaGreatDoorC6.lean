/- The server's parts: buckets. -/
import Derived.Test.YtloefdcbeakibaaGreatDoorC5
import Derived.Test.YtloefdcbeakibaaGreatDoorC4
set_option linter.unusedSimpArgs false
set_option linter.unusedVariables false
set_option maxRecDepth 100000
namespace Go.Proofs
open Go.Sy Go.Lib

abbrev wi (x : Int) : Int := max 0 (min x 1048576)
abbrev bktA (g : Nat) (r b l : Int) : Abs := boxA g 161 [I64 r, I64 b, I64 l]
theorem within_c (x lo hi : Int) : FnP Tryz.prog 123 [I64 x, I64 lo, I64 hi] (· = I64 (max lo (min x hi))) := by
  refine FnP.intro Tryz.tabOK Tryz.wide_ Tryz.func123 rfl (by decide) rfl (fun X => ?_)
  repeat (first | refine sc rfl ?_ | refine so rfl ?_ | refine sb rfl ?_)
  exact ⟨_, rfl, rfl, rfl⟩
theorem bktSet_A (g : Nat) (r b l x y : Int) : FnA Tryz.prog 99 [PT g 0, I64 x, I64 y] [bktA g r b l] (fun _ cs' => cs' = [bktA g (wi x) (wi y) (min l (wi y))]) := by
  refine FnA.intro Tryz.tabOK Tryz.wide_ Tryz.func99 rfl (by decide) rfl (fun X => ?_)
  repeat (first | refine sc rfl ?_ | refine so rfl ?_ | refine sb rfl ?_)
  refine O_Xd (X_ptrnil Tryz.underlying162 rfl rfl rfl) ?_
  repeat (first | refine sc rfl ?_ | refine so rfl ?_ | refine sb rfl ?_)
  refine C_false rfl rfl ?_
  repeat (first | refine sc rfl ?_ | refine so rfl ?_ | refine sb rfl ?_)
  refine O_call (within_c x 0 1048576) (by rfl) (by rfl) (by rfl) (by rfl) (fun r' hr => ?_)
  subst hr
  repeat (first | refine sc rfl ?_ | refine so rfl ?_ | refine sb rfl ?_)
  refine O_call (within_c y 0 1048576) (by rfl) (by rfl) (by rfl) (by rfl) (fun r' hr => ?_)
  subst hr
  repeat (first | refine sc rfl ?_ | refine so rfl ?_ | refine sb rfl ?_)
  first
    | refine O_Xn (X_storeP 0 (writes_box (by show 0 < 3; decide)) rfl rfl rfl rfl rfl rfl rfl) ?_
    | refine O_Xn (X_storeP 1 (writes_box (by show 0 < 3; decide)) rfl rfl rfl rfl rfl rfl rfl) ?_
    | refine O_Xn (X_storeP 2 (writes_box (by show 0 < 3; decide)) rfl rfl rfl rfl rfl rfl rfl) ?_
    | refine O_Xn (X_storeP 3 (writes_box (by show 0 < 3; decide)) rfl rfl rfl rfl rfl rfl rfl) ?_
    | refine O_Xn (X_storeP 4 (writes_box (by show 0 < 3; decide)) rfl rfl rfl rfl rfl rfl rfl) ?_
  repeat (first | refine sc rfl ?_ | refine so rfl ?_ | refine sb rfl ?_)
  first
    | refine O_Xn (X_storeP 0 (writes_box (by show 1 < 3; decide)) rfl rfl rfl rfl rfl rfl rfl) ?_
    | refine O_Xn (X_storeP 1 (writes_box (by show 1 < 3; decide)) rfl rfl rfl rfl rfl rfl rfl) ?_
    | refine O_Xn (X_storeP 2 (writes_box (by show 1 < 3; decide)) rfl rfl rfl rfl rfl rfl rfl) ?_
    | refine O_Xn (X_storeP 3 (writes_box (by show 1 < 3; decide)) rfl rfl rfl rfl rfl rfl rfl) ?_
    | refine O_Xn (X_storeP 4 (writes_box (by show 1 < 3; decide)) rfl rfl rfl rfl rfl rfl rfl) ?_
  repeat (first | refine sc rfl ?_ | refine so rfl ?_ | refine sb rfl ?_)
  refine C_drawU 20 10 rfl (by kernel_rfl) (by kernel_rfl) (by kernel_rfl) ?_
  repeat (first | refine sd rfl ?_ | refine sdb rfl ?_ | refine sds rfl ?_)
  refine D_X (I64 l) (X_loadP 0 (reads_box 2) rfl rfl rfl rfl rfl rfl) ?_
  repeat (first | refine sd rfl ?_ | refine sdb rfl ?_ | refine sds rfl ?_)
  refine D_X (I64 (wi y)) (X_loadP 0 (reads_box 1) rfl rfl rfl rfl rfl rfl) ?_
  repeat (first | refine sd rfl ?_ | refine sdb rfl ?_ | refine sds rfl ?_)
  repeat (first | refine sc rfl ?_ | refine so rfl ?_ | refine sb rfl ?_)
  first
    | refine O_Xn (X_storeP 0 (writes_box (by show 2 < 3; decide)) rfl rfl rfl rfl rfl rfl rfl) ?_
    | refine O_Xn (X_storeP 1 (writes_box (by show 2 < 3; decide)) rfl rfl rfl rfl rfl rfl rfl) ?_
    | refine O_Xn (X_storeP 2 (writes_box (by show 2 < 3; decide)) rfl rfl rfl rfl rfl rfl rfl) ?_
    | refine O_Xn (X_storeP 3 (writes_box (by show 2 < 3; decide)) rfl rfl rfl rfl rfl rfl rfl) ?_
    | refine O_Xn (X_storeP 4 (writes_box (by show 2 < 3; decide)) rfl rfl rfl rfl rfl rfl rfl) ?_
  repeat (first | refine sc rfl ?_ | refine so rfl ?_ | refine sb rfl ?_)
  first
    | exact ⟨_, [_], _, rfl, pickA_perm (is := [0]) (As := [_]) rfl, rfl, rfl⟩
    | exact ⟨_, [_], _, rfl, pickA_perm (is := [1]) (As := [_]) rfl, rfl, rfl⟩
    | exact ⟨_, [_], _, rfl, pickA_perm (is := [2]) (As := [_]) rfl, rfl, rfl⟩
    | exact ⟨_, [_], _, rfl, pickA_perm (is := [3]) (As := [_]) rfl, rfl, rfl⟩
    | exact ⟨_, [_], _, rfl, pickA_perm (is := [4]) (As := [_]) rfl, rfl, rfl⟩
theorem bktNew_A (x y : Int) : FnA Tryz.prog 70 [I64 x, I64 y] [] (fun r cs' => ∃ g, r = PT g 0 ∧ cs' = [bktA g (wi x) (wi y) (wi y)]) := by
  refine FnA.intro Tryz.tabOK Tryz.wide_ Tryz.func70 rfl (by decide) rfl (fun X => ?_)
  iterate 11 (first | refine sc rfl ?_ | refine so rfl ?_ | refine sb rfl ?_)
  refine C_absb 5 rfl rfl rfl (fun g => ?_)
  repeat (first | refine sc rfl ?_ | refine so rfl ?_ | refine sb rfl ?_)
  first
    | refine O_callA [0] (bktSet_A g 0 0 0 x y) (by rfl) (by rfl) (by rfl) (by rfl) (by rfl) ?_
    | refine O_callA [1] (bktSet_A g 0 0 0 x y) (by rfl) (by rfl) (by rfl) (by rfl) (by rfl) ?_
    | refine O_callA [2] (bktSet_A g 0 0 0 x y) (by rfl) (by rfl) (by rfl) (by rfl) (by rfl) ?_
    | refine O_callA [3] (bktSet_A g 0 0 0 x y) (by rfl) (by rfl) (by rfl) (by rfl) (by rfl) ?_
    | refine O_callA [4] (bktSet_A g 0 0 0 x y) (by rfl) (by rfl) (by rfl) (by rfl) (by rfl) ?_
  rintro r cs' rfl
  repeat (first | refine sc rfl ?_ | refine so rfl ?_ | refine sb rfl ?_)
  first
    | refine O_loadP 0 (reads_box 1) rfl rfl rfl rfl rfl rfl ?_
    | refine O_loadP 1 (reads_box 1) rfl rfl rfl rfl rfl rfl ?_
    | refine O_loadP 2 (reads_box 1) rfl rfl rfl rfl rfl rfl ?_
    | refine O_loadP 3 (reads_box 1) rfl rfl rfl rfl rfl rfl ?_
    | refine O_loadP 4 (reads_box 1) rfl rfl rfl rfl rfl rfl ?_
  repeat (first | refine sc rfl ?_ | refine so rfl ?_ | refine sb rfl ?_)
  first
    | refine O_Xn (X_storeP 0 (writes_box (by show 2 < 3; decide)) rfl rfl rfl rfl rfl rfl rfl) ?_
    | refine O_Xn (X_storeP 1 (writes_box (by show 2 < 3; decide)) rfl rfl rfl rfl rfl rfl rfl) ?_
    | refine O_Xn (X_storeP 2 (writes_box (by show 2 < 3; decide)) rfl rfl rfl rfl rfl rfl rfl) ?_
    | refine O_Xn (X_storeP 3 (writes_box (by show 2 < 3; decide)) rfl rfl rfl rfl rfl rfl rfl) ?_
    | refine O_Xn (X_storeP 4 (writes_box (by show 2 < 3; decide)) rfl rfl rfl rfl rfl rfl rfl) ?_
  repeat (first | refine sc rfl ?_ | refine so rfl ?_ | refine sb rfl ?_)
  first
    | exact ⟨_, [_], _, rfl, pickA_perm (is := [0]) (As := [_]) rfl, rfl, g, rfl, rfl⟩
    | exact ⟨_, [_], _, rfl, pickA_perm (is := [1]) (As := [_]) rfl, rfl, g, rfl, rfl⟩
    | exact ⟨_, [_], _, rfl, pickA_perm (is := [2]) (As := [_]) rfl, rfl, g, rfl, rfl⟩
    | exact ⟨_, [_], _, rfl, pickA_perm (is := [3]) (As := [_]) rfl, rfl, g, rfl, rfl⟩
    | exact ⟨_, [_], _, rfl, pickA_perm (is := [4]) (As := [_]) rfl, rfl, g, rfl, rfl⟩

/-- The gate's tokens. -/
abbrev gatA (g : Nat) (r b l m1 m2 s1 s2 o1 o2 : Int) (q : Bool) : Abs := boxA g 169 [I64 r, I64 b, I64 l, I64 m1, I64 m2, I64 s1, I64 s2, I64 o1, I64 o2, B q]
theorem bktTick_A (g : Nat) (r b l m1 m2 s1 s2 o1 o2 : Int) (q : Bool) (h : -1048576 ≤ r ∧ r ≤ 1048576 ∧ -1048576 ≤ l ∧ l ≤ 1048576) : FnA Tryz.prog 108 [PT g 0] [gatA g r b l m1 m2 s1 s2 o1 o2 q] (fun _ cs' => cs' = [gatA g r b (min (l + r) b) m1 m2 s1 s2 o1 o2 q]) := by
  refine FnA.intro Tryz.tabOK Tryz.wide_ Tryz.func108 rfl (by decide) rfl (fun X => ?_)
  repeat (first | refine sc rfl ?_ | refine so rfl ?_ | refine sb rfl ?_)
  refine O_Xd (X_ptrnnil Tryz.underlying162 rfl rfl rfl) ?_
  repeat (first | refine sc rfl ?_ | refine so rfl ?_ | refine sb rfl ?_)
  refine C_true rfl rfl ?_
  repeat (first | refine sc rfl ?_ | refine so rfl ?_ | refine sb rfl ?_)
  refine C_drawU 20 15 rfl (by kernel_rfl) (by kernel_rfl) (by kernel_rfl) ?_
  repeat (first | refine sd rfl ?_ | refine sdb rfl ?_ | refine sds rfl ?_)
  refine D_X (I64 l) (X_loadP 0 (reads_box 2) rfl rfl rfl rfl rfl rfl) ?_
  repeat (first | refine sd rfl ?_ | refine sdb rfl ?_ | refine sds rfl ?_)
  refine D_X (I64 r) (X_loadP 0 (reads_box 0) rfl rfl rfl rfl rfl rfl) ?_
  repeat (first | refine sd rfl ?_ | refine sdb rfl ?_ | refine sds rfl ?_)
  rw [w64 (x := l + r) (by omega) (by omega)]
  refine D_X (I64 b) (X_loadP 0 (reads_box 1) rfl rfl rfl rfl rfl rfl) ?_
  repeat (first | refine sd rfl ?_ | refine sdb rfl ?_ | refine sds rfl ?_)
  repeat (first | refine sc rfl ?_ | refine so rfl ?_ | refine sb rfl ?_)
  first
    | refine O_Xn (X_storeP 0 (writes_box (by show 2 < 10; decide)) rfl rfl rfl rfl rfl rfl rfl) ?_
    | refine O_Xn (X_storeP 1 (writes_box (by show 2 < 10; decide)) rfl rfl rfl rfl rfl rfl rfl) ?_
    | refine O_Xn (X_storeP 2 (writes_box (by show 2 < 10; decide)) rfl rfl rfl rfl rfl rfl rfl) ?_
    | refine O_Xn (X_storeP 3 (writes_box (by show 2 < 10; decide)) rfl rfl rfl rfl rfl rfl rfl) ?_
    | refine O_Xn (X_storeP 4 (writes_box (by show 2 < 10; decide)) rfl rfl rfl rfl rfl rfl rfl) ?_
  repeat (first | refine sc rfl ?_ | refine so rfl ?_ | refine sb rfl ?_)
  first
    | exact ⟨_, [_], _, rfl, pickA_perm (is := [0]) (As := [_]) rfl, rfl, rfl⟩
    | exact ⟨_, [_], _, rfl, pickA_perm (is := [1]) (As := [_]) rfl, rfl, rfl⟩
    | exact ⟨_, [_], _, rfl, pickA_perm (is := [2]) (As := [_]) rfl, rfl, rfl⟩
    | exact ⟨_, [_], _, rfl, pickA_perm (is := [3]) (As := [_]) rfl, rfl, rfl⟩
    | exact ⟨_, [_], _, rfl, pickA_perm (is := [4]) (As := [_]) rfl, rfl, rfl⟩
theorem gatTick_A (g : Nat) (r b l m1 m2 s1 s2 o1 o2 : Int) (q : Bool) (h : -1048576 ≤ r ∧ r ≤ 1048576 ∧ -1048576 ≤ l ∧ l ≤ 1048576) : FnA Tryz.prog 81 [PT g 0] [gatA g r b l m1 m2 s1 s2 o1 o2 q] (fun _ cs' => cs' = [gatA g r b (min (l + r) b) m1 m2 s1 s2 o1 o2 q]) := by
  refine FnA.intro Tryz.tabOK Tryz.wide_ Tryz.func81 rfl (by decide) rfl (fun X => ?_)
  repeat (first | refine sc rfl ?_ | refine so rfl ?_ | refine sb rfl ?_)
  refine O_Xd (X_ptrnnil Tryz.underlying107 rfl rfl rfl) ?_
  repeat (first | refine sc rfl ?_ | refine so rfl ?_ | refine sb rfl ?_)
  refine C_true rfl rfl ?_
  repeat (first | refine sc rfl ?_ | refine so rfl ?_ | refine sb rfl ?_)
  first
    | refine O_callA [0] (bktTick_A g r b l m1 m2 s1 s2 o1 o2 q h) (by rfl) (by rfl) (by rfl) (by rfl) (by rfl) ?_
    | refine O_callA [1] (bktTick_A g r b l m1 m2 s1 s2 o1 o2 q h) (by rfl) (by rfl) (by rfl) (by rfl) (by rfl) ?_
    | refine O_callA [2] (bktTick_A g r b l m1 m2 s1 s2 o1 o2 q h) (by rfl) (by rfl) (by rfl) (by rfl) (by rfl) ?_
    | refine O_callA [3] (bktTick_A g r b l m1 m2 s1 s2 o1 o2 q h) (by rfl) (by rfl) (by rfl) (by rfl) (by rfl) ?_
    | refine O_callA [4] (bktTick_A g r b l m1 m2 s1 s2 o1 o2 q h) (by rfl) (by rfl) (by rfl) (by rfl) (by rfl) ?_
  rintro r' cs' rfl
  repeat (first | refine sc rfl ?_ | refine so rfl ?_ | refine sb rfl ?_)
  first
    | exact ⟨_, [_], _, rfl, pickA_perm (is := [0]) (As := [_]) rfl, rfl, rfl⟩
    | exact ⟨_, [_], _, rfl, pickA_perm (is := [1]) (As := [_]) rfl, rfl, rfl⟩
    | exact ⟨_, [_], _, rfl, pickA_perm (is := [2]) (As := [_]) rfl, rfl, rfl⟩
    | exact ⟨_, [_], _, rfl, pickA_perm (is := [3]) (As := [_]) rfl, rfl, rfl⟩
    | exact ⟨_, [_], _, rfl, pickA_perm (is := [4]) (As := [_]) rfl, rfl, rfl⟩
end Go.Proofs

/- The server's parts: dice, tags (of a new server). -/
set_option linter.unusedSimpArgs false
set_option linter.unusedVariables false
set_option maxRecDepth 100000
namespace Go.Proofs
open Go.Sy Go.Lib

abbrev z63 : List AV := [U64 0,U64 0,U64 0,U64 0,U64 0,U64 0,U64 0,U64 0,U64 0,U64 0,U64 0,U64 0,U64 0,U64 0,U64 0,U64 0,U64 0,U64 0,U64 0,U64 0,U64 0,U64 0,U64 0,U64 0,U64 0,U64 0,U64 0,U64 0,U64 0,U64 0,U64 0,U64 0,U64 0,U64 0,U64 0,U64 0,U64 0,U64 0,U64 0,U64 0,U64 0,U64 0,U64 0,U64 0,U64 0,U64 0,U64 0,U64 0,U64 0,U64 0,U64 0,U64 0,U64 0,U64 0,U64 0,U64 0,U64 0,U64 0,U64 0,U64 0,U64 0,U64 0,U64 0]
abbrev diceA (g : Nat) (x f k : Int) : Abs := boxA g 118 (U64 x :: (z63 ++ [I64 f, I64 k]))
theorem diceNew_A : FnA Tryz.prog 56 [] [] (fun r cs' => ∃ g, r = PT g 0 ∧ cs' = [diceA g 0 0 0]) := by
  refine FnA.intro Tryz.tabOK Tryz.wide_ Tryz.func56 rfl (by decide) rfl (fun X => ?_)
  iterate 9 (first | refine sc rfl ?_ | refine so rfl ?_ | refine sb rfl ?_)
  refine O_absb 0 rfl rfl rfl (fun g => ?_)
  repeat (first | refine sc rfl ?_ | refine so rfl ?_ | refine sb rfl ?_)
  first
    | exact ⟨_, [_], _, rfl, pickA_perm (is := [0]) (As := [_]) rfl, rfl, g, rfl, rfl⟩
    | exact ⟨_, [_], _, rfl, pickA_perm (is := [1]) (As := [_]) rfl, rfl, g, rfl, rfl⟩
    | exact ⟨_, [_], _, rfl, pickA_perm (is := [2]) (As := [_]) rfl, rfl, g, rfl, rfl⟩
    | exact ⟨_, [_], _, rfl, pickA_perm (is := [3]) (As := [_]) rfl, rfl, g, rfl, rfl⟩
    | exact ⟨_, [_], _, rfl, pickA_perm (is := [4]) (As := [_]) rfl, rfl, g, rfl, rfl⟩
theorem dicePut_A (g : Nat) (x : Int) : FnA Tryz.prog 57 [PT g 0, U64 x] [diceA g 0 0 0] (fun r cs' => r = B true ∧ cs' = [diceA g x 0 1]) := by
  refine FnA.intro Tryz.tabOK Tryz.wide_ Tryz.func57 rfl (by decide) rfl (fun X => ?_)
  repeat (first | refine sc rfl ?_ | refine so rfl ?_ | refine sb rfl ?_)
  refine O_Xd (X_ptrnil Tryz.underlying135 rfl rfl rfl) ?_
  repeat (first | refine sc rfl ?_ | refine so rfl ?_ | refine sb rfl ?_)
  first
    | refine O_loadP 0 (reads_box 65) rfl rfl rfl rfl rfl rfl ?_
    | refine O_loadP 1 (reads_box 65) rfl rfl rfl rfl rfl rfl ?_
    | refine O_loadP 2 (reads_box 65) rfl rfl rfl rfl rfl rfl ?_
    | refine O_loadP 3 (reads_box 65) rfl rfl rfl rfl rfl rfl ?_
    | refine O_loadP 4 (reads_box 65) rfl rfl rfl rfl rfl rfl ?_
  repeat (first | refine sc rfl ?_ | refine so rfl ?_ | refine sb rfl ?_)
  refine C_false rfl rfl ?_
  repeat (first | refine sc rfl ?_ | refine so rfl ?_ | refine sb rfl ?_)
  refine C_drawU 20 14 rfl (by kernel_rfl) (by kernel_rfl) (by kernel_rfl) ?_
  repeat (first | refine sd rfl ?_ | refine sdb rfl ?_ | refine sds rfl ?_)
  refine D_X (I64 0) (X_loadP 0 (reads_box 64) rfl rfl rfl rfl rfl rfl) ?_
  repeat (first | refine sd rfl ?_ | refine sdb rfl ?_ | refine sds rfl ?_)
  refine D_X (I64 0) (X_loadP 0 (reads_box 65) rfl rfl rfl rfl rfl rfl) ?_
  repeat (first | refine sd rfl ?_ | refine sdb rfl ?_ | refine sds rfl ?_)
  refine ⟨by decide, ?_⟩
  repeat (first | refine sd rfl ?_ | refine sdb rfl ?_ | refine sds rfl ?_)
  repeat (first | refine sc rfl ?_ | refine so rfl ?_ | refine sb rfl ?_)
  refine O_Xd (X_idxP (i := 0) (len := 64) rfl rfl (by decide) (by decide) rfl rfl rfl rfl) ?_
  repeat (first | refine sc rfl ?_ | refine so rfl ?_ | refine sb rfl ?_)
  first
    | refine O_Xn (X_storeP 0 (writes_box (by show 0 < 66; decide)) rfl rfl rfl rfl rfl rfl rfl) ?_
    | refine O_Xn (X_storeP 1 (writes_box (by show 0 < 66; decide)) rfl rfl rfl rfl rfl rfl rfl) ?_
    | refine O_Xn (X_storeP 2 (writes_box (by show 0 < 66; decide)) rfl rfl rfl rfl rfl rfl rfl) ?_
    | refine O_Xn (X_storeP 3 (writes_box (by show 0 < 66; decide)) rfl rfl rfl rfl rfl rfl rfl) ?_
    | refine O_Xn (X_storeP 4 (writes_box (by show 0 < 66; decide)) rfl rfl rfl rfl rfl rfl rfl) ?_
  repeat (first | refine sc rfl ?_ | refine so rfl ?_ | refine sb rfl ?_)
  first
    | refine O_loadP 0 (reads_box 65) rfl rfl rfl rfl rfl rfl ?_
    | refine O_loadP 1 (reads_box 65) rfl rfl rfl rfl rfl rfl ?_
    | refine O_loadP 2 (reads_box 65) rfl rfl rfl rfl rfl rfl ?_
    | refine O_loadP 3 (reads_box 65) rfl rfl rfl rfl rfl rfl ?_
    | refine O_loadP 4 (reads_box 65) rfl rfl rfl rfl rfl rfl ?_
  repeat (first | refine sc rfl ?_ | refine so rfl ?_ | refine sb rfl ?_)
  first
    | refine O_Xn (X_storeP 0 (writes_box (by show 65 < 66; decide)) rfl rfl rfl rfl rfl rfl rfl) ?_
    | refine O_Xn (X_storeP 1 (writes_box (by show 65 < 66; decide)) rfl rfl rfl rfl rfl rfl rfl) ?_
    | refine O_Xn (X_storeP 2 (writes_box (by show 65 < 66; decide)) rfl rfl rfl rfl rfl rfl rfl) ?_
    | refine O_Xn (X_storeP 3 (writes_box (by show 65 < 66; decide)) rfl rfl rfl rfl rfl rfl rfl) ?_
    | refine O_Xn (X_storeP 4 (writes_box (by show 65 < 66; decide)) rfl rfl rfl rfl rfl rfl rfl) ?_
  repeat (first | refine sc rfl ?_ | refine so rfl ?_ | refine sb rfl ?_)
  first
    | exact ⟨_, [_], _, rfl, pickA_perm (is := [0]) (As := [_]) rfl, rfl, rfl, rfl⟩
    | exact ⟨_, [_], _, rfl, pickA_perm (is := [1]) (As := [_]) rfl, rfl, rfl, rfl⟩
    | exact ⟨_, [_], _, rfl, pickA_perm (is := [2]) (As := [_]) rfl, rfl, rfl, rfl⟩
    | exact ⟨_, [_], _, rfl, pickA_perm (is := [3]) (As := [_]) rfl, rfl, rfl, rfl⟩
    | exact ⟨_, [_], _, rfl, pickA_perm (is := [4]) (As := [_]) rfl, rfl, rfl, rfl⟩
theorem diceTake_A (g : Nat) (x : Int) : FnA Tryz.prog 73 [PT g 0] [diceA g x 0 1] (fun r cs' => r = .tup [U64 x, B true] ∧ cs' = [diceA g x 1 0]) := by
  refine FnA.intro Tryz.tabOK Tryz.wide_ Tryz.func73 rfl (by decide) rfl (fun X => ?_)
  repeat (first | refine sc rfl ?_ | refine so rfl ?_ | refine sb rfl ?_)
  refine O_Xd (X_ptrnil Tryz.underlying135 rfl rfl rfl) ?_
  repeat (first | refine sc rfl ?_ | refine so rfl ?_ | refine sb rfl ?_)
  first
    | refine O_loadP 0 (reads_box 65) rfl rfl rfl rfl rfl rfl ?_
    | refine O_loadP 1 (reads_box 65) rfl rfl rfl rfl rfl rfl ?_
    | refine O_loadP 2 (reads_box 65) rfl rfl rfl rfl rfl rfl ?_
    | refine O_loadP 3 (reads_box 65) rfl rfl rfl rfl rfl rfl ?_
    | refine O_loadP 4 (reads_box 65) rfl rfl rfl rfl rfl rfl ?_
  repeat (first | refine sc rfl ?_ | refine so rfl ?_ | refine sb rfl ?_)
  refine C_false rfl rfl ?_
  repeat (first | refine sc rfl ?_ | refine so rfl ?_ | refine sb rfl ?_)
  refine C_drawU 20 9 rfl (by kernel_rfl) (by kernel_rfl) (by kernel_rfl) ?_
  repeat (first | refine sd rfl ?_ | refine sdb rfl ?_ | refine sds rfl ?_)
  refine D_X (I64 0) (X_loadP 0 (reads_box 64) rfl rfl rfl rfl rfl rfl) ?_
  repeat (first | refine sd rfl ?_ | refine sdb rfl ?_ | refine sds rfl ?_)
  refine D_X _ (X_idxP (i := 0) (len := 64) rfl rfl (by decide) (by decide) rfl rfl rfl rfl) ?_
  repeat (first | refine sd rfl ?_ | refine sdb rfl ?_ | refine sds rfl ?_)
  refine D_X (U64 x) (X_loadP 0 (reads_box 0) rfl rfl rfl rfl rfl rfl) ?_
  repeat (first | refine sd rfl ?_ | refine sdb rfl ?_ | refine sds rfl ?_)
  repeat (first | refine sc rfl ?_ | refine so rfl ?_ | refine sb rfl ?_)
  first
    | refine O_loadP 0 (reads_box 64) rfl rfl rfl rfl rfl rfl ?_
    | refine O_loadP 1 (reads_box 64) rfl rfl rfl rfl rfl rfl ?_
    | refine O_loadP 2 (reads_box 64) rfl rfl rfl rfl rfl rfl ?_
    | refine O_loadP 3 (reads_box 64) rfl rfl rfl rfl rfl rfl ?_
    | refine O_loadP 4 (reads_box 64) rfl rfl rfl rfl rfl rfl ?_
  repeat (first | refine sc rfl ?_ | refine so rfl ?_ | refine sb rfl ?_)
  refine ⟨by decide, ?_⟩
  repeat (first | refine sc rfl ?_ | refine so rfl ?_ | refine sb rfl ?_)
  first
    | refine O_Xn (X_storeP 0 (writes_box (by show 64 < 66; decide)) rfl rfl rfl rfl rfl rfl rfl) ?_
    | refine O_Xn (X_storeP 1 (writes_box (by show 64 < 66; decide)) rfl rfl rfl rfl rfl rfl rfl) ?_
    | refine O_Xn (X_storeP 2 (writes_box (by show 64 < 66; decide)) rfl rfl rfl rfl rfl rfl rfl) ?_
    | refine O_Xn (X_storeP 3 (writes_box (by show 64 < 66; decide)) rfl rfl rfl rfl rfl rfl rfl) ?_
    | refine O_Xn (X_storeP 4 (writes_box (by show 64 < 66; decide)) rfl rfl rfl rfl rfl rfl rfl) ?_
  repeat (first | refine sc rfl ?_ | refine so rfl ?_ | refine sb rfl ?_)
  first
    | refine O_loadP 0 (reads_box 65) rfl rfl rfl rfl rfl rfl ?_
    | refine O_loadP 1 (reads_box 65) rfl rfl rfl rfl rfl rfl ?_
    | refine O_loadP 2 (reads_box 65) rfl rfl rfl rfl rfl rfl ?_
    | refine O_loadP 3 (reads_box 65) rfl rfl rfl rfl rfl rfl ?_
    | refine O_loadP 4 (reads_box 65) rfl rfl rfl rfl rfl rfl ?_
  repeat (first | refine sc rfl ?_ | refine so rfl ?_ | refine sb rfl ?_)
  first
    | refine O_Xn (X_storeP 0 (writes_box (by show 65 < 66; decide)) rfl rfl rfl rfl rfl rfl rfl) ?_
    | refine O_Xn (X_storeP 1 (writes_box (by show 65 < 66; decide)) rfl rfl rfl rfl rfl rfl rfl) ?_
    | refine O_Xn (X_storeP 2 (writes_box (by show 65 < 66; decide)) rfl rfl rfl rfl rfl rfl rfl) ?_
    | refine O_Xn (X_storeP 3 (writes_box (by show 65 < 66; decide)) rfl rfl rfl rfl rfl rfl rfl) ?_
    | refine O_Xn (X_storeP 4 (writes_box (by show 65 < 66; decide)) rfl rfl rfl rfl rfl rfl rfl) ?_
  repeat (first | refine sc rfl ?_ | refine so rfl ?_ | refine sb rfl ?_)
  first
    | exact ⟨_, [_], _, rfl, pickA_perm (is := [0]) (As := [_]) rfl, rfl, rfl, rfl⟩
    | exact ⟨_, [_], _, rfl, pickA_perm (is := [1]) (As := [_]) rfl, rfl, rfl, rfl⟩
    | exact ⟨_, [_], _, rfl, pickA_perm (is := [2]) (As := [_]) rfl, rfl, rfl, rfl⟩
    | exact ⟨_, [_], _, rfl, pickA_perm (is := [3]) (As := [_]) rfl, rfl, rfl, rfl⟩
    | exact ⟨_, [_], _, rfl, pickA_perm (is := [4]) (As := [_]) rfl, rfl, rfl, rfl⟩
theorem mix_c (a b : Int) : FnP Tryz.prog 74 [U64 a, U64 b] (fun r => ∃ x, r = U64 x) := by
  refine FnP.intro Tryz.tabOK Tryz.wide_ Tryz.func74 rfl (by decide) rfl (fun X => ?_)
  repeat (first | refine sc rfl ?_ | refine so rfl ?_ | refine sb rfl ?_)
  refine ⟨by decide, ?_⟩
  repeat (first | refine sc rfl ?_ | refine so rfl ?_ | refine sb rfl ?_)
  refine ⟨by decide, ?_⟩
  repeat (first | refine sc rfl ?_ | refine so rfl ?_ | refine sb rfl ?_)
  exact ⟨_, rfl, rfl, _, rfl⟩
theorem owns0_c : FnP Tryz.prog 72 [I64 0] (· = B true) := by
  refine FnP.intro Tryz.tabOK Tryz.wide_ Tryz.func72 rfl (by decide) rfl (fun X => ?_)
  repeat (first | refine sc rfl ?_ | refine so rfl ?_ | refine sb rfl ?_)
  exact ⟨_, rfl, rfl, rfl⟩

/-- The tags' table: nothing issued, or one tag of the admin. -/
abbrev mac0 (g : Nat) : Abs := boxA g 159 [I64 0,I64 0,I64 0,I64 0,I64 0,I64 0,I64 0,I64 0,I64 0,I64 0,U64 0,I64 0,U64 0,I64 0,U64 0,I64 0,U64 0,I64 0,U64 0,I64 0,U64 0,I64 0,U64 0,I64 0,U64 0,I64 0,U64 0]
abbrev mac1 (g : Nat) (c : Int) : Abs := boxA g 159 [I64 1,I64 0,I64 0,I64 0,I64 0,I64 0,I64 0,I64 0,I64 0,I64 1,U64 c,I64 0,U64 0,I64 0,U64 0,I64 0,U64 0,I64 0,U64 0,I64 0,U64 0,I64 0,U64 0,I64 0,U64 0,I64 0,U64 0]
theorem macNew_A : FnA Tryz.prog 53 [] [] (fun r cs' => ∃ g, r = PT g 0 ∧ cs' = [mac0 g]) := by
  refine FnA.intro Tryz.tabOK Tryz.wide_ Tryz.func53 rfl (by decide) rfl (fun X => ?_)
  iterate 9 (first | refine sc rfl ?_ | refine so rfl ?_ | refine sb rfl ?_)
  refine O_absb 0 rfl rfl rfl (fun g => ?_)
  repeat (first | refine sc rfl ?_ | refine so rfl ?_ | refine sb rfl ?_)
  first
    | exact ⟨_, [_], _, rfl, pickA_perm (is := [0]) (As := [_]) rfl, rfl, g, rfl, rfl⟩
    | exact ⟨_, [_], _, rfl, pickA_perm (is := [1]) (As := [_]) rfl, rfl, g, rfl, rfl⟩
    | exact ⟨_, [_], _, rfl, pickA_perm (is := [2]) (As := [_]) rfl, rfl, g, rfl, rfl⟩
    | exact ⟨_, [_], _, rfl, pickA_perm (is := [3]) (As := [_]) rfl, rfl, g, rfl, rfl⟩
    | exact ⟨_, [_], _, rfl, pickA_perm (is := [4]) (As := [_]) rfl, rfl, g, rfl, rfl⟩
theorem issue_A (g d : Nat) (x : Int) : FnA Tryz.prog 58 [PT g 0, I64 0, PT d 0] [mac0 g, diceA d x 0 1] (fun r cs' => ∃ c, r = .tup [I64 1, U64 c, I64 0] ∧ cs' = [mac1 g c, diceA d x 1 0]) := by
  refine FnA.intro Tryz.tabOK Tryz.wide_ Tryz.func58 rfl (by decide) rfl (fun X => ?_)
  repeat (first | refine sc rfl ?_ | refine so rfl ?_ | refine sb rfl ?_)
  refine O_Xd (X_ptrnil Tryz.underlying104 rfl rfl rfl) ?_
  repeat (first | refine sc rfl ?_ | refine so rfl ?_ | refine sb rfl ?_)
  refine C_false rfl rfl ?_
  repeat (first | refine sc rfl ?_ | refine so rfl ?_ | refine sb rfl ?_)
  refine O_call owns0_c (by rfl) (by rfl) (by rfl) (by rfl) (fun r' hr => ?_)
  subst hr
  repeat (first | refine sc rfl ?_ | refine so rfl ?_ | refine sb rfl ?_)
  refine C_false rfl rfl ?_
  repeat (first | refine sc rfl ?_ | refine so rfl ?_ | refine sb rfl ?_)
  first
    | refine O_callA [0] (diceTake_A d x) (by rfl) (by rfl) (by rfl) (by rfl) (by rfl) ?_
    | refine O_callA [1] (diceTake_A d x) (by rfl) (by rfl) (by rfl) (by rfl) (by rfl) ?_
    | refine O_callA [2] (diceTake_A d x) (by rfl) (by rfl) (by rfl) (by rfl) (by rfl) ?_
    | refine O_callA [3] (diceTake_A d x) (by rfl) (by rfl) (by rfl) (by rfl) (by rfl) ?_
    | refine O_callA [4] (diceTake_A d x) (by rfl) (by rfl) (by rfl) (by rfl) (by rfl) ?_
  rintro r' cs' ⟨rfl, rfl⟩
  repeat (first | refine sc rfl ?_ | refine so rfl ?_ | refine sb rfl ?_)
  refine C_false rfl rfl ?_
  repeat (first | refine sc rfl ?_ | refine so rfl ?_ | refine sb rfl ?_)
  refine C_drawU 20 9 rfl (by kernel_rfl) (by kernel_rfl) (by kernel_rfl) ?_
  repeat (first | refine sd rfl ?_ | refine sdb rfl ?_ | refine sds rfl ?_)
  refine D_X _ (X_idxP (i := 0) (len := 9) rfl rfl (by decide) (by decide) rfl rfl rfl rfl) ?_
  repeat (first | refine sd rfl ?_ | refine sdb rfl ?_ | refine sds rfl ?_)
  refine D_X (I64 0) (X_loadP 1 (reads_box 0) rfl rfl rfl rfl rfl rfl) ?_
  repeat (first | refine sd rfl ?_ | refine sdb rfl ?_ | refine sds rfl ?_)
  repeat (first | refine sc rfl ?_ | refine so rfl ?_ | refine sb rfl ?_)
  refine O_Xd (X_idxP (i := 0) (len := 9) rfl rfl (by decide) (by decide) rfl rfl rfl rfl) ?_
  repeat (first | refine sc rfl ?_ | refine so rfl ?_ | refine sb rfl ?_)
  first
    | refine O_Xn (X_storeP 0 (writes_box (by show 0 < 27; decide)) rfl rfl rfl rfl rfl rfl rfl) ?_
    | refine O_Xn (X_storeP 1 (writes_box (by show 0 < 27; decide)) rfl rfl rfl rfl rfl rfl rfl) ?_
    | refine O_Xn (X_storeP 2 (writes_box (by show 0 < 27; decide)) rfl rfl rfl rfl rfl rfl rfl) ?_
    | refine O_Xn (X_storeP 3 (writes_box (by show 0 < 27; decide)) rfl rfl rfl rfl rfl rfl rfl) ?_
    | refine O_Xn (X_storeP 4 (writes_box (by show 0 < 27; decide)) rfl rfl rfl rfl rfl rfl rfl) ?_
  repeat (first | refine sc rfl ?_ | refine so rfl ?_ | refine sb rfl ?_)
  refine O_Xd (X_idxP (i := 0) (len := 9) rfl rfl (by decide) (by decide) rfl rfl rfl rfl) ?_
  repeat (first | refine sc rfl ?_ | refine so rfl ?_ | refine sb rfl ?_)
  first
    | refine O_loadP 0 (reads_box 0) rfl rfl rfl rfl rfl rfl ?_
    | refine O_loadP 1 (reads_box 0) rfl rfl rfl rfl rfl rfl ?_
    | refine O_loadP 2 (reads_box 0) rfl rfl rfl rfl rfl rfl ?_
    | refine O_loadP 3 (reads_box 0) rfl rfl rfl rfl rfl rfl ?_
    | refine O_loadP 4 (reads_box 0) rfl rfl rfl rfl rfl rfl ?_
  repeat (first | refine sc rfl ?_ | refine so rfl ?_ | refine sb rfl ?_)
  refine ⟨by decide, ?_⟩
  repeat (first | refine sc rfl ?_ | refine so rfl ?_ | refine sb rfl ?_)
  refine O_call (mix_c _ _) (by rfl) (by rfl) (by rfl) (by rfl) (fun r' hr => ?_)
  obtain ⟨c, rfl⟩ := hr
  repeat (first | refine sc rfl ?_ | refine so rfl ?_ | refine sb rfl ?_)
  refine O_Xd (X_idxP (i := 0) (len := 9) rfl rfl (by decide) (by decide) rfl rfl rfl rfl) ?_
  repeat (first | refine sc rfl ?_ | refine so rfl ?_ | refine sb rfl ?_)
  first
    | refine O_Xn (X_storeB 0 (writesN_box (cells := [I64 1,I64 0,I64 0,I64 0,I64 0,I64 0,I64 0,I64 0,I64 0,I64 0,U64 0,I64 0,U64 0,I64 0,U64 0,I64 0,U64 0,I64 0,U64 0,I64 0,U64 0,I64 0,U64 0,I64 0,U64 0,I64 0,U64 0]) (new := [I64 1, U64 (max c 1)]) (o := 9) (by show 9 + 2 ≤ 27; decide)) rfl rfl rfl rfl rfl rfl rfl) ?_
    | refine O_Xn (X_storeB 1 (writesN_box (cells := [I64 1,I64 0,I64 0,I64 0,I64 0,I64 0,I64 0,I64 0,I64 0,I64 0,U64 0,I64 0,U64 0,I64 0,U64 0,I64 0,U64 0,I64 0,U64 0,I64 0,U64 0,I64 0,U64 0,I64 0,U64 0,I64 0,U64 0]) (new := [I64 1, U64 (max c 1)]) (o := 9) (by show 9 + 2 ≤ 27; decide)) rfl rfl rfl rfl rfl rfl rfl) ?_
  repeat (first | refine sc rfl ?_ | refine so rfl ?_ | refine sb rfl ?_)
  first
    | exact ⟨_, [_, _], _, rfl, pickA_perm (is := [0, 0]) (As := [_, _]) rfl, rfl, max c 1, rfl, rfl⟩
    | exact ⟨_, [_, _], _, rfl, pickA_perm (is := [0, 1]) (As := [_, _]) rfl, rfl, max c 1, rfl, rfl⟩
    | exact ⟨_, [_, _], _, rfl, pickA_perm (is := [0, 2]) (As := [_, _]) rfl, rfl, max c 1, rfl, rfl⟩
    | exact ⟨_, [_, _], _, rfl, pickA_perm (is := [0, 3]) (As := [_, _]) rfl, rfl, max c 1, rfl, rfl⟩
    | exact ⟨_, [_, _], _, rfl, pickA_perm (is := [0, 4]) (As := [_, _]) rfl, rfl, max c 1, rfl, rfl⟩
    | exact ⟨_, [_, _], _, rfl, pickA_perm (is := [0, 5]) (As := [_, _]) rfl, rfl, max c 1, rfl, rfl⟩
    | exact ⟨_, [_, _], _, rfl, pickA_perm (is := [1, 0]) (As := [_, _]) rfl, rfl, max c 1, rfl, rfl⟩
    | exact ⟨_, [_, _], _, rfl, pickA_perm (is := [1, 1]) (As := [_, _]) rfl, rfl, max c 1, rfl, rfl⟩
    | exact ⟨_, [_, _], _, rfl, pickA_perm (is := [1, 2]) (As := [_, _]) rfl, rfl, max c 1, rfl, rfl⟩
    | exact ⟨_, [_, _], _, rfl, pickA_perm (is := [1, 3]) (As := [_, _]) rfl, rfl, max c 1, rfl, rfl⟩
    | exact ⟨_, [_, _], _, rfl, pickA_perm (is := [1, 4]) (As := [_, _]) rfl, rfl, max c 1, rfl, rfl⟩
    | exact ⟨_, [_, _], _, rfl, pickA_perm (is := [1, 5]) (As := [_, _]) rfl, rfl, max c 1, rfl, rfl⟩
    | exact ⟨_, [_, _], _, rfl, pickA_perm (is := [2, 0]) (As := [_, _]) rfl, rfl, max c 1, rfl, rfl⟩
    | exact ⟨_, [_, _], _, rfl, pickA_perm (is := [2, 1]) (As := [_, _]) rfl, rfl, max c 1, rfl, rfl⟩
    | exact ⟨_, [_, _], _, rfl, pickA_perm (is := [2, 2]) (As := [_, _]) rfl, rfl, max c 1, rfl, rfl⟩
    | exact ⟨_, [_, _], _, rfl, pickA_perm (is := [2, 3]) (As := [_, _]) rfl, rfl, max c 1, rfl, rfl⟩
    | exact ⟨_, [_, _], _, rfl, pickA_perm (is := [2, 4]) (As := [_, _]) rfl, rfl, max c 1, rfl, rfl⟩
    | exact ⟨_, [_, _], _, rfl, pickA_perm (is := [2, 5]) (As := [_, _]) rfl, rfl, max c 1, rfl, rfl⟩
    | exact ⟨_, [_, _], _, rfl, pickA_perm (is := [3, 0]) (As := [_, _]) rfl, rfl, max c 1, rfl, rfl⟩
    | exact ⟨_, [_, _], _, rfl, pickA_perm (is := [3, 1]) (As := [_, _]) rfl, rfl, max c 1, rfl, rfl⟩
    | exact ⟨_, [_, _], _, rfl, pickA_perm (is := [3, 2]) (As := [_, _]) rfl, rfl, max c 1, rfl, rfl⟩
    | exact ⟨_, [_, _], _, rfl, pickA_perm (is := [3, 3]) (As := [_, _]) rfl, rfl, max c 1, rfl, rfl⟩
    | exact ⟨_, [_, _], _, rfl, pickA_perm (is := [3, 4]) (As := [_, _]) rfl, rfl, max c 1, rfl, rfl⟩
    | exact ⟨_, [_, _], _, rfl, pickA_perm (is := [3, 5]) (As := [_, _]) rfl, rfl, max c 1, rfl, rfl⟩
    | exact ⟨_, [_, _], _, rfl, pickA_perm (is := [4, 0]) (As := [_, _]) rfl, rfl, max c 1, rfl, rfl⟩
    | exact ⟨_, [_, _], _, rfl, pickA_perm (is := [4, 1]) (As := [_, _]) rfl, rfl, max c 1, rfl, rfl⟩
    | exact ⟨_, [_, _], _, rfl, pickA_perm (is := [4, 2]) (As := [_, _]) rfl, rfl, max c 1, rfl, rfl⟩
    | exact ⟨_, [_, _], _, rfl, pickA_perm (is := [4, 3]) (As := [_, _]) rfl, rfl, max c 1, rfl, rfl⟩
    | exact ⟨_, [_, _], _, rfl, pickA_perm (is := [4, 4]) (As := [_, _]) rfl, rfl, max c 1, rfl, rfl⟩
    | exact ⟨_, [_, _], _, rfl, pickA_perm (is := [4, 5]) (As := [_, _]) rfl, rfl, max c 1, rfl, rfl⟩
    | exact ⟨_, [_, _], _, rfl, pickA_perm (is := [5, 0]) (As := [_, _]) rfl, rfl, max c 1, rfl, rfl⟩
    | exact ⟨_, [_, _], _, rfl, pickA_perm (is := [5, 1]) (As := [_, _]) rfl, rfl, max c 1, rfl, rfl⟩
    | exact ⟨_, [_, _], _, rfl, pickA_perm (is := [5, 2]) (As := [_, _]) rfl, rfl, max c 1, rfl, rfl⟩
    | exact ⟨_, [_, _], _, rfl, pickA_perm (is := [5, 3]) (As := [_, _]) rfl, rfl, max c 1, rfl, rfl⟩
    | exact ⟨_, [_, _], _, rfl, pickA_perm (is := [5, 4]) (As := [_, _]) rfl, rfl, max c 1, rfl, rfl⟩
    | exact ⟨_, [_, _], _, rfl, pickA_perm (is := [5, 5]) (As := [_, _]) rfl, rfl, max c 1, rfl, rfl⟩
    | exact ⟨_, [_, _], _, rfl, pickA_perm (is := [6, 0]) (As := [_, _]) rfl, rfl, max c 1, rfl, rfl⟩
    | exact ⟨_, [_, _], _, rfl, pickA_perm (is := [6, 1]) (As := [_, _]) rfl, rfl, max c 1, rfl, rfl⟩
    | exact ⟨_, [_, _], _, rfl, pickA_perm (is := [6, 2]) (As := [_, _]) rfl, rfl, max c 1, rfl, rfl⟩
    | exact ⟨_, [_, _], _, rfl, pickA_perm (is := [6, 3]) (As := [_, _]) rfl, rfl, max c 1, rfl, rfl⟩
    | exact ⟨_, [_, _], _, rfl, pickA_perm (is := [6, 4]) (As := [_, _]) rfl, rfl, max c 1, rfl, rfl⟩
    | exact ⟨_, [_, _], _, rfl, pickA_perm (is := [6, 5]) (As := [_, _]) rfl, rfl, max c 1, rfl, rfl⟩
end Go.Proofs

/- The symbolic walk, part 77: a call that gives a pointer to a new variable, in drawn regions of effects. -/
set_option linter.unusedSimpArgs false
set_option linter.unusedVariables false
namespace Go.Sy
open Go.RowKit
section
variable {P : Program} {T : Tab} {X : Ctx P T} {n : Nat} {e : Env} {st : St} {a : Act} {w : World} {ops : Array Oper} {K : St → Prop}

theorem Rel.newMu {s : List (Nat × AV)} {c : List Ch} (r : Rel X n e ⟨s, c⟩ a w) (d b : Nat) (hd : Nat.blt d n = true) (hf : freshS d s = true) (hc : freshC d c = true) : Rel X n { e with μ := upd e.μ d b } ⟨s, c⟩ a w := by
  have hd' : d < n := by have := hd; simp [Nat.blt] at this; omega
  have hnod : ∀ {x : AV}, x.no d = true → ∀ j, x.no j = false → j ≠ d := fun hx j hj he => by subst he; rw [hx] at hj; cases hj
  have hid : ∀ (q : Nat), q ≠ d → upd e.μ d b q = e.μ q := fun q hq => by simp [upd, hq]
  refine { r with slots := ?_, heap := ?_, fix := ?_ }
  · intro j x hx
    obtain ⟨v', h1, h2⟩ := r.slots j x hx
    exact ⟨v', h1, Rep.mono (e := e) (f := { e with μ := upd e.μ d b }) (IM.le_refl _) x (fun q hq => ⟨hid q (hnod (freshS_get hf j x hx) q hq), rfl⟩) h2⟩
  · refine HeapOK.grow r.heap (IM.le_refl _) (fun x hcm j hj => ⟨hid j ?_, rfl⟩) (fun b hb => rfl) (Nat.le_refl _) (fun b _ h => h)
    intro he; subst he; rw [freshC_mem hc x hcm] at hj; cases hj
  · intro k hk
    show upd e.μ d b k = _
    rw [hid k (by omega)]
    exact r.fix k hk

/-- A call that gives a pointer to a new variable. -/
theorem X_callNew {p : Pl} {f : FuncId} {dst : Nat} {args : Array Operand} {tys : Array TypeId} {ty : TypeId} {pos : String} {aft : Array Edge} {gd : Option (Nat × Bool)} {j : Nat} {avs : List AV} {t : TypeId} {cells : List AV}
    {Si : List (Nat × AV)} {c : List Ch} (hf : FnA P f avs [] (fun r cs' => ∃ g, r = PT g 0 ∧ cs' = [boxA g t cells])) (hg : guardA ops ⟨Si, c⟩ ⟨some dst, .call ⟨.value (.func f), args, tys⟩, ty, pos, aft, gd⟩ = some true) (ha : opds Si args.toList = some avs) (himm : AV.imm.immL avs = true)
    (hd : Nat.blt dst n = true) (hcre : (j, dst) ∈ p.cre) (hc : freshC dst c = true) (hno : AV.no.noL dst cells = true) :
    StepX X n ops p Si c (.box dst t cells :: c) j ⟨some dst, .call ⟨.value (.func f), args, tys⟩, ty, pos, aft, gd⟩ (.bp dst 0) := by
  intro e a w S K Q r hS hcr hk
  have r' : Rel X n e ⟨Si, c⟩ a w := r.less hS (fun h => h)
  rw [if_pos (guardA_sound r' hg)]
  refine .inl ?_
  unfold Oper.wp
  rw [run_call hf.1 a.eval rfl w, Oper.upon_enter]
  have h1 := RepT.toI avs himm (opds_sound r' ha)
  rw [map_eval]
  have hp : c.Perm (([] : List Abs).map Ch.abs ++ c) := .refl _
  have hd2 := (r.heap.perm hp).absOK
  have hfree : ∀ k y, get S k = some y → y.no dst = true := fun k y h => hcr k y h (j, dst) hcre rfl
  refine (hf.2 e.G w _ ⟨r.im, r.mz⟩ h1 hd2.1).mono ?_
  rintro en w' ⟨rv, cv, cs', G', ⟨g, rfl, rfl⟩, rfl, g1, g2, g3, g4, g5, g6, o1, o2, o3, o4, o5⟩
  have r2 := r.swapAbs (st := ⟨S, c⟩) hp g2 g4 g3 g5 g6 ⟨o1, o2, o3⟩ o4 o5
  have r3 : Rel X n ⟨G', e.μ, e.hd⟩ ⟨S.filter fun q => q.2.no dst, .abs (boxA g t cells) :: c⟩ a w' := r2.less (fun k y h => get_unfilter hfree h) (fun h => h)
  have r4 := r3.newMu dst g hd (freshS_filter dst S) (by simpa [freshC, Ch.no] using hc)
  have hcv : cv = .pointer (some ⟨g, 0, none⟩) := by simpa only [RepI] using g1
  have r5 : Rel X n ⟨G', upd e.μ dst g, e.hd⟩ ⟨S.filter fun q => q.2.no dst, .box dst t cells :: c⟩ a w' := { r4 with
    slots := r4.slots
    heap := HeapOK.retell r4.heap (fun bs hb => by
      obtain ⟨h1, h2⟩ := hb
      obtain ⟨arr, h3, h4⟩ := h2
      exact ⟨by simpa [upd, boxA] using h1, arr, by simpa [upd] using h3, RepIL.toRep (e := ⟨G', upd e.μ dst g, e.hd⟩) cells h4⟩) }
  refine hk _ _ _ _ (r5.put hd (x := .bp dst 0) (v := cv) (by simp only [Rep, hcv]; simp [upd])) ⟨?_, ?_, ?_⟩
  · rintro d' h'
    cases h'
    rw [get_cons, if_pos rfl]
  · intro k y hne hy _
    rw [get_cons, if_neg (fun h => hne (by rw [h]))]
    exact get_filter hy (hfree k y hy)
  · intro k y hy
    rw [get_cons] at hy
    by_cases h : dst = k
    · rw [if_pos h] at hy; cases hy; exact .inl ⟨by rw [h], rfl⟩
    · rw [if_neg h] at hy; exact .inr (.inl (get_unfilter hfree hy))
end
end Go.Sy

/- The symbolic walk, part 56: drawn regions that turn memory, with a tail in its order. -/
set_option linter.unusedSimpArgs false
set_option linter.unusedVariables false
namespace Go.Sy
open Go.RowKit

section
variable {P : Program} {T : Tab} {X : Ctx P T} {n : Nat} {e : Env} {st : St} {a : Act} {w : World} {ops : Array Oper} {K : St → Prop}

theorem any_of_MT {p : Pl} {base : List (Nat × AV)} {C : (Nat → Bool) → List Ch} {D : Done} {Q : QX X} {m f : Nat} (ht : tailB ops f m = true) (hE : ∀ e ∈ p.E, e < m) (hC : ∀ L L' : Nat → Bool, (∀ e ∈ p.E, L e = L' e) → C L = C L') (hA : p.ancB ops = true) (hbse : p.baseB base = true) (hD : D.length = m)
    (hstep : ∀ i o, i < m → ops[i]? = some o → ∃ x, D[i]? = some (o.dst, x) ∧ p.creB i x = true ∧ ∀ L : Nat → Bool, (∀ a ∈ p.anc i, L a = true) → (∀ q, i ∈ p.anc q → L q = false) → L i = false → StepX X n ops p (availX p i (D.take i) o.after.toList base) (C L) (if i ∈ p.E then C (setM L i) else C L) i o x)
    (hedge : ∀ i o, ops[i]? = some o → ∀ e ∈ o.after, Region.binds .any e = true → e.on < i)
    (hdist : ∀ (i j : Nat) o o' d, i < m → j < m → ops[i]? = some o → ops[j]? = some o' → o.dst = some d → o'.dst = some d → i = j)
    (hbase : ∀ (i : Nat) o d, i < m → ops[i]? = some o → o.dst = some d → get base d = none)
    (hfin : ∀ e a w, Rel X n e ⟨finS base (killD p D), C (fun _ => true)⟩ a w → wpList P ops Q (ops.toList.drop m) a w) :
    ∀ (fuel : Nat) (listed : Array Bool) (a : Act) (w : World) (e : Env) (S : List (Nat × AV)), listed.size = ops.size → listed.toList.count false = fuel → ClosedL ops listed → Rel X n e ⟨S, C (fun e => listed.getD e false)⟩ a w → (∀ j, m ≤ j → listed.getD j false = false) →
      (∀ k y, get base k = some y → get S k = some y) →
      (∀ (i : Nat) d x, listed.getD i false = true → D[i]? = some (some d, x) → (∀ q ∈ p.ki, listed.getD q.1 false = true → x.noO q.2 = true) → get S d = some x) →
      (∀ k y, get S k = some y → ∀ q ∈ p.cre, listed.getD q.1 false = false → y.no q.2 = true) →
      wpAny P .any ops Q fuel listed a w := by
  have ht' := ht
  unfold tailB at ht'
  simp only [Bool.and_eq_true, List.all_eq_true, List.mem_range, Array.length_toList] at ht'
  obtain ⟨⟨hm, hcov⟩, hch⟩ := ht'
  have hm' : m < ops.size := by have h := hm; simp [Nat.blt] at h; omega
  have cnt : ∀ (l : List Bool) (k : Nat), k ≤ l.length → (∀ j, j < l.length → (l[j]? = some true ↔ j < k)) → l.count false + k = l.length := by
    intro l
    induction l with
    | nil => intro k hk _; simp at hk; simp [hk]
    | cons b l ih =>
      intro k hk h
      cases k with
      | zero =>
        have hb : b = false := by
          have := h 0 (by simp)
          cases b
          · rfl
          · simp at this
        subst hb
        have := ih 0 (Nat.zero_le _) (fun j hj => by have := h (j + 1) (by simpa using hj); simpa using this)
        simp at this ⊢; omega
      | succ k =>
        have hb : b = true := by
          have := h 0 (by simp)
          simpa using this
        subst hb
        have := ih k (by simpa using hk) (fun j hj => by have := h (j + 1) (by simpa using hj); simpa using this)
        simp at this ⊢; omega
  have bspec : ∀ {l : List (Nat × AV)}, p.baseB l = true → ∀ k y, get l k = some y → (∀ q ∈ p.cre, y.no q.2 = true) ∧ ∀ q ∈ p.ki, y.noO q.2 = true := by
    intro l
    induction l with
    | nil => intro _ k y h; simp [get] at h
    | cons z l ih =>
      obtain ⟨j, v⟩ := z
      intro h k y hy
      simp only [Pl.baseB, Bool.and_eq_true, List.all_eq_true] at h
      rw [get_cons] at hy
      by_cases hj : j = k
      · rw [if_pos hj] at hy; cases hy; exact ⟨h.1.1, h.1.2⟩
      · rw [if_neg hj] at hy; exact ih h.2 k y hy
  have ancL : ∀ {listed : Array Bool}, ClosedL ops listed → ∀ i, i < ops.size → (∀ j ∈ predsB ops i, listed.getD j false = true) → ∀ a ∈ p.anc i, listed.getD a false = true := by
    intro listed hc i
    induction i using Nat.strongRecOn with
    | ind i ih =>
      intro hi hp a ha
      have h1 := List.all_eq_true.1 (List.all_eq_true.1 hA i (by simpa using hi)) a ha
      simp only [Bool.or_eq_true, List.contains_iff_mem, List.any_eq_true] at h1
      rcases h1 with h1 | ⟨q, hq, h1⟩
      · exact hp a h1
      · obtain ⟨o, ho, ed, he, hb, rfl⟩ := mem_preds hq
        have hlt := hedge i o ho ed he hb
        refine ih ed.on hlt (by omega) (fun j hj => ?_) a h1
        obtain ⟨o', ho', ed', he', hb', rfl⟩ := mem_preds hj
        exact hc ed.on o' (hp _ hq) ho' ed' he' hb'
  have ancLd : ∀ {listed : Array Bool}, listed.size = ops.size → ClosedL ops listed → ∀ i, listed.getD i false = true → ∀ a ∈ p.anc i, listed.getD a false = true := by
    intro listed hsz hc i hi
    have hlt : i < ops.size := by
      rcases Nat.lt_or_ge i ops.size with h | h
      · exact h
      · rw [← hsz] at h; simp [Nat.not_lt.2 h] at hi
    refine ancL hc i hlt (fun j hj => ?_)
    obtain ⟨o, ho, ed, he, hb, rfl⟩ := mem_preds hj
    exact hc i o hi ho ed he hb
  intro fuel
  induction fuel with
  | zero =>
    intro listed a w e S hsz hc hcl r hge hb hs hcr
    exfalso
    have h1 := hge m (Nat.le_refl _)
    have hls : m < listed.size := by omega
    have : false ∈ listed.toList := by
      simp [hls] at h1
      exact List.mem_iff_getElem.2 ⟨m, by simpa using hls, by simpa using h1⟩
    have := List.count_pos_iff.2 this
    omega
  | succ fuel ih =>
    intro listed a w e S hsz hc hcl r hge hb hs hcr
    by_cases hall : ∀ j, j < m → listed.getD j false = true
    · -- all that is drawn is done
      have hlt : ∀ j, j < ops.size → (listed.getD j false = true ↔ j < m) := fun j hj => by
        constructor
        · intro h
          rcases Nat.lt_or_ge j m with h1 | h1
          · exact h1
          · rw [hge j h1] at h; cases h
        · exact hall j
      have hcount : listed.toList.count false + m = ops.size := by
        have := cnt listed.toList m (by simp; omega) (fun j hj => by
          have hjl : j < listed.size := by simpa using hj
          have := hlt j (by omega)
          simp [hjl] at this ⊢
          exact this)
        simpa [hsz] using this
      refine any_tail ht hedge (fuel + 1) m listed a w (by omega) (Nat.le_refl _) hsz hlt ?_
      rw [hC (fun e => listed.getD e false) (fun _ => true) (fun e he => hall e (hE e he))] at r
      refine hfin e a w (r.less (fun k y hk => ?_) (fun h => h))
      rcases finS_get hk with ⟨i, hi⟩ | h
      · obtain ⟨hi, he⟩ := killD_get hi
        have hil : i < D.length := by
          rcases Nat.lt_or_ge i D.length with h | h
          · exact h
          · rw [List.getElem?_eq_none h] at hi; cases hi
        exact hs i k y (hall i (by omega)) hi (fun q hq _ => List.all_eq_true.1 he q hq)
      · exact hb k y h
    -- what may come up now is drawn
    have hlow : ∀ i ∈ Region.ready .any ops listed, i < m := by
      intro i hi
      rw [mem_ready] at hi
      obtain ⟨h0, o, ho, hpre⟩ := hi
      rcases Nat.lt_or_ge i m with h | h
      · exact h
      · exfalso
        have hlt : i < ops.size := (Array.getElem?_eq_some_iff.1 ho).1
        rcases Nat.eq_or_lt_of_le h with h | h
        · subst h
          refine hall (fun j hj => ?_)
          have hc := hcov j hj
          rw [List.contains_iff_mem] at hc
          refine ancs_listed hcl f m (fun q hq => ?_) j hc
          obtain ⟨o', ho', ed, he, hbb, rfl⟩ := mem_preds hq
          rw [ho] at ho'; cases ho'
          exact hpre ed he hbb
        · have hc := hch (i - m - 1) (by omega)
          rw [show m + 1 + (i - m - 1) = i by omega, show m + (i - m - 1) = i - 1 by omega, List.contains_iff_mem] at hc
          obtain ⟨o', ho', ed, he, hbb, hon⟩ := mem_preds hc
          rw [ho] at ho'; cases ho'
          have := hpre ed he hbb
          rw [hon, hge (i - 1) (by omega)] at this
          cases this
    refine ⟨fun hr => ?_, fun i hi => ?_⟩
    · exfalso
      refine hall (fun j => ?_)
      induction j using Nat.strongRecOn with
      | ind j ihj =>
        intro hj
        cases hl : listed.getD j true with
        | true =>
          have : j < listed.size := by omega
          simp [this] at hl ⊢
          exact hl
        | false =>
          exfalso
          have hmem : j ∈ Region.ready .any ops listed := by
            rw [mem_ready]
            refine ⟨hl, ops[j], by simp [show j < ops.size by omega], fun e he hbb => ?_⟩
            have h1 := hedge j ops[j] (by simp [show j < ops.size by omega]) e he hbb
            exact ihj e.on h1 (by omega)
          rw [hr] at hmem; cases hmem
    · have him := hlow i hi
      rw [mem_ready] at hi
      obtain ⟨h0, o, ho, hpre⟩ := hi
      have hlt : i < ops.size := (Array.getElem?_eq_some_iff.1 ho).1
      have hif : listed.getD i false = false := by
        have : i < listed.size := by omega
        simp [this] at h0 ⊢
        exact h0
      have hlf : listed.toList[i]? = some false := by
        have : i < listed.size := by omega
        simp [this] at h0 ⊢
        exact h0
      have hpl : ∀ j ∈ predsB ops i, listed.getD j false = true := by
        intro j hj
        obtain ⟨o', ho', ed, he, hb', rfl⟩ := mem_preds hj
        rw [ho] at ho'
        cases ho'
        exact hpre ed he hb'
      have hanc := ancL hcl i hlt hpl
      obtain ⟨x, hx, hcre, hst⟩ := hstep i o him ho
      unfold wpOp
      simp only [ho]
      have hhi : ∀ q, i ∈ p.anc q → listed.getD q false = false := fun q hq => by
        cases hb : listed.getD q false with
        | false => rfl
        | true => rw [ancLd hsz hcl q hb i hq] at hif; cases hif
      have hav : ∀ k y, get (availX p i (D.take i) o.after.toList base) k = some y → get S k = some y := by
        intro k y hk
        rcases availX_get hk with ⟨ed, h1, h2, h3, h5⟩ | h
        · have h4 : D[ed.on]? = some (some k, y) := by
            rw [List.getElem?_take] at h3
            split at h3
            · exact h3
            · cases h3
          refine hs ed.on k y (hpre ed (by simpa using h1) h2) h4 (fun q hq hql => ?_)
          have h6 := List.all_eq_true.1 h5 q hq
          simp only [Bool.or_eq_true, List.contains_iff_mem] at h6
          rcases h6 with (h6 | h6) | h6
          · exact h6
          · have := Nat.eq_of_beq_eq_true h6
            rw [← this, hif] at hql; cases hql
          · rw [ancLd hsz hcl q.1 hql i h6] at hif; cases hif
        · exact hb k y h
      have hset : ∀ j, j ≠ i → (listed.setIfInBounds i true).getD j false = listed.getD j false := fun j hj => getD_set_ne false (Ne.symm hj)
      have hseti : (listed.setIfInBounds i true).getD i false = true := by
        have : i < listed.size := by omega
        simp [this]
      have hphn : (if i ∈ p.E then C (setM (fun e => listed.getD e false) i) else C (fun e => listed.getD e false)) = C (fun e => (listed.setIfInBounds i true).getD e false) := by
        have h1 : C (setM (fun e => listed.getD e false) i) = C (fun e => (listed.setIfInBounds i true).getD e false) := by
          congr 1; funext k; unfold setM
          by_cases hk : k = i
          · rw [if_pos hk, hk, hseti]
          · rw [if_neg hk, hset k hk]
        by_cases hi : i ∈ p.E
        · rw [if_pos hi, h1]
        · rw [if_neg hi]
          exact hC _ _ (fun e he => (hset e (fun h => hi (h ▸ he))).symm)
      refine hst (fun e => listed.getD e false) hanc hhi hif e a w S _ Q r hav (fun k y hy q hq hqi => hcr k y hy q hq (by rw [hqi]; exact hif)) (fun e' a' w' S' r' hu => ?_)
      refine ih (listed.setIfInBounds i true) a' w' e' S' (by simpa using hsz) ?_ ?_ (by rw [← hphn]; exact r') (fun j hj => by rw [hset j (by omega)]; exact hge j hj) (fun k y hk => ?_) (fun j d y hj hy hq => ?_) (fun k y hy q hq hql => ?_)
      · rw [Array.toList_setIfInBounds]
        have hlt' : i < listed.toList.length := by simpa using (by omega : i < listed.size)
        have hg : listed.toList[i] = false := by
          have := List.getElem?_eq_getElem hlt'
          rw [hlf] at this
          simpa using this.symm
        rw [List.count_set hlt', hg, hc]
        simp
      · intro j o' hj ho' ed he hb'
        by_cases hji : j = i
        · subst hji
          rw [ho] at ho'; cases ho'
          have := hpre ed he hb'
          by_cases h : ed.on = j
          · rw [h]; exact hseti
          · rw [hset _ h]; exact this
        · rw [hset j hji] at hj
          have := hcl j o' hj ho' ed he hb'
          by_cases h : ed.on = i
          · rw [h]; exact hseti
          · rw [hset _ h]; exact this
      · refine hu.2.1 k y (fun h => ?_) (hb k y hk) (fun q hq _ => (bspec hbse k y hk).2 q hq)
        rw [hbase i o k him ho h] at hk; cases hk
      · by_cases hji : j = i
        · subst hji
          rw [hx] at hy
          simp only [Option.some.injEq, Prod.mk.injEq] at hy
          rw [← hy.2]
          exact hu.1 d hy.1
        · rw [hset j hji] at hj
          have hold := hs j d y hj hy (fun q hqk hql => hq q hqk (by
            by_cases h : q.1 = i
            · rw [h]; exact hseti
            · rw [hset _ h]; exact hql))
          refine hu.2.1 d y (fun h => ?_) hold (fun q hqk hqi => hq q hqk (by rw [hqi]; exact hseti))
          have hjl : j < m := by
            rw [← hD]
            rcases Nat.lt_or_ge j D.length with h | h
            · exact h
            · rw [List.getElem?_eq_none h] at hy; cases hy
          obtain ⟨x', hx', _⟩ := hstep j ops[j] hjl (by simp [show j < ops.size by omega])
          rw [hx'] at hy
          simp only [Option.some.injEq, Prod.mk.injEq] at hy
          exact hji (hdist j i ops[j] o d hjl him (by simp [show j < ops.size by omega]) ho hy.1 h)
      · have hqi : q.1 ≠ i := fun h => by rw [h, hseti] at hql; cases hql
        rw [hset _ hqi] at hql
        rcases hu.2.2 k y hy with ⟨_, rfl⟩ | h | rfl
        · have h6 := List.all_eq_true.1 hcre q hq
          simp only [Bool.or_eq_true, List.contains_iff_mem] at h6
          rcases h6 with (h6 | h6) | h6
          · exact absurd (Nat.eq_of_beq_eq_true h6) hqi
          · rw [hanc q.1 h6] at hql; cases hql
          · exact h6
        · exact hcr k y h q hq hql
        · rfl

/-- What is asked of the plan alone, where a tail follows. -/
def Pl.fineT (p : Pl) (ops : Array Oper) (base : List (Nat × AV)) (m : Nat) : Bool :=
  p.ancB ops && p.baseB base && (p.E.all fun e => Nat.blt e m)

/-- The first m operations of a drawn region come in any order, and turn memory; the rest follows in its order. -/
theorem C_drawMT (p : Pl) (f m : Nat) {id : Nat} {Q : Exit → St → Prop} {s base : List (Nat × AV)} {c : List Ch} (C : (Nat → Bool) → List Ch) (hb : eraseD (ops.toList.take m) s = some base) (hchk : chkD base 0 [] (ops.toList.take m) = true) (hed : edgesB ops = true)
    (ht : tailB ops f m = true) (hfine : p.fineT ops base m = true) (hC : ∀ L L' : Nat → Bool, (∀ e ∈ p.E, L e = L' e) → C L = C L') (h0 : C (fun _ => false) = c)
    (h : SymM X n ops p base C (fun s => SymO X n ops (ops.toList.drop m) s (fun s => Q .normal s)) (ops.toList.take m) []) : SymC X n (.region id ops true) ⟨s, c⟩ Q := by
  intro e a w r
  have hbs : ∀ k y, get base k = some y → get s k = some y := fun k y hk => eraseD_get hb hk
  simp only [Pl.fineT, Bool.and_eq_true] at hfine
  obtain ⟨⟨g1, g2⟩, g3⟩ := hfine
  obtain ⟨D, _, hl, hK, hs⟩ := h.plan
  obtain ⟨c1, c2⟩ := chkD_spec hchk
  have hbel : Below w.heap.size w { w with drawn := w.drawn + 1 } := ⟨rfl, rfl, rfl, Nat.le_refl _, fun _ _ => rfl⟩
  have hm : m < ops.size := by
    unfold tailB at ht
    simp only [Bool.and_eq_true] at ht
    have h1 := ht.1.1
    simp [Nat.blt] at h1; omega
  have hEs : ∀ e ∈ p.E, e < m := fun e he => by
    have := List.all_eq_true.1 g3 e he
    simp [Nat.blt] at this; omega
  have htk : ∀ (i : Nat) (o : Oper), i < m → ops[i]? = some o → (ops.toList.take m)[i]? = some o := fun i o him ho => by rw [List.getElem?_take, if_pos him]; simpa using ho
  have hrep : ∀ i, (Array.replicate ops.size false).getD i false = false := fun i => by
    rcases Nat.lt_or_ge i ops.size with h | h
    · simp [h]
    · simp [Nat.not_lt.2 h]
  refine wp_region_any X.wide ?_
  refine any_of_MT (X := X) (Q := concX X n Q) (n := n) (p := p) (base := base) (C := C) (D := D) (f := f) (m := m) ht hEs hC g1 g2 (by simp at hl; omega) (fun i o him ho => ?_) (fun i o ho => ?_) (fun i j o o' d him hjm hi hj => c2 i j o o' d (htk i o him hi) (htk j o' hjm hj)) (fun i o d him ho hd => ((c1 i o (htk i o him ho)).2 d hd).1)
    (fun e a w r => hK e a w (concX X n Q) r fun e' st' _ _ hk hr => ⟨e', st', hr, hk⟩) _ _ a _ e base (by simp) (by simp) (fun j o hj => by rw [hrep] at hj; cases hj) ?_ (fun j hj => hrep j) (fun k y hk => hk) (fun i d x hi => by rw [hrep] at hi; cases hi) ?_
  · have := hs i o (htk i o him ho)
    simpa using this
  · intro ed he hb'
    have hi : i < ops.toList.length := by
      have := (Array.getElem?_eq_some_iff.1 ho).1
      simpa using this
    have h1 := List.all_eq_true.1 hed i (List.mem_range.2 hi)
    have h2 := List.all_eq_true.1 h1 ed.on (by
      unfold predsB
      rw [show ops.toList[i]? = some o by simpa using ho]
      exact List.mem_map.2 ⟨ed, List.mem_filter.2 ⟨by simpa using he, hb'⟩, rfl⟩)
    simp [Nat.blt] at h2; omega
  · have h1 : C (fun e => (Array.replicate ops.size false).getD e false) = C (fun _ => false) := hC _ _ (fun e _ => hrep e)
    rw [h1, h0]
    exact (r.below hbel).less hbs (fun h => h)
  · intro k y hy q hq _
    have : ∀ {l : List (Nat × AV)}, p.baseB l = true → get l k = some y → y.no q.2 = true := by
      intro l
      induction l with
      | nil => intro _ h; simp [get] at h
      | cons z l ih =>
        obtain ⟨j, v⟩ := z
        intro h hy
        simp only [Pl.baseB, Bool.and_eq_true, List.all_eq_true] at h
        rw [get_cons] at hy
        by_cases hj : j = k
        · rw [if_pos hj] at hy; cases hy; exact h.1.1 q hq
        · rw [if_neg hj] at hy; exact ih h.2 hy
    exact this g2 hy
end
end Go.Sy

/- The server's parts: the gate of a new server. -/
set_option linter.unusedSimpArgs false
set_option linter.unusedVariables false
set_option maxRecDepth 100000
namespace Go.Proofs
open Go.Sy Go.Lib

theorem admin_c : FnP Tryz.prog 55 [] (· = .agg [I64 1040, I64 1048576, I64 1048576, I64 0, I64 0, I64 32, I64 2, I64 0, I64 0]) := by
  refine FnP.intro Tryz.tabOK Tryz.wide_ Tryz.func55 rfl (by decide) rfl (fun X => ?_)
  repeat (first | refine sc rfl ?_ | refine so rfl ?_ | refine sb rfl ?_)
  exact ⟨_, rfl, rfl, rfl⟩
def CG (b a1 a2 a3 : List AV) (x4 x9 x14 x19 : Bool) : List Ch :=
  (bif x19 then [.box 22 165 a3] else []) ++ ((bif x14 then [.box 17 165 a2] else []) ++ ((bif x9 then [.box 12 165 a1] else []) ++ (bif x4 then [.box 7 161 b] else [])))
def PG1 : Pl := ⟨[[], [], [], [], [], [4], [4], [], [], [4], [9], [9], [], [], [4, 9], [14], [14], [], [], [4, 9, 14], [19], [19], [], [], []], [4, 9, 14, 19], [(4, 7), (9, 12), (14, 17), (19, 22)], []⟩
theorem gatNew_A (u r b m s o cn st de : Int) : FnA Tryz.prog 54 [.agg [I64 u, I64 r, I64 b, I64 m, I64 s, I64 o, I64 cn, I64 st, I64 de]] [] (fun x cs' => ∃ g, x = PT g 0 ∧ cs' = [gatA g (wi r) (wi b) (wi b) (wi m) 0 (wi s) 0 (wi o) 0 false]) := by
  refine FnA.intro Tryz.tabOK Tryz.wide_ Tryz.func54 rfl (by decide) rfl (fun X => ?_)
  repeat (first | refine sc rfl ?_ | refine so rfl ?_ | refine sb rfl ?_)
  refine C_le _ (Le.freezebox 1 rfl rfl rfl) ?_
  refine C_drawMT PG1 20 22 (fun L => CG [I64 (wi r), I64 (wi b), I64 (wi b)] [I64 (wi m), I64 0] [I64 (wi s), I64 0] [I64 (wi o), I64 0] (L 4) (L 9) (L 14) (L 19)) rfl (by kernel_rfl) (by kernel_rfl) (by kernel_rfl) (by kernel_rfl) (fun L L' h => by simp only [h 4 (by decide), h 9 (by decide), h 14 (by decide), h 19 (by decide)]) rfl ?_
  repeat (refine sm rfl ⟨trivial, ?_⟩)
  refine SM (.bp 7 0) rfl (fun L h1 h2 h3 => ?_) ?_
  · show StepX _ _ _ _ _ (CG [I64 (wi r), I64 (wi b), I64 (wi b)] [I64 (wi m), I64 0] [I64 (wi s), I64 0] [I64 (wi o), I64 0] (L 4) (L 9) (L 14) (L 19)) (CG [I64 (wi r), I64 (wi b), I64 (wi b)] [I64 (wi m), I64 0] [I64 (wi s), I64 0] [I64 (wi o), I64 0] true (L 9) (L 14) (L 19)) _ _ _
    rw [show L 4 = false from h3, h2 9 (show (4 : Nat) ∈ PG1.anc 9 by decide), h2 14 (show (4 : Nat) ∈ PG1.anc 14 by decide), h2 19 (show (4 : Nat) ∈ PG1.anc 19 by decide)]
    exact X_callNew (bktNew_A r b) rfl rfl rfl rfl (show ((4, 7) : Nat × Nat) ∈ PG1.cre by decide) rfl rfl
  repeat (refine sm rfl ⟨trivial, ?_⟩)
  refine SM (.agg [I64 (wi r), I64 (wi b), I64 (wi b)]) rfl (fun L h1 h2 h3 => ?_) ?_
  · show StepX _ _ _ _ _ (CG [I64 (wi r), I64 (wi b), I64 (wi b)] [I64 (wi m), I64 0] [I64 (wi s), I64 0] [I64 (wi o), I64 0] (L 4) (L 9) (L 14) (L 19)) (CG [I64 (wi r), I64 (wi b), I64 (wi b)] [I64 (wi m), I64 0] [I64 (wi s), I64 0] [I64 (wi o), I64 0] (L 4) (L 9) (L 14) (L 19)) _ _ _
    rw [h1 4 (show (4 : Nat) ∈ PG1.anc 6 by decide)]
    cases L 9 <;> cases L 14 <;> cases L 19 <;> exact X_still rfl rfl rfl
  repeat (refine sm rfl ⟨trivial, ?_⟩)
  refine SM (.bp 12 0) rfl (fun L h1 h2 h3 => ?_) ?_
  · show StepX _ _ _ _ _ (CG [I64 (wi r), I64 (wi b), I64 (wi b)] [I64 (wi m), I64 0] [I64 (wi s), I64 0] [I64 (wi o), I64 0] (L 4) (L 9) (L 14) (L 19)) (CG [I64 (wi r), I64 (wi b), I64 (wi b)] [I64 (wi m), I64 0] [I64 (wi s), I64 0] [I64 (wi o), I64 0] (L 4) true (L 14) (L 19)) _ _ _
    rw [show L 9 = false from h3, h1 4 (show (4 : Nat) ∈ PG1.anc 9 by decide), h2 14 (show (9 : Nat) ∈ PG1.anc 14 by decide), h2 19 (show (9 : Nat) ∈ PG1.anc 19 by decide)]
    exact X_callNew (accNew_A m) rfl rfl rfl rfl (show ((9, 12) : Nat × Nat) ∈ PG1.cre by decide) rfl rfl
  repeat (refine sm rfl ⟨trivial, ?_⟩)
  refine SM (.agg [I64 (wi m), I64 0]) rfl (fun L h1 h2 h3 => ?_) ?_
  · show StepX _ _ _ _ _ (CG [I64 (wi r), I64 (wi b), I64 (wi b)] [I64 (wi m), I64 0] [I64 (wi s), I64 0] [I64 (wi o), I64 0] (L 4) (L 9) (L 14) (L 19)) (CG [I64 (wi r), I64 (wi b), I64 (wi b)] [I64 (wi m), I64 0] [I64 (wi s), I64 0] [I64 (wi o), I64 0] (L 4) (L 9) (L 14) (L 19)) _ _ _
    rw [h1 9 (show (9 : Nat) ∈ PG1.anc 11 by decide)]
    cases L 4 <;> cases L 14 <;> cases L 19 <;> exact X_still rfl rfl rfl
  repeat (refine sm rfl ⟨trivial, ?_⟩)
  refine SM (.bp 17 0) rfl (fun L h1 h2 h3 => ?_) ?_
  · show StepX _ _ _ _ _ (CG [I64 (wi r), I64 (wi b), I64 (wi b)] [I64 (wi m), I64 0] [I64 (wi s), I64 0] [I64 (wi o), I64 0] (L 4) (L 9) (L 14) (L 19)) (CG [I64 (wi r), I64 (wi b), I64 (wi b)] [I64 (wi m), I64 0] [I64 (wi s), I64 0] [I64 (wi o), I64 0] (L 4) (L 9) true (L 19)) _ _ _
    rw [show L 14 = false from h3, h1 4 (show (4 : Nat) ∈ PG1.anc 14 by decide), h1 9 (show (9 : Nat) ∈ PG1.anc 14 by decide), h2 19 (show (14 : Nat) ∈ PG1.anc 19 by decide)]
    exact X_callNew (accNew_A s) rfl rfl rfl rfl (show ((14, 17) : Nat × Nat) ∈ PG1.cre by decide) rfl rfl
  repeat (refine sm rfl ⟨trivial, ?_⟩)
  refine SM (.agg [I64 (wi s), I64 0]) rfl (fun L h1 h2 h3 => ?_) ?_
  · show StepX _ _ _ _ _ (CG [I64 (wi r), I64 (wi b), I64 (wi b)] [I64 (wi m), I64 0] [I64 (wi s), I64 0] [I64 (wi o), I64 0] (L 4) (L 9) (L 14) (L 19)) (CG [I64 (wi r), I64 (wi b), I64 (wi b)] [I64 (wi m), I64 0] [I64 (wi s), I64 0] [I64 (wi o), I64 0] (L 4) (L 9) (L 14) (L 19)) _ _ _
    rw [h1 14 (show (14 : Nat) ∈ PG1.anc 16 by decide)]
    cases L 4 <;> cases L 9 <;> cases L 19 <;> exact X_still rfl rfl rfl
  repeat (refine sm rfl ⟨trivial, ?_⟩)
  refine SM (.bp 22 0) rfl (fun L h1 h2 h3 => ?_) ?_
  · show StepX _ _ _ _ _ (CG [I64 (wi r), I64 (wi b), I64 (wi b)] [I64 (wi m), I64 0] [I64 (wi s), I64 0] [I64 (wi o), I64 0] (L 4) (L 9) (L 14) (L 19)) (CG [I64 (wi r), I64 (wi b), I64 (wi b)] [I64 (wi m), I64 0] [I64 (wi s), I64 0] [I64 (wi o), I64 0] (L 4) (L 9) (L 14) true) _ _ _
    rw [show L 19 = false from h3, h1 4 (show (4 : Nat) ∈ PG1.anc 19 by decide), h1 9 (show (9 : Nat) ∈ PG1.anc 19 by decide), h1 14 (show (14 : Nat) ∈ PG1.anc 19 by decide)]
    exact X_callNew (accNew_A o) rfl rfl rfl rfl (show ((19, 22) : Nat × Nat) ∈ PG1.cre by decide) rfl rfl
  repeat (refine sm rfl ⟨trivial, ?_⟩)
  refine SM (.agg [I64 (wi o), I64 0]) rfl (fun L h1 h2 h3 => ?_) ?_
  · show StepX _ _ _ _ _ (CG [I64 (wi r), I64 (wi b), I64 (wi b)] [I64 (wi m), I64 0] [I64 (wi s), I64 0] [I64 (wi o), I64 0] (L 4) (L 9) (L 14) (L 19)) (CG [I64 (wi r), I64 (wi b), I64 (wi b)] [I64 (wi m), I64 0] [I64 (wi s), I64 0] [I64 (wi o), I64 0] (L 4) (L 9) (L 14) (L 19)) _ _ _
    rw [h1 19 (show (19 : Nat) ∈ PG1.anc 21 by decide)]
    cases L 4 <;> cases L 9 <;> cases L 14 <;> exact X_still rfl rfl rfl
  repeat (refine sm rfl ⟨trivial, ?_⟩)
  refine sm rfl ?_
  show SymO _ _ _ _ ⟨_, [.box 22 165 [I64 (wi o), I64 0], .box 17 165 [I64 (wi s), I64 0], .box 12 165 [I64 (wi m), I64 0], .box 7 161 [I64 (wi r), I64 (wi b), I64 (wi b)]]⟩ _
  iterate 3 (first | refine so rfl ?_ | refine sb rfl ?_)
  refine O_absb 2 rfl rfl rfl (fun g => ?_)
  repeat (first | refine sc rfl ?_ | refine so rfl ?_ | refine sb rfl ?_)
  first
    | exact ⟨_, [_], _, rfl, pickA_perm (is := [0]) (As := [_]) rfl, rfl, g, rfl, rfl⟩
    | exact ⟨_, [_], _, rfl, pickA_perm (is := [1]) (As := [_]) rfl, rfl, g, rfl, rfl⟩
    | exact ⟨_, [_], _, rfl, pickA_perm (is := [2]) (As := [_]) rfl, rfl, g, rfl, rfl⟩
    | exact ⟨_, [_], _, rfl, pickA_perm (is := [3]) (As := [_]) rfl, rfl, g, rfl, rfl⟩
    | exact ⟨_, [_], _, rfl, pickA_perm (is := [4]) (As := [_]) rfl, rfl, g, rfl, rfl⟩
end Go.Proofs

/- A new server. -/
set_option linter.unusedSimpArgs false
set_option linter.unusedVariables false
set_option maxRecDepth 100000
namespace Go.Proofs
open Go.Sy Go.Lib

abbrev ikz : Int → Value := fun i => .int .i64 i
noncomputable abbrev iKz : Key Tryz.prog 3 Int := intKey Tryz.underlying3
theorem sameBits_ikz (k : Int) : Instr.sameBits 10000 (iKz.kv k) (iKz.kv k) = true := by
  show Instr.sameBits 10000 (.int .i64 k) (.int .i64 k) = true
  simp [Instr.sameBits]
abbrev z66 : List AV := U64 0 :: (z63 ++ [I64 0, I64 0])
abbrev NS : AV := .v (.slice none 0 0)
abbrev NM : AV := .v (.map none)
/-- A new server's cells: tags, dice, connections, flows, book, tenants, now. -/
abbrev srvA (s mg tm : Nat) (now : Int) : Abs := boxA s 134 (PT mg 0 :: (z66 ++ [NS, NM, NS, NS, NS, NS, NS, NS, NS, NS, NS, NS, NM, .v (.map (some tm)), I64 now]))
abbrev tenA (h g : Nat) : Abs := boxA h 114 [PT g 0, .v (.pointer none)]
abbrev tenM (tm h : Nat) : Abs := mapA ikz (some tm) [((0 : Int), PT h 0)]
theorem srvNew_A (x : Int) : FnA Tryz.prog 40 [U64 x] [] (fun r cs' => ∃ s mg tm h g c d, r = PT s 0 ∧ cs' = [srvA s mg tm 0, tenM tm h, tenA h g, gatA g 1048576 1048576 1048576 0 0 0 0 32 0 false, mac1 mg c, diceA d x 1 0]) := by
  refine FnA.intro Tryz.tabOK Tryz.wide_ Tryz.func40 rfl (by decide) rfl (fun X => ?_)
  repeat (first | refine sc rfl ?_ | refine so rfl ?_ | refine sb rfl ?_)
  refine O_callA [] macNew_A (by rfl) (by rfl) (by rfl) (by rfl) (by rfl) ?_
  rintro r' cs' ⟨mg, rfl, rfl⟩
  repeat (first | refine sc rfl ?_ | refine so rfl ?_ | refine sb rfl ?_)
  refine O_makeMap ikz rfl (fun tm => ?_)
  repeat (first | refine sc rfl ?_ | refine so rfl ?_ | refine sb rfl ?_)
  refine O_call admin_c (by rfl) (by rfl) (by rfl) (by rfl) (fun r' hr => ?_)
  subst hr
  repeat (first | refine sc rfl ?_ | refine so rfl ?_ | refine sb rfl ?_)
  refine O_callA [] (gatNew_A 1040 1048576 1048576 0 0 32 2 0 0) (by rfl) (by rfl) (by rfl) (by rfl) (by rfl) ?_
  rintro r' cs' ⟨g, rfl, rfl⟩
  iterate 2 (first | refine so rfl ?_ | refine sb rfl ?_)
  refine O_absb 10 rfl rfl rfl (fun h => ?_)
  repeat (first | refine sc rfl ?_ | refine so rfl ?_ | refine sb rfl ?_)
  refine O_Xn (X_ins 2 iKz Tryz.underlying115 sameBits_ikz rfl rfl rfl rfl rfl rfl) ?_
  repeat (first | refine sc rfl ?_ | refine so rfl ?_ | refine sb rfl ?_)
  refine O_callA [] diceNew_A (by rfl) (by rfl) (by rfl) (by rfl) (by rfl) ?_
  rintro r' cs' ⟨d, rfl, rfl⟩
  repeat (first | refine sc rfl ?_ | refine so rfl ?_ | refine sb rfl ?_)
  first
    | refine O_callA [0] (dicePut_A d x) (by rfl) (by rfl) (by rfl) (by rfl) (by rfl) ?_
    | refine O_callA [1] (dicePut_A d x) (by rfl) (by rfl) (by rfl) (by rfl) (by rfl) ?_
    | refine O_callA [2] (dicePut_A d x) (by rfl) (by rfl) (by rfl) (by rfl) (by rfl) ?_
    | refine O_callA [3] (dicePut_A d x) (by rfl) (by rfl) (by rfl) (by rfl) (by rfl) ?_
    | refine O_callA [4] (dicePut_A d x) (by rfl) (by rfl) (by rfl) (by rfl) (by rfl) ?_
  rintro r' cs' ⟨rfl, rfl⟩
  repeat (first | refine sc rfl ?_ | refine so rfl ?_ | refine sb rfl ?_)
  first
    | refine O_callA [0, 0] (issue_A mg d x) (by rfl) (by rfl) (by rfl) (by rfl) (by rfl) ?_
    | refine O_callA [0, 1] (issue_A mg d x) (by rfl) (by rfl) (by rfl) (by rfl) (by rfl) ?_
    | refine O_callA [0, 2] (issue_A mg d x) (by rfl) (by rfl) (by rfl) (by rfl) (by rfl) ?_
    | refine O_callA [0, 3] (issue_A mg d x) (by rfl) (by rfl) (by rfl) (by rfl) (by rfl) ?_
    | refine O_callA [0, 4] (issue_A mg d x) (by rfl) (by rfl) (by rfl) (by rfl) (by rfl) ?_
    | refine O_callA [0, 5] (issue_A mg d x) (by rfl) (by rfl) (by rfl) (by rfl) (by rfl) ?_
    | refine O_callA [1, 0] (issue_A mg d x) (by rfl) (by rfl) (by rfl) (by rfl) (by rfl) ?_
    | refine O_callA [1, 1] (issue_A mg d x) (by rfl) (by rfl) (by rfl) (by rfl) (by rfl) ?_
    | refine O_callA [1, 2] (issue_A mg d x) (by rfl) (by rfl) (by rfl) (by rfl) (by rfl) ?_
    | refine O_callA [1, 3] (issue_A mg d x) (by rfl) (by rfl) (by rfl) (by rfl) (by rfl) ?_
    | refine O_callA [1, 4] (issue_A mg d x) (by rfl) (by rfl) (by rfl) (by rfl) (by rfl) ?_
    | refine O_callA [1, 5] (issue_A mg d x) (by rfl) (by rfl) (by rfl) (by rfl) (by rfl) ?_
    | refine O_callA [2, 0] (issue_A mg d x) (by rfl) (by rfl) (by rfl) (by rfl) (by rfl) ?_
    | refine O_callA [2, 1] (issue_A mg d x) (by rfl) (by rfl) (by rfl) (by rfl) (by rfl) ?_
    | refine O_callA [2, 2] (issue_A mg d x) (by rfl) (by rfl) (by rfl) (by rfl) (by rfl) ?_
    | refine O_callA [2, 3] (issue_A mg d x) (by rfl) (by rfl) (by rfl) (by rfl) (by rfl) ?_
    | refine O_callA [2, 4] (issue_A mg d x) (by rfl) (by rfl) (by rfl) (by rfl) (by rfl) ?_
    | refine O_callA [2, 5] (issue_A mg d x) (by rfl) (by rfl) (by rfl) (by rfl) (by rfl) ?_
    | refine O_callA [3, 0] (issue_A mg d x) (by rfl) (by rfl) (by rfl) (by rfl) (by rfl) ?_
    | refine O_callA [3, 1] (issue_A mg d x) (by rfl) (by rfl) (by rfl) (by rfl) (by rfl) ?_
    | refine O_callA [3, 2] (issue_A mg d x) (by rfl) (by rfl) (by rfl) (by rfl) (by rfl) ?_
    | refine O_callA [3, 3] (issue_A mg d x) (by rfl) (by rfl) (by rfl) (by rfl) (by rfl) ?_
    | refine O_callA [3, 4] (issue_A mg d x) (by rfl) (by rfl) (by rfl) (by rfl) (by rfl) ?_
    | refine O_callA [3, 5] (issue_A mg d x) (by rfl) (by rfl) (by rfl) (by rfl) (by rfl) ?_
    | refine O_callA [4, 0] (issue_A mg d x) (by rfl) (by rfl) (by rfl) (by rfl) (by rfl) ?_
    | refine O_callA [4, 1] (issue_A mg d x) (by rfl) (by rfl) (by rfl) (by rfl) (by rfl) ?_
    | refine O_callA [4, 2] (issue_A mg d x) (by rfl) (by rfl) (by rfl) (by rfl) (by rfl) ?_
    | refine O_callA [4, 3] (issue_A mg d x) (by rfl) (by rfl) (by rfl) (by rfl) (by rfl) ?_
    | refine O_callA [4, 4] (issue_A mg d x) (by rfl) (by rfl) (by rfl) (by rfl) (by rfl) ?_
    | refine O_callA [4, 5] (issue_A mg d x) (by rfl) (by rfl) (by rfl) (by rfl) (by rfl) ?_
    | refine O_callA [5, 0] (issue_A mg d x) (by rfl) (by rfl) (by rfl) (by rfl) (by rfl) ?_
    | refine O_callA [5, 1] (issue_A mg d x) (by rfl) (by rfl) (by rfl) (by rfl) (by rfl) ?_
    | refine O_callA [5, 2] (issue_A mg d x) (by rfl) (by rfl) (by rfl) (by rfl) (by rfl) ?_
    | refine O_callA [5, 3] (issue_A mg d x) (by rfl) (by rfl) (by rfl) (by rfl) (by rfl) ?_
    | refine O_callA [5, 4] (issue_A mg d x) (by rfl) (by rfl) (by rfl) (by rfl) (by rfl) ?_
    | refine O_callA [5, 5] (issue_A mg d x) (by rfl) (by rfl) (by rfl) (by rfl) (by rfl) ?_
    | refine O_callA [6, 0] (issue_A mg d x) (by rfl) (by rfl) (by rfl) (by rfl) (by rfl) ?_
    | refine O_callA [6, 1] (issue_A mg d x) (by rfl) (by rfl) (by rfl) (by rfl) (by rfl) ?_
    | refine O_callA [6, 2] (issue_A mg d x) (by rfl) (by rfl) (by rfl) (by rfl) (by rfl) ?_
    | refine O_callA [6, 3] (issue_A mg d x) (by rfl) (by rfl) (by rfl) (by rfl) (by rfl) ?_
    | refine O_callA [6, 4] (issue_A mg d x) (by rfl) (by rfl) (by rfl) (by rfl) (by rfl) ?_
    | refine O_callA [6, 5] (issue_A mg d x) (by rfl) (by rfl) (by rfl) (by rfl) (by rfl) ?_
  rintro r' cs' ⟨c, rfl, rfl⟩
  refine O_absb 3 rfl rfl rfl (fun s => ?_)
  repeat (first | refine sc rfl ?_ | refine so rfl ?_ | refine sb rfl ?_)
  first
    | exact ⟨_, [_, _, _, _, _, _], _, rfl, pickA_perm (is := [0, 2, 2, 2, 0, 0]) (As := [_, _, _, _, _, _]) rfl, rfl, s, mg, tm, h, g, c, d, rfl, rfl⟩
    | exact ⟨_, [_, _, _, _, _, _], _, rfl, pickA_perm (is := [0, 2, 3, 2, 0, 0]) (As := [_, _, _, _, _, _]) rfl, rfl, s, mg, tm, h, g, c, d, rfl, rfl⟩
    | exact ⟨_, [_, _, _, _, _, _], _, rfl, pickA_perm (is := [0, 3, 2, 2, 0, 0]) (As := [_, _, _, _, _, _]) rfl, rfl, s, mg, tm, h, g, c, d, rfl, rfl⟩
end Go.Proofs

/- The server's tick (no tenant but the admin). -/
set_option linter.unusedSimpArgs false
set_option linter.unusedVariables false
set_option maxRecDepth 100000
namespace Go.Proofs
open Go.Sy Go.Lib

theorem rep_np (e : Env) : Rep e (.v (.pointer none)) (.pointer none) := by simp only [Rep]
theorem srvTick_A (s mg tm h g : Nat) (now r b l m1 m2 s1 s2 o1 o2 : Int) (q : Bool) (hr : -1048576 ≤ r ∧ r ≤ 1048576 ∧ -1048576 ≤ l ∧ l ≤ 1048576) (hn : 0 ≤ now ∧ now ≤ 1000000) :
    FnA Tryz.prog 61 [PT s 0] [srvA s mg tm now, tenM tm h, tenA h g, gatA g r b l m1 m2 s1 s2 o1 o2 q] (fun x cs' => x = .tup [] ∧ cs' = [srvA s mg tm (now + 1), tenM tm h, tenA h g, gatA g r b (min (l + r) b) m1 m2 s1 s2 o1 o2 q]) := by
  refine FnA.intro Tryz.tabOK Tryz.wide_ Tryz.func61 rfl (by decide) rfl (fun X => ?_)
  repeat (first | refine sc rfl ?_ | refine so rfl ?_ | refine sb rfl ?_)
  refine O_Xd (X_ptrnil Tryz.underlying89 rfl rfl rfl) ?_
  repeat (first | refine sc rfl ?_ | refine so rfl ?_ | refine sb rfl ?_)
  refine C_false rfl rfl ?_
  repeat (first | refine sc rfl ?_ | refine so rfl ?_ | refine sb rfl ?_)
  first
    | refine O_loadP 0 (reads_box 81) rfl rfl rfl rfl rfl rfl ?_
    | refine O_loadP 1 (reads_box 81) rfl rfl rfl rfl rfl rfl ?_
    | refine O_loadP 2 (reads_box 81) rfl rfl rfl rfl rfl rfl ?_
    | refine O_loadP 3 (reads_box 81) rfl rfl rfl rfl rfl rfl ?_
    | refine O_loadP 4 (reads_box 81) rfl rfl rfl rfl rfl rfl ?_
  repeat (first | refine sc rfl ?_ | refine so rfl ?_ | refine sb rfl ?_)
  rw [w64 (x := now + 1) (by omega) (by omega)]
  first
    | refine O_Xn (X_storeP 0 (writes_box (by show 81 < 82; decide)) rfl rfl rfl rfl rfl rfl rfl) ?_
    | refine O_Xn (X_storeP 1 (writes_box (by show 81 < 82; decide)) rfl rfl rfl rfl rfl rfl rfl) ?_
    | refine O_Xn (X_storeP 2 (writes_box (by show 81 < 82; decide)) rfl rfl rfl rfl rfl rfl rfl) ?_
    | refine O_Xn (X_storeP 3 (writes_box (by show 81 < 82; decide)) rfl rfl rfl rfl rfl rfl rfl) ?_
    | refine O_Xn (X_storeP 4 (writes_box (by show 81 < 82; decide)) rfl rfl rfl rfl rfl rfl rfl) ?_
  repeat (first | refine sc rfl ?_ | refine so rfl ?_ | refine sb rfl ?_)
  refine C_loop (fun i : Nat => ⟨[(0, PT s 0), (13, I64 (i : Nat))], [.abs (srvA s mg tm (now + 1)), .abs (tenM tm h), .abs (tenA h g), .abs (gatA g r b (if i = 0 then l else min (l + r) b) m1 m2 s1 s2 o1 o2 q)]⟩) (fun i => i ≤ 9) (fun i => 9 - i) 0 (Nat.zero_le _) (Le.pick [0, 0, 0, 0] ⟨rfl, rfl, trivial⟩ rfl) ?_
  intro i hi
  repeat (first | refine sc rfl ?_ | refine so rfl ?_ | refine sb rfl ?_)
  refine C_if rfl (fun k1 => ?_) (fun k1 => ?_) <;> simp only [decide_eq_true_eq, decide_eq_false_iff_not, Bool.not_eq_true', Bool.not_eq_false', beq_iff_eq, beq_eq_false_iff_ne, bne_iff_ne, ne_eq, bne_eq_false_iff_eq, Decidable.not_not] at k1
  · have hil : i < 9 := by omega
    repeat (first | refine sc rfl ?_ | refine so rfl ?_ | refine sb rfl ?_)
    rcases Nat.eq_zero_or_pos i with rfl | hp
    · skip
      first
        | refine O_loadP 0 (reads_box 80) rfl rfl rfl rfl rfl rfl ?_
        | refine O_loadP 1 (reads_box 80) rfl rfl rfl rfl rfl rfl ?_
        | refine O_loadP 2 (reads_box 80) rfl rfl rfl rfl rfl rfl ?_
        | refine O_loadP 3 (reads_box 80) rfl rfl rfl rfl rfl rfl ?_
        | refine O_loadP 4 (reads_box 80) rfl rfl rfl rfl rfl rfl ?_
      repeat (first | refine sc rfl ?_ | refine so rfl ?_ | refine sb rfl ?_)
      first
        | refine O_Xd (X_look 1 (es := [((0 : Int), PT h 0)]) (z := .v (.pointer none)) iKz Tryz.underlying115 rfl rfl rep_np rfl rfl rfl rfl rfl rfl) ?_
        | refine O_Xd (X_look 0 (es := [((0 : Int), PT h 0)]) (z := .v (.pointer none)) iKz Tryz.underlying115 rfl rfl rep_np rfl rfl rfl rfl rfl rfl) ?_
      rw [show lookAV false (lookE (((0 : Nat) : Int)) [((0 : Int), PT h 0)]) (.v (.pointer none)) = PT h 0 from rfl]
      repeat (first | refine sc rfl ?_ | refine so rfl ?_ | refine sb rfl ?_)
      refine O_Xd (X_ptrnnil Tryz.underlying106 rfl rfl rfl) ?_
      repeat (first | refine sc rfl ?_ | refine so rfl ?_ | refine sb rfl ?_)
      refine C_true rfl rfl ?_
      repeat (first | refine sc rfl ?_ | refine so rfl ?_ | refine sb rfl ?_)
      first
        | refine O_loadP 0 (reads_box 0) rfl rfl rfl rfl rfl rfl ?_
        | refine O_loadP 1 (reads_box 0) rfl rfl rfl rfl rfl rfl ?_
        | refine O_loadP 2 (reads_box 0) rfl rfl rfl rfl rfl rfl ?_
        | refine O_loadP 3 (reads_box 0) rfl rfl rfl rfl rfl rfl ?_
        | refine O_loadP 4 (reads_box 0) rfl rfl rfl rfl rfl rfl ?_
      repeat (first | refine sc rfl ?_ | refine so rfl ?_ | refine sb rfl ?_)
      rw [if_pos rfl]
      first
        | refine O_callA [0] (gatTick_A g r b l m1 m2 s1 s2 o1 o2 q hr) (by rfl) (by rfl) (by rfl) (by rfl) (by rfl) ?_
        | refine O_callA [1] (gatTick_A g r b l m1 m2 s1 s2 o1 o2 q hr) (by rfl) (by rfl) (by rfl) (by rfl) (by rfl) ?_
        | refine O_callA [2] (gatTick_A g r b l m1 m2 s1 s2 o1 o2 q hr) (by rfl) (by rfl) (by rfl) (by rfl) (by rfl) ?_
        | refine O_callA [3] (gatTick_A g r b l m1 m2 s1 s2 o1 o2 q hr) (by rfl) (by rfl) (by rfl) (by rfl) (by rfl) ?_
        | refine O_callA [4] (gatTick_A g r b l m1 m2 s1 s2 o1 o2 q hr) (by rfl) (by rfl) (by rfl) (by rfl) (by rfl) ?_
      rintro r' cs' rfl
      repeat (first | refine sc rfl ?_ | refine so rfl ?_ | refine sb rfl ?_)
      refine ⟨1, by decide, by decide, ?_⟩
      first
        | exact Le.pick [1, 1, 1, 0] ⟨rfl, rfl, trivial⟩ rfl
        | exact Le.pick [0, 0, 0, 0] ⟨rfl, rfl, trivial⟩ rfl
    · skip
      first
        | refine O_loadP 0 (reads_box 80) rfl rfl rfl rfl rfl rfl ?_
        | refine O_loadP 1 (reads_box 80) rfl rfl rfl rfl rfl rfl ?_
        | refine O_loadP 2 (reads_box 80) rfl rfl rfl rfl rfl rfl ?_
        | refine O_loadP 3 (reads_box 80) rfl rfl rfl rfl rfl rfl ?_
        | refine O_loadP 4 (reads_box 80) rfl rfl rfl rfl rfl rfl ?_
      repeat (first | refine sc rfl ?_ | refine so rfl ?_ | refine sb rfl ?_)
      first
        | refine O_Xd (X_look 1 (es := [((0 : Int), PT h 0)]) (z := .v (.pointer none)) iKz Tryz.underlying115 rfl rfl rep_np rfl rfl rfl rfl rfl rfl) ?_
        | refine O_Xd (X_look 0 (es := [((0 : Int), PT h 0)]) (z := .v (.pointer none)) iKz Tryz.underlying115 rfl rfl rep_np rfl rfl rfl rfl rfl rfl) ?_
      rw [show lookE ((i : Nat) : Int) [((0 : Int), PT h 0)] = none by simp [lookE]; omega]
      rw [show lookAV false none (.v (.pointer none)) = .v (.pointer none) from rfl]
      repeat (first | refine sc rfl ?_ | refine so rfl ?_ | refine sb rfl ?_)
      refine O_Xd (X_ptrnnil Tryz.underlying106 rfl rfl rfl) ?_
      repeat (first | refine sc rfl ?_ | refine so rfl ?_ | refine sb rfl ?_)
      refine C_false rfl rfl ?_
      repeat (first | refine sc rfl ?_ | refine so rfl ?_ | refine sb rfl ?_)
      rw [w64 (x := (i : Int) + 1) (by omega) (by omega)]
      refine ⟨i + 1, by omega, by omega, ?_⟩
      rw [if_neg (show ¬ i = 0 by omega), if_neg (show ¬ i + 1 = 0 by omega)]
      exact Le.pick [0, 0, 0, 0] ⟨rfl, rfl, trivial⟩ rfl
  · obtain rfl : i = 9 := by omega
    repeat (first | refine sc rfl ?_ | refine so rfl ?_ | refine sb rfl ?_)
    exact ⟨_, [_, _, _, _], _, rfl, pickA_perm (is := [0, 0, 0, 0]) (As := [_, _, _, _]) rfl, rfl, rfl, rfl⟩
end Go.Proofs

/- A turn of nobody. -/
set_option linter.unusedSimpArgs false
set_option linter.unusedVariables false
set_option maxRecDepth 100000
namespace Go.Proofs
open Go.Sy Go.Lib

theorem turn0_A (s mg tm : Nat) (now : Int) : FnA Tryz.prog 109 [PT s 68] [srvA s mg tm now] (fun r cs' => r = .tup [I64 0, I64 0, B false] ∧ cs' = [srvA s mg tm now]) := by
  refine FnA.intro Tryz.tabOK Tryz.wide_ Tryz.func109 rfl (by decide) rfl (fun X => ?_)
  repeat (first | refine sc rfl ?_ | refine so rfl ?_ | refine sb rfl ?_)
  refine O_Xd (X_ptrnil Tryz.underlying238 rfl rfl rfl) ?_
  repeat (first | refine sc rfl ?_ | refine so rfl ?_ | refine sb rfl ?_)
  refine C_false rfl rfl ?_
  repeat (first | refine sc rfl ?_ | refine so rfl ?_ | refine sb rfl ?_)
  refine C_loop (fun _ : Unit => ⟨[(0, PT s 68)], [.abs (srvA s mg tm now)]⟩) (fun _ => True) (fun _ => 0) () trivial (Le.pick [0] ⟨rfl, trivial⟩ rfl) ?_
  intro _ _
  repeat (first | refine sc rfl ?_ | refine so rfl ?_ | refine sb rfl ?_)
  first
    | refine O_loadP 0 (reads_box 69) rfl rfl rfl rfl rfl rfl ?_
    | refine O_loadP 1 (reads_box 69) rfl rfl rfl rfl rfl rfl ?_
    | refine O_loadP 2 (reads_box 69) rfl rfl rfl rfl rfl rfl ?_
    | refine O_loadP 3 (reads_box 69) rfl rfl rfl rfl rfl rfl ?_
    | refine O_loadP 4 (reads_box 69) rfl rfl rfl rfl rfl rfl ?_
  repeat (first | refine sc rfl ?_ | refine so rfl ?_ | refine sb rfl ?_)
  refine C_if rfl (fun k1 => ?_) (fun k1 => ?_) <;> simp only [decide_eq_true_eq, decide_eq_false_iff_not, Bool.not_eq_true', Bool.not_eq_false', beq_iff_eq, beq_eq_false_iff_ne, bne_iff_ne, ne_eq, bne_eq_false_iff_eq, Decidable.not_not] at k1
  · exact absurd k1 (by decide)
  repeat (first | refine sc rfl ?_ | refine so rfl ?_ | refine sb rfl ?_)
  first
    | exact ⟨_, [_], _, rfl, pickA_perm (is := [0]) (As := [_]) rfl, rfl, rfl, rfl⟩
    | exact ⟨_, [_], _, rfl, pickA_perm (is := [1]) (As := [_]) rfl, rfl, rfl, rfl⟩
    | exact ⟨_, [_], _, rfl, pickA_perm (is := [2]) (As := [_]) rfl, rfl, rfl, rfl⟩
    | exact ⟨_, [_], _, rfl, pickA_perm (is := [3]) (As := [_]) rfl, rfl, rfl, rfl⟩
    | exact ⟨_, [_], _, rfl, pickA_perm (is := [4]) (As := [_]) rfl, rfl, rfl, rfl⟩
theorem next0_A (s mg tm : Nat) (now : Int) : FnA Tryz.prog 82 [PT s 68] [srvA s mg tm now] (fun r cs' => r = .tup [I64 0, .agg [I64 0, I64 0, I64 0, .s [], I64 0], B false] ∧ cs' = [srvA s mg tm now]) := by
  refine FnA.intro Tryz.tabOK Tryz.wide_ Tryz.func82 rfl (by decide) rfl (fun X => ?_)
  repeat (first | refine sc rfl ?_ | refine so rfl ?_ | refine sb rfl ?_)
  refine O_Xd (X_ptrnil Tryz.underlying210 rfl rfl rfl) ?_
  repeat (first | refine sc rfl ?_ | refine so rfl ?_ | refine sb rfl ?_)
  refine C_false rfl rfl ?_
  repeat (first | refine sc rfl ?_ | refine so rfl ?_ | refine sb rfl ?_)
  first
    | refine O_callA [0] (turn0_A s mg tm now) (by rfl) (by rfl) (by rfl) (by rfl) (by rfl) ?_
    | refine O_callA [1] (turn0_A s mg tm now) (by rfl) (by rfl) (by rfl) (by rfl) (by rfl) ?_
    | refine O_callA [2] (turn0_A s mg tm now) (by rfl) (by rfl) (by rfl) (by rfl) (by rfl) ?_
    | refine O_callA [3] (turn0_A s mg tm now) (by rfl) (by rfl) (by rfl) (by rfl) (by rfl) ?_
    | refine O_callA [4] (turn0_A s mg tm now) (by rfl) (by rfl) (by rfl) (by rfl) (by rfl) ?_
  rintro r' cs' ⟨rfl, rfl⟩
  repeat (first | refine sc rfl ?_ | refine so rfl ?_ | refine sb rfl ?_)
  refine C_true rfl rfl ?_
  repeat (first | refine sc rfl ?_ | refine so rfl ?_ | refine sb rfl ?_)
  first
    | exact ⟨_, [_], _, rfl, pickA_perm (is := [0]) (As := [_]) rfl, rfl, rfl, rfl⟩
    | exact ⟨_, [_], _, rfl, pickA_perm (is := [1]) (As := [_]) rfl, rfl, rfl, rfl⟩
    | exact ⟨_, [_], _, rfl, pickA_perm (is := [2]) (As := [_]) rfl, rfl, rfl, rfl⟩
    | exact ⟨_, [_], _, rfl, pickA_perm (is := [3]) (As := [_]) rfl, rfl, rfl, rfl⟩
    | exact ⟨_, [_], _, rfl, pickA_perm (is := [4]) (As := [_]) rfl, rfl, rfl, rfl⟩
theorem serve0_A (s mg tm : Nat) (now : Int) : FnA Tryz.prog 63 [PT s 0] [srvA s mg tm now] (fun r cs' => r = .tup [.agg [I64 0, I64 0, I64 0, .s [], I64 0, .s []], B false] ∧ cs' = [srvA s mg tm now]) := by
  refine FnA.intro Tryz.tabOK Tryz.wide_ Tryz.func63 rfl (by decide) rfl (fun X => ?_)
  repeat (first | refine sc rfl ?_ | refine so rfl ?_ | refine sb rfl ?_)
  refine O_Xd (X_ptrnil Tryz.underlying89 rfl rfl rfl) ?_
  repeat (first | refine sc rfl ?_ | refine so rfl ?_ | refine sb rfl ?_)
  refine C_false rfl rfl ?_
  repeat (first | refine sc rfl ?_ | refine so rfl ?_ | refine sb rfl ?_)
  first
    | refine O_callA [0] (next0_A s mg tm now) (by rfl) (by rfl) (by rfl) (by rfl) (by rfl) ?_
    | refine O_callA [1] (next0_A s mg tm now) (by rfl) (by rfl) (by rfl) (by rfl) (by rfl) ?_
    | refine O_callA [2] (next0_A s mg tm now) (by rfl) (by rfl) (by rfl) (by rfl) (by rfl) ?_
    | refine O_callA [3] (next0_A s mg tm now) (by rfl) (by rfl) (by rfl) (by rfl) (by rfl) ?_
    | refine O_callA [4] (next0_A s mg tm now) (by rfl) (by rfl) (by rfl) (by rfl) (by rfl) ?_
  rintro r' cs' ⟨rfl, rfl⟩
  repeat (first | refine sc rfl ?_ | refine so rfl ?_ | refine sb rfl ?_)
  refine C_true rfl rfl ?_
  repeat (first | refine sc rfl ?_ | refine so rfl ?_ | refine sb rfl ?_)
  first
    | exact ⟨_, [_], _, rfl, pickA_perm (is := [0]) (As := [_]) rfl, rfl, rfl, rfl⟩
    | exact ⟨_, [_], _, rfl, pickA_perm (is := [1]) (As := [_]) rfl, rfl, rfl, rfl⟩
    | exact ⟨_, [_], _, rfl, pickA_perm (is := [2]) (As := [_]) rfl, rfl, rfl, rfl⟩
    | exact ⟨_, [_], _, rfl, pickA_perm (is := [3]) (As := [_]) rfl, rfl, rfl, rfl⟩
    | exact ⟨_, [_], _, rfl, pickA_perm (is := [4]) (As := [_]) rfl, rfl, rfl, rfl⟩
end Go.Proofs

/- Rows of a tick, and of a turn of nobody. -/
set_option linter.unusedSimpArgs false
set_option linter.unusedVariables false
set_option maxRecDepth 100000
namespace Go.Proofs
open Go.Sy Go.Lib

theorem rowsTick_A (s mg tm h g : Nat) (at_ now r b l m1 m2 s1 s2 o1 o2 : Int) (q : Bool) (hr : -1048576 ≤ r ∧ r ≤ 1048576 ∧ -1048576 ≤ l ∧ l ≤ 1048576) (hn : 0 ≤ now ∧ now ≤ 1000000) :
    FnA Tryz.prog 52 [PT s 0, I64 at_, .agg [I64 3, I64 0, U64 0, .s []]] [srvA s mg tm now, tenM tm h, tenA h g, gatA g r b l m1 m2 s1 s2 o1 o2 q]
      (fun x cs' => x = SL 8 Rw.c [⟨at_, 4, default⟩] ∧ cs' = [srvA s mg tm (now + 1), tenM tm h, tenA h g, gatA g r b (min (l + r) b) m1 m2 s1 s2 o1 o2 q]) := by
  refine FnA.intro Tryz.tabOK Tryz.wide_ Tryz.func52 rfl (by decide) rfl (fun X => ?_)
  repeat (first | refine sc rfl ?_ | refine so rfl ?_ | refine sb rfl ?_)
  refine C_false rfl rfl ?_
  repeat (first | refine sc rfl ?_ | refine so rfl ?_ | refine sb rfl ?_)
  refine C_false rfl rfl ?_
  repeat (first | refine sc rfl ?_ | refine so rfl ?_ | refine sb rfl ?_)
  refine C_true rfl rfl ?_
  repeat (first | refine sc rfl ?_ | refine so rfl ?_ | refine sb rfl ?_)
  first
    | refine O_callA [0, 0, 0, 0] (srvTick_A s mg tm h g now r b l m1 m2 s1 s2 o1 o2 q hr hn) (by rfl) (by rfl) (by rfl) (by rfl) (by rfl) ?_
    | refine O_callA [1, 1, 1, 1] (srvTick_A s mg tm h g now r b l m1 m2 s1 s2 o1 o2 q hr hn) (by rfl) (by rfl) (by rfl) (by rfl) (by rfl) ?_
  rintro r' cs' ⟨rfl, rfl⟩
  refine O_le _ (Le.nilvec Rw.c 7 52 32 8 rfl rfl rfl) ?_
  repeat (first | refine sc rfl ?_ | refine so rfl ?_ | refine sb rfl ?_)
  refine O_push Rw.c [] ⟨at_, 4, default⟩ [(0, PT s 0), (1, I64 at_)] rfl rfl rfl rfl rfl rfl rfl rfl rfl rfl ⟨rfl, rfl, trivial⟩ rfl rfl (by decide) (by decide) ?_
  refine so rfl ?_
  refine O_le _ (Le.freezeL (cells := Rw.c) 7 rfl rfl) ?_
  repeat (first | refine sc rfl ?_ | refine so rfl ?_ | refine sb rfl ?_)
  first
    | exact ⟨_, [_, _, _, _], _, rfl, pickA_perm (is := [0, 0, 0, 0]) (As := [_, _, _, _]) rfl, rfl, rfl, rfl⟩
    | exact ⟨_, [_, _, _, _], _, rfl, pickA_perm (is := [1, 1, 1, 1]) (As := [_, _, _, _]) rfl, rfl, rfl, rfl⟩
    | exact ⟨_, [_, _, _, _], _, rfl, pickA_perm (is := [2, 2, 2, 2]) (As := [_, _, _, _]) rfl, rfl, rfl, rfl⟩
theorem rowsServe_A (s mg tm : Nat) (at_ now : Int) :
    FnA Tryz.prog 52 [PT s 0, I64 at_, .agg [I64 5, I64 0, U64 0, .s []]] [srvA s mg tm now]
      (fun x cs' => x = SL 8 Rw.c [⟨at_, 3, default⟩] ∧ cs' = [srvA s mg tm now]) := by
  refine FnA.intro Tryz.tabOK Tryz.wide_ Tryz.func52 rfl (by decide) rfl (fun X => ?_)
  repeat (first | refine sc rfl ?_ | refine so rfl ?_ | refine sb rfl ?_)
  refine C_false rfl rfl ?_
  repeat (first | refine sc rfl ?_ | refine so rfl ?_ | refine sb rfl ?_)
  refine C_false rfl rfl ?_
  repeat (first | refine sc rfl ?_ | refine so rfl ?_ | refine sb rfl ?_)
  refine C_false rfl rfl ?_
  repeat (first | refine sc rfl ?_ | refine so rfl ?_ | refine sb rfl ?_)
  refine C_false rfl rfl ?_
  repeat (first | refine sc rfl ?_ | refine so rfl ?_ | refine sb rfl ?_)
  refine C_false rfl rfl ?_
  repeat (first | refine sc rfl ?_ | refine so rfl ?_ | refine sb rfl ?_)
  refine C_false rfl rfl ?_
  repeat (first | refine sc rfl ?_ | refine so rfl ?_ | refine sb rfl ?_)
  refine C_true rfl rfl ?_
  repeat (first | refine sc rfl ?_ | refine so rfl ?_ | refine sb rfl ?_)
  first
    | refine O_callA [0] (serve0_A s mg tm now) (by rfl) (by rfl) (by rfl) (by rfl) (by rfl) ?_
    | refine O_callA [1] (serve0_A s mg tm now) (by rfl) (by rfl) (by rfl) (by rfl) (by rfl) ?_
    | refine O_callA [2] (serve0_A s mg tm now) (by rfl) (by rfl) (by rfl) (by rfl) (by rfl) ?_
    | refine O_callA [3] (serve0_A s mg tm now) (by rfl) (by rfl) (by rfl) (by rfl) (by rfl) ?_
    | refine O_callA [4] (serve0_A s mg tm now) (by rfl) (by rfl) (by rfl) (by rfl) (by rfl) ?_
  rintro r' cs' ⟨rfl, rfl⟩
  repeat (first | refine sc rfl ?_ | refine so rfl ?_ | refine sb rfl ?_)
  refine C_true rfl rfl ?_
  repeat refine sc rfl ?_
  iterate 4 (first | refine so rfl ?_ | refine sb rfl ?_)
  refine O_le _ (Le.vecrow (k := 82) 1 (fun i => Rw.c (([⟨at_, 3, default⟩] : List Rw).getD i default)) rfl rfl (fun i hi => ?_)) ?_
  · have hi' : i < 1 := hi
    obtain rfl : i = 0 := by omega
    rfl
  first
    | refine O_le _ (Le.freezeL (l := ([⟨at_, 3, default⟩] : List Rw)) (cells := Rw.c) 6 rfl rfl) ?_
    | refine C_le _ (Le.freezeL (l := ([⟨at_, 3, default⟩] : List Rw)) (cells := Rw.c) 6 rfl rfl) ?_
  repeat (first | refine sc rfl ?_ | refine so rfl ?_ | refine sb rfl ?_)
  first
    | exact ⟨_, [_], _, rfl, pickA_perm (is := [0]) (As := [_]) rfl, rfl, rfl, rfl⟩
    | exact ⟨_, [_], _, rfl, pickA_perm (is := [1]) (As := [_]) rfl, rfl, rfl, rfl⟩
    | exact ⟨_, [_], _, rfl, pickA_perm (is := [2]) (As := [_]) rfl, rfl, rfl, rfl⟩
    | exact ⟨_, [_], _, rfl, pickA_perm (is := [3]) (As := [_]) rfl, rfl, rfl, rfl⟩
    | exact ⟨_, [_], _, rfl, pickA_perm (is := [4]) (As := [_]) rfl, rfl, rfl, rfl⟩
end Go.Proofs

/- Counters. -/
set_option linter.unusedSimpArgs false
set_option linter.unusedVariables false
set_option maxRecDepth 100000
namespace Go.Proofs
open Go.Sy Go.Lib

/-- Counters' cells. -/
def clF (f : Nat → Int) : Nat → Nat → List AV
  | _, 0 => []
  | i, n + 1 => I64 (f i) :: clF f (i + 1) n
def updC (f : Nat → Int) (k : Nat) (v : Int) : Nat → Int := fun i => if i = k then v else f i
theorem clF_get (f : Nat → Int) : ∀ (n i j : Nat), j < n → (clF f i n)[j]? = some (I64 (f (i + j)))
  | 0, _, _, h => absurd h (Nat.not_lt_zero _)
  | n + 1, i, 0, _ => rfl
  | n + 1, i, j + 1, h => by
    have := clF_get f n (i + 1) j (by omega)
    rw [show i + 1 + j = i + (j + 1) by omega] at this
    exact this
theorem clF_out {f : Nat → Int} {k : Nat} {v : Int} : ∀ (n i : Nat), (k < i ∨ i + n ≤ k) → clF (updC f k v) i n = clF f i n
  | 0, _, _ => rfl
  | n + 1, i, h => by
    simp only [clF]
    rw [clF_out n (i + 1) (by omega), show updC f k v i = f i from if_neg (by omega)]
theorem clF_set {f : Nat → Int} {v : Int} : ∀ (n i j : Nat), j < n → (clF f i n).set j (I64 v) = clF (updC f (i + j) v) i n
  | 0, _, _, h => absurd h (Nat.not_lt_zero _)
  | n + 1, i, 0, _ => by
    simp only [clF, List.set_cons_zero]
    rw [clF_out n (i + 1) (by omega), show updC f (i + 0) v i = v from if_pos rfl]
  | n + 1, i, j + 1, h => by
    simp only [clF, List.set_cons_succ]
    rw [clF_set n (i + 1) j (by omega), show i + 1 + j = i + (j + 1) by omega, show updC f (i + (j + 1)) v i = f i from if_neg (by omega)]
abbrev tlA (t : Nat) (f : Nat → Int) : Abs := boxA t 55 (clF f 0 44)
theorem tl_get {f : Nat → Int} {o : Nat} (h : o < 44) : (clF f 0 44)[o]? = some (I64 (f o)) := by
  have := clF_get f 44 0 o h
  rwa [Nat.zero_add] at this
theorem tl_set {f : Nat → Int} {o : Nat} {v : Int} (h : o < 44) : (clF f 0 44).set o (I64 v) = clF (updC f o v) 0 44 := by
  have := clF_set (f := f) (v := v) 44 0 o h
  rwa [Nat.zero_add] at this
abbrev wi8 (x : Int) : Int := IntKind.i64.wrap x
theorem aAdd_A (t o : Nat) (ho : o < 44) (f : Nat → Int) (d : Int) : FnA Tryz.prog 26 [PT t o, I64 d] [tlA t f] (fun r cs' => r = I64 (wi8 (f o + d)) ∧ cs' = [tlA t (updC f o (wi8 (f o + d)))]) := by
  refine FnA.intro Tryz.tabOK Tryz.wide_ Tryz.func26 rfl (by decide) rfl (fun X => ?_)
  repeat (first | refine sc rfl ?_ | refine so rfl ?_ | refine sb rfl ?_)
  refine O_Xd (X_aadd 0 Tryz.func43 (by kernel_rfl) (by kernel_rfl) (by kernel_rfl) .i64 (by kernel_rfl) (y := f o) (z := d) (s := wi8 (f o + d)) (fun w => by rfl) rfl rfl rfl rfl (tl_get ho) rfl) ?_
  repeat (first | refine sc rfl ?_ | refine so rfl ?_ | refine sb rfl ?_)
  rw [Nat.add_zero, tl_set ho]
  first
    | exact ⟨_, [_], _, rfl, pickA_perm (is := [0]) (As := [_]) rfl, rfl, rfl, rfl⟩
    | exact ⟨_, [_], _, rfl, pickA_perm (is := [1]) (As := [_]) rfl, rfl, rfl, rfl⟩
    | exact ⟨_, [_], _, rfl, pickA_perm (is := [2]) (As := [_]) rfl, rfl, rfl, rfl⟩
    | exact ⟨_, [_], _, rfl, pickA_perm (is := [3]) (As := [_]) rfl, rfl, rfl, rfl⟩
    | exact ⟨_, [_], _, rfl, pickA_perm (is := [4]) (As := [_]) rfl, rfl, rfl, rfl⟩
theorem aLoad_A (t o : Nat) (ho : o < 44) (f : Nat → Int) : FnA Tryz.prog 32 [PT t o] [tlA t f] (fun r cs' => r = I64 (f o) ∧ cs' = [tlA t f]) := by
  refine FnA.intro Tryz.tabOK Tryz.wide_ Tryz.func32 rfl (by decide) rfl (fun X => ?_)
  repeat (first | refine sc rfl ?_ | refine so rfl ?_ | refine sb rfl ?_)
  refine O_Xd (X_aload 0 Tryz.func46 (by kernel_rfl) (by kernel_rfl) (by kernel_rfl) .i64 (by kernel_rfl) (y := f o) rfl rfl rfl (tl_get ho) rfl) ?_
  repeat (first | refine sc rfl ?_ | refine so rfl ?_ | refine sb rfl ?_)
  first
    | exact ⟨_, [_], _, rfl, pickA_perm (is := [0]) (As := [_]) rfl, rfl, rfl, rfl⟩
    | exact ⟨_, [_], _, rfl, pickA_perm (is := [1]) (As := [_]) rfl, rfl, rfl, rfl⟩
    | exact ⟨_, [_], _, rfl, pickA_perm (is := [2]) (As := [_]) rfl, rfl, rfl, rfl⟩
    | exact ⟨_, [_], _, rfl, pickA_perm (is := [3]) (As := [_]) rfl, rfl, rfl, rfl⟩
    | exact ⟨_, [_], _, rfl, pickA_perm (is := [4]) (As := [_]) rfl, rfl, rfl, rfl⟩
theorem tWithin_c (n a b : Int) : FnP Tryz.prog 42 [I64 n, I64 a, I64 b] (· = B (decide (a ≤ n ∧ n ≤ b))) := by
  refine FnP.intro Tryz.tabOK Tryz.wide_ Tryz.func42 rfl (by decide) rfl (fun X => ?_)
  repeat (first | refine sc rfl ?_ | refine so rfl ?_ | refine sb rfl ?_)
  refine O_case 10 rfl (fun h => ?_) (fun h => ?_) <;> simp only [decide_eq_true_eq, decide_eq_false_iff_not, Bool.not_eq_true', Bool.not_eq_false', beq_iff_eq, beq_eq_false_iff_ne, bne_iff_ne, ne_eq, bne_eq_false_iff_eq, Decidable.not_not] at h
  · repeat (first | refine sc rfl ?_ | refine so rfl ?_ | refine sb rfl ?_)
    refine ⟨_, rfl, rfl, congrArg B ?_⟩
    simp [h]
  · repeat (first | refine sc rfl ?_ | refine so rfl ?_ | refine sb rfl ?_)
    refine ⟨_, rfl, rfl, congrArg B ?_⟩
    simp; omega
def cPt (t : Nat) (base : Nat) (a b k : Int) : AV := .v (.pointer (if a ≤ k ∧ k ≤ b then some ⟨t, base + k.toNat, none⟩ else none))
theorem kind_c (t : Nat) (k : Int) : FnP Tryz.prog 23 [PT t 0, I64 k] (· = cPt t 0 1 9 k) := by
  refine FnP.intro Tryz.tabOK Tryz.wide_ Tryz.func23 rfl (by decide) rfl (fun X => ?_)
  repeat (first | refine sc rfl ?_ | refine so rfl ?_ | refine sb rfl ?_)
  refine O_Xd (X_ptrnil Tryz.underlying25 rfl rfl rfl) ?_
  repeat (first | refine sc rfl ?_ | refine so rfl ?_ | refine sb rfl ?_)
  refine O_call (tWithin_c k 1 9) (by rfl) (by rfl) (by rfl) (by rfl) (fun r hr => ?_)
  subst hr
  repeat (first | refine sc rfl ?_ | refine so rfl ?_ | refine sb rfl ?_)
  unfold cPt
  refine C_if rfl (fun h => ?_) (fun h => ?_) <;> simp only [decide_eq_true_eq, decide_eq_false_iff_not, Bool.not_eq_true', Bool.not_eq_false', beq_iff_eq, beq_eq_false_iff_ne, bne_iff_ne, ne_eq, bne_eq_false_iff_eq, Decidable.not_not] at h
  · rw [if_neg h]
    repeat (first | refine sc rfl ?_ | refine so rfl ?_ | refine sb rfl ?_)
    exact ⟨_, rfl, rfl, rfl⟩
  · rw [if_pos h]
    repeat (first | refine sc rfl ?_ | refine so rfl ?_ | refine sb rfl ?_)
    refine O_Xd (X_idxP (i := k) (len := 10) rfl rfl (by omega) (by omega) rfl rfl rfl rfl) ?_
    repeat (first | refine sc rfl ?_ | refine so rfl ?_ | refine sb rfl ?_)
    exact ⟨_, rfl, rfl, by simp⟩
theorem errk_c (t : Nat) (k : Int) : FnP Tryz.prog 24 [PT t 0, I64 k] (· = cPt t 10 1 20 k) := by
  refine FnP.intro Tryz.tabOK Tryz.wide_ Tryz.func24 rfl (by decide) rfl (fun X => ?_)
  repeat (first | refine sc rfl ?_ | refine so rfl ?_ | refine sb rfl ?_)
  refine O_Xd (X_ptrnil Tryz.underlying25 rfl rfl rfl) ?_
  repeat (first | refine sc rfl ?_ | refine so rfl ?_ | refine sb rfl ?_)
  refine O_call (tWithin_c k 1 20) (by rfl) (by rfl) (by rfl) (by rfl) (fun r hr => ?_)
  subst hr
  repeat (first | refine sc rfl ?_ | refine so rfl ?_ | refine sb rfl ?_)
  unfold cPt
  refine C_if rfl (fun h => ?_) (fun h => ?_) <;> simp only [decide_eq_true_eq, decide_eq_false_iff_not, Bool.not_eq_true', Bool.not_eq_false', beq_iff_eq, beq_eq_false_iff_ne, bne_iff_ne, ne_eq, bne_eq_false_iff_eq, Decidable.not_not] at h
  · rw [if_neg h]
    repeat (first | refine sc rfl ?_ | refine so rfl ?_ | refine sb rfl ?_)
    exact ⟨_, rfl, rfl, rfl⟩
  · rw [if_pos h]
    repeat (first | refine sc rfl ?_ | refine so rfl ?_ | refine sb rfl ?_)
    refine O_Xd (X_idxP (i := k) (len := 21) rfl rfl (by omega) (by omega) rfl rfl rfl rfl) ?_
    repeat (first | refine sc rfl ?_ | refine so rfl ?_ | refine sb rfl ?_)
    exact ⟨_, rfl, rfl, by simp⟩
theorem ownk_c (t : Nat) (k : Int) : FnP Tryz.prog 25 [PT t 0, I64 k] (· = cPt t 31 0 8 k) := by
  refine FnP.intro Tryz.tabOK Tryz.wide_ Tryz.func25 rfl (by decide) rfl (fun X => ?_)
  repeat (first | refine sc rfl ?_ | refine so rfl ?_ | refine sb rfl ?_)
  refine O_Xd (X_ptrnil Tryz.underlying25 rfl rfl rfl) ?_
  repeat (first | refine sc rfl ?_ | refine so rfl ?_ | refine sb rfl ?_)
  refine O_call (tWithin_c k 0 8) (by rfl) (by rfl) (by rfl) (by rfl) (fun r hr => ?_)
  subst hr
  repeat (first | refine sc rfl ?_ | refine so rfl ?_ | refine sb rfl ?_)
  unfold cPt
  refine C_if rfl (fun h => ?_) (fun h => ?_) <;> simp only [decide_eq_true_eq, decide_eq_false_iff_not, Bool.not_eq_true', Bool.not_eq_false', beq_iff_eq, beq_eq_false_iff_ne, bne_iff_ne, ne_eq, bne_eq_false_iff_eq, Decidable.not_not] at h
  · rw [if_neg h]
    repeat (first | refine sc rfl ?_ | refine so rfl ?_ | refine sb rfl ?_)
    exact ⟨_, rfl, rfl, rfl⟩
  · rw [if_pos h]
    repeat (first | refine sc rfl ?_ | refine so rfl ?_ | refine sb rfl ?_)
    refine O_Xd (X_idxP (i := k) (len := 9) rfl rfl (by omega) (by omega) rfl rfl rfl rfl) ?_
    repeat (first | refine sc rfl ?_ | refine so rfl ?_ | refine sb rfl ?_)
    exact ⟨_, rfl, rfl, by simp⟩
def incO (f : Nat → Int) (base : Nat) (a b k d : Int) : Nat → Int := if a ≤ k ∧ k ≤ b then updC f (base + k.toNat) (wi8 (f (base + k.toNat) + d)) else f
theorem add_A (t : Nat) (f : Nat → Int) (base : Nat) (a b k d : Int) (h44 : a ≤ k ∧ k ≤ b → base + k.toNat < 44) : FnA Tryz.prog 22 [cPt t base a b k, I64 d] [tlA t f] (fun r cs' => r = .tup [] ∧ cs' = [tlA t (incO f base a b k d)]) := by
  refine FnA.intro Tryz.tabOK Tryz.wide_ Tryz.func22 rfl (by decide) rfl (fun X => ?_)
  unfold cPt incO
  by_cases h : a ≤ k ∧ k ≤ b
  · rw [if_pos h, if_pos h]
    repeat (first | refine sc rfl ?_ | refine so rfl ?_ | refine sb rfl ?_)
    refine O_Xd (X_ptrnnil Tryz.underlying67 rfl rfl rfl) ?_
    repeat (first | refine sc rfl ?_ | refine so rfl ?_ | refine sb rfl ?_)
    refine C_true rfl rfl ?_
    repeat (first | refine sc rfl ?_ | refine so rfl ?_ | refine sb rfl ?_)
    first
      | refine O_callA [0] (aAdd_A t (base + k.toNat) (h44 h) f d) (by rfl) (by rfl) (by rfl) (by rfl) (by rfl) ?_
      | refine O_callA [1] (aAdd_A t (base + k.toNat) (h44 h) f d) (by rfl) (by rfl) (by rfl) (by rfl) (by rfl) ?_
      | refine O_callA [2] (aAdd_A t (base + k.toNat) (h44 h) f d) (by rfl) (by rfl) (by rfl) (by rfl) (by rfl) ?_
      | refine O_callA [3] (aAdd_A t (base + k.toNat) (h44 h) f d) (by rfl) (by rfl) (by rfl) (by rfl) (by rfl) ?_
      | refine O_callA [4] (aAdd_A t (base + k.toNat) (h44 h) f d) (by rfl) (by rfl) (by rfl) (by rfl) (by rfl) ?_
    rintro r' cs' ⟨rfl, rfl⟩
    repeat (first | refine sc rfl ?_ | refine so rfl ?_ | refine sb rfl ?_)
    first
      | exact ⟨_, [_], _, rfl, pickA_perm (is := [0]) (As := [_]) rfl, rfl, rfl, rfl⟩
      | exact ⟨_, [_], _, rfl, pickA_perm (is := [1]) (As := [_]) rfl, rfl, rfl, rfl⟩
      | exact ⟨_, [_], _, rfl, pickA_perm (is := [2]) (As := [_]) rfl, rfl, rfl, rfl⟩
      | exact ⟨_, [_], _, rfl, pickA_perm (is := [3]) (As := [_]) rfl, rfl, rfl, rfl⟩
      | exact ⟨_, [_], _, rfl, pickA_perm (is := [4]) (As := [_]) rfl, rfl, rfl, rfl⟩
  · rw [if_neg h, if_neg h]
    repeat (first | refine sc rfl ?_ | refine so rfl ?_ | refine sb rfl ?_)
    refine O_Xd (X_ptrnnil Tryz.underlying67 rfl rfl rfl) ?_
    repeat (first | refine sc rfl ?_ | refine so rfl ?_ | refine sb rfl ?_)
    refine C_false rfl rfl ?_
    repeat (first | refine sc rfl ?_ | refine so rfl ?_ | refine sb rfl ?_)
    first
      | exact ⟨_, [_], _, rfl, pickA_perm (is := [0]) (As := [_]) rfl, rfl, rfl, rfl⟩
      | exact ⟨_, [_], _, rfl, pickA_perm (is := [1]) (As := [_]) rfl, rfl, rfl, rfl⟩
      | exact ⟨_, [_], _, rfl, pickA_perm (is := [2]) (As := [_]) rfl, rfl, rfl, rfl⟩
      | exact ⟨_, [_], _, rfl, pickA_perm (is := [3]) (As := [_]) rfl, rfl, rfl, rfl⟩
      | exact ⟨_, [_], _, rfl, pickA_perm (is := [4]) (As := [_]) rfl, rfl, rfl, rfl⟩
theorem load_A (t : Nat) (f : Nat → Int) (base : Nat) (a b k : Int) (h44 : a ≤ k ∧ k ≤ b → base + k.toNat < 44) : FnA Tryz.prog 31 [cPt t base a b k] [tlA t f] (fun r cs' => r = I64 (if a ≤ k ∧ k ≤ b then f (base + k.toNat) else 0) ∧ cs' = [tlA t f]) := by
  refine FnA.intro Tryz.tabOK Tryz.wide_ Tryz.func31 rfl (by decide) rfl (fun X => ?_)
  unfold cPt
  by_cases h : a ≤ k ∧ k ≤ b
  · rw [if_pos h, if_pos h]
    repeat (first | refine sc rfl ?_ | refine so rfl ?_ | refine sb rfl ?_)
    refine O_Xd (X_ptrnil Tryz.underlying67 rfl rfl rfl) ?_
    repeat (first | refine sc rfl ?_ | refine so rfl ?_ | refine sb rfl ?_)
    refine C_false rfl rfl ?_
    repeat (first | refine sc rfl ?_ | refine so rfl ?_ | refine sb rfl ?_)
    first
      | refine O_callA [0] (aLoad_A t (base + k.toNat) (h44 h) f) (by rfl) (by rfl) (by rfl) (by rfl) (by rfl) ?_
      | refine O_callA [1] (aLoad_A t (base + k.toNat) (h44 h) f) (by rfl) (by rfl) (by rfl) (by rfl) (by rfl) ?_
      | refine O_callA [2] (aLoad_A t (base + k.toNat) (h44 h) f) (by rfl) (by rfl) (by rfl) (by rfl) (by rfl) ?_
      | refine O_callA [3] (aLoad_A t (base + k.toNat) (h44 h) f) (by rfl) (by rfl) (by rfl) (by rfl) (by rfl) ?_
      | refine O_callA [4] (aLoad_A t (base + k.toNat) (h44 h) f) (by rfl) (by rfl) (by rfl) (by rfl) (by rfl) ?_
    rintro r' cs' ⟨rfl, rfl⟩
    repeat (first | refine sc rfl ?_ | refine so rfl ?_ | refine sb rfl ?_)
    first
      | exact ⟨_, [_], _, rfl, pickA_perm (is := [0]) (As := [_]) rfl, rfl, rfl, rfl⟩
      | exact ⟨_, [_], _, rfl, pickA_perm (is := [1]) (As := [_]) rfl, rfl, rfl, rfl⟩
      | exact ⟨_, [_], _, rfl, pickA_perm (is := [2]) (As := [_]) rfl, rfl, rfl, rfl⟩
      | exact ⟨_, [_], _, rfl, pickA_perm (is := [3]) (As := [_]) rfl, rfl, rfl, rfl⟩
      | exact ⟨_, [_], _, rfl, pickA_perm (is := [4]) (As := [_]) rfl, rfl, rfl, rfl⟩
  · rw [if_neg h, if_neg h]
    repeat (first | refine sc rfl ?_ | refine so rfl ?_ | refine sb rfl ?_)
    refine O_Xd (X_ptrnil Tryz.underlying67 rfl rfl rfl) ?_
    repeat (first | refine sc rfl ?_ | refine so rfl ?_ | refine sb rfl ?_)
    refine C_true rfl rfl ?_
    repeat (first | refine sc rfl ?_ | refine so rfl ?_ | refine sb rfl ?_)
    first
      | exact ⟨_, [_], _, rfl, pickA_perm (is := [0]) (As := [_]) rfl, rfl, rfl, rfl⟩
      | exact ⟨_, [_], _, rfl, pickA_perm (is := [1]) (As := [_]) rfl, rfl, rfl, rfl⟩
      | exact ⟨_, [_], _, rfl, pickA_perm (is := [2]) (As := [_]) rfl, rfl, rfl, rfl⟩
      | exact ⟨_, [_], _, rfl, pickA_perm (is := [3]) (As := [_]) rfl, rfl, rfl, rfl⟩
      | exact ⟨_, [_], _, rfl, pickA_perm (is := [4]) (As := [_]) rfl, rfl, rfl, rfl⟩
end Go.Proofs

/- Rows and outs are counted. -/
set_option linter.unusedSimpArgs false
set_option linter.unusedVariables false
set_option maxRecDepth 100000
namespace Go.Proofs
open Go.Sy Go.Lib

theorem came_A (t : Nat) (f : Nat → Int) (k : Int) : FnA Tryz.prog 12 [PT t 0, I64 k] [tlA t f] (fun r cs' => r = I64 (if 1 ≤ k ∧ k ≤ 9 then f (0 + k.toNat) else 0) ∧ cs' = [tlA t f]) := by
  refine FnA.intro Tryz.tabOK Tryz.wide_ Tryz.func12 rfl (by decide) rfl (fun X => ?_)
  repeat (first | refine sc rfl ?_ | refine so rfl ?_ | refine sb rfl ?_)
  refine O_call (kind_c t k) (by rfl) (by rfl) (by rfl) (by rfl) (fun r hr => ?_)
  subst hr
  first
    | refine O_callA [0] (load_A t f 0 1 9 k (by omega)) (by rfl) (by rfl) (by rfl) (by rfl) (by rfl) ?_
    | refine O_callA [1] (load_A t f 0 1 9 k (by omega)) (by rfl) (by rfl) (by rfl) (by rfl) (by rfl) ?_
    | refine O_callA [2] (load_A t f 0 1 9 k (by omega)) (by rfl) (by rfl) (by rfl) (by rfl) (by rfl) ?_
    | refine O_callA [3] (load_A t f 0 1 9 k (by omega)) (by rfl) (by rfl) (by rfl) (by rfl) (by rfl) ?_
    | refine O_callA [4] (load_A t f 0 1 9 k (by omega)) (by rfl) (by rfl) (by rfl) (by rfl) (by rfl) ?_
  rintro r' cs' ⟨rfl, rfl⟩
  repeat (first | refine sc rfl ?_ | refine so rfl ?_ | refine sb rfl ?_)
  first
    | exact ⟨_, [_], _, rfl, pickA_perm (is := [0]) (As := [_]) rfl, rfl, rfl, rfl⟩
    | exact ⟨_, [_], _, rfl, pickA_perm (is := [1]) (As := [_]) rfl, rfl, rfl, rfl⟩
    | exact ⟨_, [_], _, rfl, pickA_perm (is := [2]) (As := [_]) rfl, rfl, rfl, rfl⟩
    | exact ⟨_, [_], _, rfl, pickA_perm (is := [3]) (As := [_]) rfl, rfl, rfl, rfl⟩
    | exact ⟨_, [_], _, rfl, pickA_perm (is := [4]) (As := [_]) rfl, rfl, rfl, rfl⟩
theorem refd_A (t : Nat) (f : Nat → Int) (k : Int) : FnA Tryz.prog 14 [PT t 0, I64 k] [tlA t f] (fun r cs' => r = I64 (if 1 ≤ k ∧ k ≤ 20 then f (10 + k.toNat) else 0) ∧ cs' = [tlA t f]) := by
  refine FnA.intro Tryz.tabOK Tryz.wide_ Tryz.func14 rfl (by decide) rfl (fun X => ?_)
  repeat (first | refine sc rfl ?_ | refine so rfl ?_ | refine sb rfl ?_)
  refine O_call (errk_c t k) (by rfl) (by rfl) (by rfl) (by rfl) (fun r hr => ?_)
  subst hr
  first
    | refine O_callA [0] (load_A t f 10 1 20 k (by omega)) (by rfl) (by rfl) (by rfl) (by rfl) (by rfl) ?_
    | refine O_callA [1] (load_A t f 10 1 20 k (by omega)) (by rfl) (by rfl) (by rfl) (by rfl) (by rfl) ?_
    | refine O_callA [2] (load_A t f 10 1 20 k (by omega)) (by rfl) (by rfl) (by rfl) (by rfl) (by rfl) ?_
    | refine O_callA [3] (load_A t f 10 1 20 k (by omega)) (by rfl) (by rfl) (by rfl) (by rfl) (by rfl) ?_
    | refine O_callA [4] (load_A t f 10 1 20 k (by omega)) (by rfl) (by rfl) (by rfl) (by rfl) (by rfl) ?_
  rintro r' cs' ⟨rfl, rfl⟩
  repeat (first | refine sc rfl ?_ | refine so rfl ?_ | refine sb rfl ?_)
  first
    | exact ⟨_, [_], _, rfl, pickA_perm (is := [0]) (As := [_]) rfl, rfl, rfl, rfl⟩
    | exact ⟨_, [_], _, rfl, pickA_perm (is := [1]) (As := [_]) rfl, rfl, rfl, rfl⟩
    | exact ⟨_, [_], _, rfl, pickA_perm (is := [2]) (As := [_]) rfl, rfl, rfl, rfl⟩
    | exact ⟨_, [_], _, rfl, pickA_perm (is := [3]) (As := [_]) rfl, rfl, rfl, rfl⟩
    | exact ⟨_, [_], _, rfl, pickA_perm (is := [4]) (As := [_]) rfl, rfl, rfl, rfl⟩
theorem servd_A (t : Nat) (f : Nat → Int) (k : Int) : FnA Tryz.prog 16 [PT t 0, I64 k] [tlA t f] (fun r cs' => r = I64 (if 0 ≤ k ∧ k ≤ 8 then f (31 + k.toNat) else 0) ∧ cs' = [tlA t f]) := by
  refine FnA.intro Tryz.tabOK Tryz.wide_ Tryz.func16 rfl (by decide) rfl (fun X => ?_)
  repeat (first | refine sc rfl ?_ | refine so rfl ?_ | refine sb rfl ?_)
  refine O_call (ownk_c t k) (by rfl) (by rfl) (by rfl) (by rfl) (fun r hr => ?_)
  subst hr
  first
    | refine O_callA [0] (load_A t f 31 0 8 k (by omega)) (by rfl) (by rfl) (by rfl) (by rfl) (by rfl) ?_
    | refine O_callA [1] (load_A t f 31 0 8 k (by omega)) (by rfl) (by rfl) (by rfl) (by rfl) (by rfl) ?_
    | refine O_callA [2] (load_A t f 31 0 8 k (by omega)) (by rfl) (by rfl) (by rfl) (by rfl) (by rfl) ?_
    | refine O_callA [3] (load_A t f 31 0 8 k (by omega)) (by rfl) (by rfl) (by rfl) (by rfl) (by rfl) ?_
    | refine O_callA [4] (load_A t f 31 0 8 k (by omega)) (by rfl) (by rfl) (by rfl) (by rfl) (by rfl) ?_
  rintro r' cs' ⟨rfl, rfl⟩
  repeat (first | refine sc rfl ?_ | refine so rfl ?_ | refine sb rfl ?_)
  first
    | exact ⟨_, [_], _, rfl, pickA_perm (is := [0]) (As := [_]) rfl, rfl, rfl, rfl⟩
    | exact ⟨_, [_], _, rfl, pickA_perm (is := [1]) (As := [_]) rfl, rfl, rfl, rfl⟩
    | exact ⟨_, [_], _, rfl, pickA_perm (is := [2]) (As := [_]) rfl, rfl, rfl, rfl⟩
    | exact ⟨_, [_], _, rfl, pickA_perm (is := [3]) (As := [_]) rfl, rfl, rfl, rfl⟩
    | exact ⟨_, [_], _, rfl, pickA_perm (is := [4]) (As := [_]) rfl, rfl, rfl, rfl⟩
def rowT (f : Nat → Int) (x : Rw) : Nat → Int :=
  if x.act = 1 then incO (incO f 0 1 9 x.note.kind 1) 10 1 20 x.note.err 1 else if x.act = 2 then incO f 31 0 8 x.note.owner 1
  else if x.act = 3 then updC f 40 (wi8 (f 40 + 1)) else if x.act = 4 then updC f 41 (wi8 (f 41 + 1)) else f
theorem row_A (t : Nat) (f : Nat → Int) (x : Rw) : FnA Tryz.prog 8 [PT t 0, .agg (Rw.c x)] [tlA t f] (fun r cs' => r = .tup [] ∧ cs' = [tlA t (rowT f x)]) := by
  refine FnA.intro Tryz.tabOK Tryz.wide_ Tryz.func8 rfl (by decide) rfl (fun X => ?_)
  unfold rowT
  repeat (first | refine sc rfl ?_ | refine so rfl ?_ | refine sb rfl ?_)
  first | refine C_le _ (Le.freezebox 3 rfl rfl rfl) ?_ | refine O_le _ (Le.freezebox 3 rfl rfl rfl) ?_
  repeat (first | refine sc rfl ?_ | refine so rfl ?_ | refine sb rfl ?_)
  refine O_Xd (X_ptrnil Tryz.underlying25 rfl rfl rfl) ?_
  repeat (first | refine sc rfl ?_ | refine so rfl ?_ | refine sb rfl ?_)
  refine C_false rfl rfl ?_
  repeat (first | refine sc rfl ?_ | refine so rfl ?_ | refine sb rfl ?_)
  refine C_if rfl (fun h1 => ?_) (fun h1 => ?_) <;> simp only [decide_eq_true_eq, decide_eq_false_iff_not, Bool.not_eq_true', Bool.not_eq_false', beq_iff_eq, beq_eq_false_iff_ne, bne_iff_ne, ne_eq, bne_eq_false_iff_eq, Decidable.not_not] at h1
  · rw [if_pos h1]
    repeat (first | refine sc rfl ?_ | refine so rfl ?_ | refine sb rfl ?_)
    refine O_call (kind_c t x.note.kind) (by rfl) (by rfl) (by rfl) (by rfl) (fun r hr => ?_)
    subst hr
    first
      | refine O_callA [0] (add_A t f 0 1 9 x.note.kind 1 (by omega)) (by rfl) (by rfl) (by rfl) (by rfl) (by rfl) ?_
      | refine O_callA [1] (add_A t f 0 1 9 x.note.kind 1 (by omega)) (by rfl) (by rfl) (by rfl) (by rfl) (by rfl) ?_
      | refine O_callA [2] (add_A t f 0 1 9 x.note.kind 1 (by omega)) (by rfl) (by rfl) (by rfl) (by rfl) (by rfl) ?_
      | refine O_callA [3] (add_A t f 0 1 9 x.note.kind 1 (by omega)) (by rfl) (by rfl) (by rfl) (by rfl) (by rfl) ?_
      | refine O_callA [4] (add_A t f 0 1 9 x.note.kind 1 (by omega)) (by rfl) (by rfl) (by rfl) (by rfl) (by rfl) ?_
    rintro r' cs' ⟨rfl, rfl⟩
    repeat (first | refine sc rfl ?_ | refine so rfl ?_ | refine sb rfl ?_)
    refine O_call (errk_c t x.note.err) (by rfl) (by rfl) (by rfl) (by rfl) (fun r hr => ?_)
    subst hr
    first
      | refine O_callA [0] (add_A t (incO f 0 1 9 x.note.kind 1) 10 1 20 x.note.err 1 (by omega)) (by rfl) (by rfl) (by rfl) (by rfl) (by rfl) ?_
      | refine O_callA [1] (add_A t (incO f 0 1 9 x.note.kind 1) 10 1 20 x.note.err 1 (by omega)) (by rfl) (by rfl) (by rfl) (by rfl) (by rfl) ?_
      | refine O_callA [2] (add_A t (incO f 0 1 9 x.note.kind 1) 10 1 20 x.note.err 1 (by omega)) (by rfl) (by rfl) (by rfl) (by rfl) (by rfl) ?_
      | refine O_callA [3] (add_A t (incO f 0 1 9 x.note.kind 1) 10 1 20 x.note.err 1 (by omega)) (by rfl) (by rfl) (by rfl) (by rfl) (by rfl) ?_
      | refine O_callA [4] (add_A t (incO f 0 1 9 x.note.kind 1) 10 1 20 x.note.err 1 (by omega)) (by rfl) (by rfl) (by rfl) (by rfl) (by rfl) ?_
    rintro r' cs' ⟨rfl, rfl⟩
    repeat (first | refine sc rfl ?_ | refine so rfl ?_ | refine sb rfl ?_)
    first
      | exact ⟨_, [_], _, rfl, pickA_perm (is := [0]) (As := [_]) rfl, rfl, rfl, rfl⟩
      | exact ⟨_, [_], _, rfl, pickA_perm (is := [1]) (As := [_]) rfl, rfl, rfl, rfl⟩
      | exact ⟨_, [_], _, rfl, pickA_perm (is := [2]) (As := [_]) rfl, rfl, rfl, rfl⟩
      | exact ⟨_, [_], _, rfl, pickA_perm (is := [3]) (As := [_]) rfl, rfl, rfl, rfl⟩
      | exact ⟨_, [_], _, rfl, pickA_perm (is := [4]) (As := [_]) rfl, rfl, rfl, rfl⟩
  rw [if_neg h1]
  repeat (first | refine sc rfl ?_ | refine so rfl ?_ | refine sb rfl ?_)
  refine C_if rfl (fun h2 => ?_) (fun h2 => ?_) <;> simp only [decide_eq_true_eq, decide_eq_false_iff_not, Bool.not_eq_true', Bool.not_eq_false', beq_iff_eq, beq_eq_false_iff_ne, bne_iff_ne, ne_eq, bne_eq_false_iff_eq, Decidable.not_not] at h2
  · rw [if_pos h2]
    repeat (first | refine sc rfl ?_ | refine so rfl ?_ | refine sb rfl ?_)
    refine O_call (ownk_c t x.note.owner) (by rfl) (by rfl) (by rfl) (by rfl) (fun r hr => ?_)
    subst hr
    first
      | refine O_callA [0] (add_A t f 31 0 8 x.note.owner 1 (by omega)) (by rfl) (by rfl) (by rfl) (by rfl) (by rfl) ?_
      | refine O_callA [1] (add_A t f 31 0 8 x.note.owner 1 (by omega)) (by rfl) (by rfl) (by rfl) (by rfl) (by rfl) ?_
      | refine O_callA [2] (add_A t f 31 0 8 x.note.owner 1 (by omega)) (by rfl) (by rfl) (by rfl) (by rfl) (by rfl) ?_
      | refine O_callA [3] (add_A t f 31 0 8 x.note.owner 1 (by omega)) (by rfl) (by rfl) (by rfl) (by rfl) (by rfl) ?_
      | refine O_callA [4] (add_A t f 31 0 8 x.note.owner 1 (by omega)) (by rfl) (by rfl) (by rfl) (by rfl) (by rfl) ?_
    rintro r' cs' ⟨rfl, rfl⟩
    repeat (first | refine sc rfl ?_ | refine so rfl ?_ | refine sb rfl ?_)
    first
      | exact ⟨_, [_], _, rfl, pickA_perm (is := [0]) (As := [_]) rfl, rfl, rfl, rfl⟩
      | exact ⟨_, [_], _, rfl, pickA_perm (is := [1]) (As := [_]) rfl, rfl, rfl, rfl⟩
      | exact ⟨_, [_], _, rfl, pickA_perm (is := [2]) (As := [_]) rfl, rfl, rfl, rfl⟩
      | exact ⟨_, [_], _, rfl, pickA_perm (is := [3]) (As := [_]) rfl, rfl, rfl, rfl⟩
      | exact ⟨_, [_], _, rfl, pickA_perm (is := [4]) (As := [_]) rfl, rfl, rfl, rfl⟩
  rw [if_neg h2]
  repeat (first | refine sc rfl ?_ | refine so rfl ?_ | refine sb rfl ?_)
  refine C_if rfl (fun h3 => ?_) (fun h3 => ?_) <;> simp only [decide_eq_true_eq, decide_eq_false_iff_not, Bool.not_eq_true', Bool.not_eq_false', beq_iff_eq, beq_eq_false_iff_ne, bne_iff_ne, ne_eq, bne_eq_false_iff_eq, Decidable.not_not] at h3
  · rw [if_pos h3]
    repeat (first | refine sc rfl ?_ | refine so rfl ?_ | refine sb rfl ?_)
    first
      | refine O_callA [0] (aAdd_A t 40 (by decide) f 1) (by rfl) (by rfl) (by rfl) (by rfl) (by rfl) ?_
      | refine O_callA [1] (aAdd_A t 40 (by decide) f 1) (by rfl) (by rfl) (by rfl) (by rfl) (by rfl) ?_
      | refine O_callA [2] (aAdd_A t 40 (by decide) f 1) (by rfl) (by rfl) (by rfl) (by rfl) (by rfl) ?_
      | refine O_callA [3] (aAdd_A t 40 (by decide) f 1) (by rfl) (by rfl) (by rfl) (by rfl) (by rfl) ?_
      | refine O_callA [4] (aAdd_A t 40 (by decide) f 1) (by rfl) (by rfl) (by rfl) (by rfl) (by rfl) ?_
    rintro r' cs' ⟨rfl, rfl⟩
    repeat (first | refine sc rfl ?_ | refine so rfl ?_ | refine sb rfl ?_)
    first
      | exact ⟨_, [_], _, rfl, pickA_perm (is := [0]) (As := [_]) rfl, rfl, rfl, rfl⟩
      | exact ⟨_, [_], _, rfl, pickA_perm (is := [1]) (As := [_]) rfl, rfl, rfl, rfl⟩
      | exact ⟨_, [_], _, rfl, pickA_perm (is := [2]) (As := [_]) rfl, rfl, rfl, rfl⟩
      | exact ⟨_, [_], _, rfl, pickA_perm (is := [3]) (As := [_]) rfl, rfl, rfl, rfl⟩
      | exact ⟨_, [_], _, rfl, pickA_perm (is := [4]) (As := [_]) rfl, rfl, rfl, rfl⟩
  rw [if_neg h3]
  repeat (first | refine sc rfl ?_ | refine so rfl ?_ | refine sb rfl ?_)
  refine C_if rfl (fun h4 => ?_) (fun h4 => ?_) <;> simp only [decide_eq_true_eq, decide_eq_false_iff_not, Bool.not_eq_true', Bool.not_eq_false', beq_iff_eq, beq_eq_false_iff_ne, bne_iff_ne, ne_eq, bne_eq_false_iff_eq, Decidable.not_not] at h4
  · rw [if_pos h4]
    repeat (first | refine sc rfl ?_ | refine so rfl ?_ | refine sb rfl ?_)
    first
      | refine O_callA [0] (aAdd_A t 41 (by decide) f 1) (by rfl) (by rfl) (by rfl) (by rfl) (by rfl) ?_
      | refine O_callA [1] (aAdd_A t 41 (by decide) f 1) (by rfl) (by rfl) (by rfl) (by rfl) (by rfl) ?_
      | refine O_callA [2] (aAdd_A t 41 (by decide) f 1) (by rfl) (by rfl) (by rfl) (by rfl) (by rfl) ?_
      | refine O_callA [3] (aAdd_A t 41 (by decide) f 1) (by rfl) (by rfl) (by rfl) (by rfl) (by rfl) ?_
      | refine O_callA [4] (aAdd_A t 41 (by decide) f 1) (by rfl) (by rfl) (by rfl) (by rfl) (by rfl) ?_
    rintro r' cs' ⟨rfl, rfl⟩
    repeat (first | refine sc rfl ?_ | refine so rfl ?_ | refine sb rfl ?_)
    first
      | exact ⟨_, [_], _, rfl, pickA_perm (is := [0]) (As := [_]) rfl, rfl, rfl, rfl⟩
      | exact ⟨_, [_], _, rfl, pickA_perm (is := [1]) (As := [_]) rfl, rfl, rfl, rfl⟩
      | exact ⟨_, [_], _, rfl, pickA_perm (is := [2]) (As := [_]) rfl, rfl, rfl, rfl⟩
      | exact ⟨_, [_], _, rfl, pickA_perm (is := [3]) (As := [_]) rfl, rfl, rfl, rfl⟩
      | exact ⟨_, [_], _, rfl, pickA_perm (is := [4]) (As := [_]) rfl, rfl, rfl, rfl⟩
  rw [if_neg h4]
  repeat (first | refine sc rfl ?_ | refine so rfl ?_ | refine sb rfl ?_)
  first
    | exact ⟨_, [_], _, rfl, pickA_perm (is := [0]) (As := [_]) rfl, rfl, rfl, rfl⟩
    | exact ⟨_, [_], _, rfl, pickA_perm (is := [1]) (As := [_]) rfl, rfl, rfl, rfl⟩
    | exact ⟨_, [_], _, rfl, pickA_perm (is := [2]) (As := [_]) rfl, rfl, rfl, rfl⟩
    | exact ⟨_, [_], _, rfl, pickA_perm (is := [3]) (As := [_]) rfl, rfl, rfl, rfl⟩
    | exact ⟨_, [_], _, rfl, pickA_perm (is := [4]) (As := [_]) rfl, rfl, rfl, rfl⟩
theorem rest_A (t : Nat) (f : Nat → Int) : FnA Tryz.prog 20 [PT t 0] [tlA t f] (fun r cs' => r = .tup [I64 (f 40), I64 (f 41), I64 (f 42), I64 (f 43)] ∧ cs' = [tlA t f]) := by
  refine FnA.intro Tryz.tabOK Tryz.wide_ Tryz.func20 rfl (by decide) rfl (fun X => ?_)
  repeat (first | refine sc rfl ?_ | refine so rfl ?_ | refine sb rfl ?_)
  refine O_Xd (X_ptrnil Tryz.underlying25 rfl rfl rfl) ?_
  repeat (first | refine sc rfl ?_ | refine so rfl ?_ | refine sb rfl ?_)
  refine C_false rfl rfl ?_
  repeat (first | refine sc rfl ?_ | refine so rfl ?_ | refine sb rfl ?_)
  refine C_drawD rfl (by kernel_rfl) ?_
  repeat (first | refine sd rfl ?_ | refine sdb rfl ?_ | refine sds rfl ?_)
  refine D_callA [0] (aLoad_A t 40 (by decide) f) rfl rfl rfl rfl rfl ?_
  repeat (first | refine sd rfl ?_ | refine sdb rfl ?_ | refine sds rfl ?_)
  refine D_callA [0] (aLoad_A t 41 (by decide) f) rfl rfl rfl rfl rfl ?_
  repeat (first | refine sd rfl ?_ | refine sdb rfl ?_ | refine sds rfl ?_)
  refine D_callA [0] (aLoad_A t 42 (by decide) f) rfl rfl rfl rfl rfl ?_
  repeat (first | refine sd rfl ?_ | refine sdb rfl ?_ | refine sds rfl ?_)
  refine D_callA [0] (aLoad_A t 43 (by decide) f) rfl rfl rfl rfl rfl ?_
  repeat (first | refine sd rfl ?_ | refine sdb rfl ?_ | refine sds rfl ?_)
  repeat (first | refine sc rfl ?_ | refine so rfl ?_ | refine sb rfl ?_)
  first
    | exact ⟨_, [_], _, rfl, pickA_perm (is := [0]) (As := [_]) rfl, rfl, rfl, rfl⟩
    | exact ⟨_, [_], _, rfl, pickA_perm (is := [1]) (As := [_]) rfl, rfl, rfl, rfl⟩
    | exact ⟨_, [_], _, rfl, pickA_perm (is := [2]) (As := [_]) rfl, rfl, rfl, rfl⟩
    | exact ⟨_, [_], _, rfl, pickA_perm (is := [3]) (As := [_]) rfl, rfl, rfl, rfl⟩
    | exact ⟨_, [_], _, rfl, pickA_perm (is := [4]) (As := [_]) rfl, rfl, rfl, rfl⟩
end Go.Proofs

/- The symbolic walk, part 73: cells known for good beside other memory; the kit's contracts at a world that knows some cells. -/
set_option linter.unusedSimpArgs false
set_option linter.unusedVariables false
namespace Go.Sy
open Go.RowKit

end Go.Sy
