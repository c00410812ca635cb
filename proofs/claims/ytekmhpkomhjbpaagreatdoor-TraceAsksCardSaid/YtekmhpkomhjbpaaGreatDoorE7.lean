/- The server's parts: dice, tags (of a new server). -/
import Derived.Test.YtekmhpkomhjbpaaGreatDoorE6
import Derived.Test.YtekmhpkomhjbpaaGreatDoorE5
import Derived.StillTailTactics
set_option linter.unusedSimpArgs false
set_option linter.unusedVariables false
set_option maxRecDepth 100000
namespace Go.Proofs
open Go.Sy Go.Lib

abbrev z63 : List AV := [U64 0,U64 0,U64 0,U64 0,U64 0,U64 0,U64 0,U64 0,U64 0,U64 0,U64 0,U64 0,U64 0,U64 0,U64 0,U64 0,U64 0,U64 0,U64 0,U64 0,U64 0,U64 0,U64 0,U64 0,U64 0,U64 0,U64 0,U64 0,U64 0,U64 0,U64 0,U64 0,U64 0,U64 0,U64 0,U64 0,U64 0,U64 0,U64 0,U64 0,U64 0,U64 0,U64 0,U64 0,U64 0,U64 0,U64 0,U64 0,U64 0,U64 0,U64 0,U64 0,U64 0,U64 0,U64 0,U64 0,U64 0,U64 0,U64 0,U64 0,U64 0,U64 0,U64 0]
abbrev diceA (g : Nat) (x f k : Int) : Abs := boxA g 110 (U64 x :: (z63 ++ [I64 f, I64 k]))
theorem diceNew_A : FnA Tryz.prog 126 [] [] (fun r cs' => ∃ g, r = PT g 0 ∧ cs' = [diceA g 0 0 0]) := by
  refine FnA.intro Tryz.tabOK Tryz.wide_ Tryz.func126 rfl (by decide) rfl (fun X => ?_)
  iterate 9 (first | refine sc rfl ?_ | refine so rfl ?_ | refine sb rfl ?_)
  refine O_absb 0 rfl rfl rfl (fun g => ?_)
  repeat (first | refine sc rfl ?_ | refine so rfl ?_ | refine sb rfl ?_)
  first
    | exact ⟨_, [_], _, rfl, pickA_perm (is := [0]) (As := [_]) rfl, rfl, g, rfl, rfl⟩
    | exact ⟨_, [_], _, rfl, pickA_perm (is := [1]) (As := [_]) rfl, rfl, g, rfl, rfl⟩
    | exact ⟨_, [_], _, rfl, pickA_perm (is := [2]) (As := [_]) rfl, rfl, g, rfl, rfl⟩
    | exact ⟨_, [_], _, rfl, pickA_perm (is := [3]) (As := [_]) rfl, rfl, g, rfl, rfl⟩
    | exact ⟨_, [_], _, rfl, pickA_perm (is := [4]) (As := [_]) rfl, rfl, g, rfl, rfl⟩
theorem dicePut_A (g : Nat) (x : Int) : FnA Tryz.prog 72 [PT g 0, U64 x] [diceA g 0 0 0] (fun r cs' => r = B true ∧ cs' = [diceA g x 0 1]) := by
  refine FnA.intro Tryz.tabOK Tryz.wide_ Tryz.func72 rfl (by decide) rfl (fun X => ?_)
  repeat (first | refine sc rfl ?_ | refine so rfl ?_ | refine sb rfl ?_)
  refine O_Xd (X_ptrnil Tryz.underlying233 rfl rfl rfl) ?_
  repeat (first | refine sc rfl ?_ | refine so rfl ?_ | refine sb rfl ?_)
  first
    | refine O_loadP 0 (reads_box 65) rfl rfl rfl rfl rfl rfl ?_
    | refine O_loadP 1 (reads_box 65) rfl rfl rfl rfl rfl rfl ?_
    | refine O_loadP 2 (reads_box 65) rfl rfl rfl rfl rfl rfl ?_
    | refine O_loadP 3 (reads_box 65) rfl rfl rfl rfl rfl rfl ?_
    | refine O_loadP 4 (reads_box 65) rfl rfl rfl rfl rfl rfl ?_
  repeat (first | refine sc rfl ?_ | refine so rfl ?_ | refine sb rfl ?_)
  refine C_false rfl rfl ?_
  repeat (first | refine sc rfl ?_ | refine so rfl ?_ | refine sb rfl ?_)
  refine C_drawU 20 14 rfl (by kernel_rfl) (by kernel_rfl) (by kernel_rfl) ?_
  repeat (first | refine sd rfl ?_ | refine sdb rfl ?_ | refine sds rfl ?_)
  refine D_X (I64 0) (X_loadP 0 (reads_box 64) rfl rfl rfl rfl rfl rfl) ?_
  repeat (first | refine sd rfl ?_ | refine sdb rfl ?_ | refine sds rfl ?_)
  refine D_X (I64 0) (X_loadP 0 (reads_box 65) rfl rfl rfl rfl rfl rfl) ?_
  repeat (first | refine sd rfl ?_ | refine sdb rfl ?_ | refine sds rfl ?_)
  refine ⟨by decide, ?_⟩
  repeat (first | refine sd rfl ?_ | refine sdb rfl ?_ | refine sds rfl ?_)
  repeat (first | refine sc rfl ?_ | refine so rfl ?_ | refine sb rfl ?_)
  refine O_Xd (X_idxP (i := 0) (len := 64) rfl rfl (by decide) (by decide) rfl rfl rfl rfl) ?_
  repeat (first | refine sc rfl ?_ | refine so rfl ?_ | refine sb rfl ?_)
  first
    | refine O_Xn (X_storeP 0 (writes_box (by show 0 < 66; decide)) rfl rfl rfl rfl rfl rfl rfl) ?_
    | refine O_Xn (X_storeP 1 (writes_box (by show 0 < 66; decide)) rfl rfl rfl rfl rfl rfl rfl) ?_
    | refine O_Xn (X_storeP 2 (writes_box (by show 0 < 66; decide)) rfl rfl rfl rfl rfl rfl rfl) ?_
    | refine O_Xn (X_storeP 3 (writes_box (by show 0 < 66; decide)) rfl rfl rfl rfl rfl rfl rfl) ?_
    | refine O_Xn (X_storeP 4 (writes_box (by show 0 < 66; decide)) rfl rfl rfl rfl rfl rfl rfl) ?_
  repeat (first | refine sc rfl ?_ | refine so rfl ?_ | refine sb rfl ?_)
  first
    | refine O_loadP 0 (reads_box 65) rfl rfl rfl rfl rfl rfl ?_
    | refine O_loadP 1 (reads_box 65) rfl rfl rfl rfl rfl rfl ?_
    | refine O_loadP 2 (reads_box 65) rfl rfl rfl rfl rfl rfl ?_
    | refine O_loadP 3 (reads_box 65) rfl rfl rfl rfl rfl rfl ?_
    | refine O_loadP 4 (reads_box 65) rfl rfl rfl rfl rfl rfl ?_
  repeat (first | refine sc rfl ?_ | refine so rfl ?_ | refine sb rfl ?_)
  first
    | refine O_Xn (X_storeP 0 (writes_box (by show 65 < 66; decide)) rfl rfl rfl rfl rfl rfl rfl) ?_
    | refine O_Xn (X_storeP 1 (writes_box (by show 65 < 66; decide)) rfl rfl rfl rfl rfl rfl rfl) ?_
    | refine O_Xn (X_storeP 2 (writes_box (by show 65 < 66; decide)) rfl rfl rfl rfl rfl rfl rfl) ?_
    | refine O_Xn (X_storeP 3 (writes_box (by show 65 < 66; decide)) rfl rfl rfl rfl rfl rfl rfl) ?_
    | refine O_Xn (X_storeP 4 (writes_box (by show 65 < 66; decide)) rfl rfl rfl rfl rfl rfl rfl) ?_
  repeat (first | refine sc rfl ?_ | refine so rfl ?_ | refine sb rfl ?_)
  first
    | exact ⟨_, [_], _, rfl, pickA_perm (is := [0]) (As := [_]) rfl, rfl, rfl, rfl⟩
    | exact ⟨_, [_], _, rfl, pickA_perm (is := [1]) (As := [_]) rfl, rfl, rfl, rfl⟩
    | exact ⟨_, [_], _, rfl, pickA_perm (is := [2]) (As := [_]) rfl, rfl, rfl, rfl⟩
    | exact ⟨_, [_], _, rfl, pickA_perm (is := [3]) (As := [_]) rfl, rfl, rfl, rfl⟩
    | exact ⟨_, [_], _, rfl, pickA_perm (is := [4]) (As := [_]) rfl, rfl, rfl, rfl⟩
theorem diceTake_A (g : Nat) (x : Int) : FnA Tryz.prog 186 [PT g 0] [diceA g x 0 1] (fun r cs' => r = .tup [U64 x, B true] ∧ cs' = [diceA g x 1 0]) := by
  refine FnA.intro Tryz.tabOK Tryz.wide_ Tryz.func186 rfl (by decide) rfl (fun X => ?_)
  repeat (first | refine sc rfl ?_ | refine so rfl ?_ | refine sb rfl ?_)
  refine O_Xd (X_ptrnil Tryz.underlying233 rfl rfl rfl) ?_
  repeat (first | refine sc rfl ?_ | refine so rfl ?_ | refine sb rfl ?_)
  first
    | refine O_loadP 0 (reads_box 65) rfl rfl rfl rfl rfl rfl ?_
    | refine O_loadP 1 (reads_box 65) rfl rfl rfl rfl rfl rfl ?_
    | refine O_loadP 2 (reads_box 65) rfl rfl rfl rfl rfl rfl ?_
    | refine O_loadP 3 (reads_box 65) rfl rfl rfl rfl rfl rfl ?_
    | refine O_loadP 4 (reads_box 65) rfl rfl rfl rfl rfl rfl ?_
  repeat (first | refine sc rfl ?_ | refine so rfl ?_ | refine sb rfl ?_)
  refine C_false rfl rfl ?_
  repeat (first | refine sc rfl ?_ | refine so rfl ?_ | refine sb rfl ?_)
  refine C_drawU 20 9 rfl (by kernel_rfl) (by kernel_rfl) (by kernel_rfl) ?_
  repeat (first | refine sd rfl ?_ | refine sdb rfl ?_ | refine sds rfl ?_)
  refine D_X (I64 0) (X_loadP 0 (reads_box 64) rfl rfl rfl rfl rfl rfl) ?_
  repeat (first | refine sd rfl ?_ | refine sdb rfl ?_ | refine sds rfl ?_)
  refine D_X _ (X_idxP (i := 0) (len := 64) rfl rfl (by decide) (by decide) rfl rfl rfl rfl) ?_
  repeat (first | refine sd rfl ?_ | refine sdb rfl ?_ | refine sds rfl ?_)
  refine D_X (U64 x) (X_loadP 0 (reads_box 0) rfl rfl rfl rfl rfl rfl) ?_
  repeat (first | refine sd rfl ?_ | refine sdb rfl ?_ | refine sds rfl ?_)
  repeat (first | refine sc rfl ?_ | refine so rfl ?_ | refine sb rfl ?_)
  first
    | refine O_loadP 0 (reads_box 64) rfl rfl rfl rfl rfl rfl ?_
    | refine O_loadP 1 (reads_box 64) rfl rfl rfl rfl rfl rfl ?_
    | refine O_loadP 2 (reads_box 64) rfl rfl rfl rfl rfl rfl ?_
    | refine O_loadP 3 (reads_box 64) rfl rfl rfl rfl rfl rfl ?_
    | refine O_loadP 4 (reads_box 64) rfl rfl rfl rfl rfl rfl ?_
  repeat (first | refine sc rfl ?_ | refine so rfl ?_ | refine sb rfl ?_)
  refine ⟨by decide, ?_⟩
  repeat (first | refine sc rfl ?_ | refine so rfl ?_ | refine sb rfl ?_)
  first
    | refine O_Xn (X_storeP 0 (writes_box (by show 64 < 66; decide)) rfl rfl rfl rfl rfl rfl rfl) ?_
    | refine O_Xn (X_storeP 1 (writes_box (by show 64 < 66; decide)) rfl rfl rfl rfl rfl rfl rfl) ?_
    | refine O_Xn (X_storeP 2 (writes_box (by show 64 < 66; decide)) rfl rfl rfl rfl rfl rfl rfl) ?_
    | refine O_Xn (X_storeP 3 (writes_box (by show 64 < 66; decide)) rfl rfl rfl rfl rfl rfl rfl) ?_
    | refine O_Xn (X_storeP 4 (writes_box (by show 64 < 66; decide)) rfl rfl rfl rfl rfl rfl rfl) ?_
  repeat (first | refine sc rfl ?_ | refine so rfl ?_ | refine sb rfl ?_)
  first
    | refine O_loadP 0 (reads_box 65) rfl rfl rfl rfl rfl rfl ?_
    | refine O_loadP 1 (reads_box 65) rfl rfl rfl rfl rfl rfl ?_
    | refine O_loadP 2 (reads_box 65) rfl rfl rfl rfl rfl rfl ?_
    | refine O_loadP 3 (reads_box 65) rfl rfl rfl rfl rfl rfl ?_
    | refine O_loadP 4 (reads_box 65) rfl rfl rfl rfl rfl rfl ?_
  repeat (first | refine sc rfl ?_ | refine so rfl ?_ | refine sb rfl ?_)
  first
    | refine O_Xn (X_storeP 0 (writes_box (by show 65 < 66; decide)) rfl rfl rfl rfl rfl rfl rfl) ?_
    | refine O_Xn (X_storeP 1 (writes_box (by show 65 < 66; decide)) rfl rfl rfl rfl rfl rfl rfl) ?_
    | refine O_Xn (X_storeP 2 (writes_box (by show 65 < 66; decide)) rfl rfl rfl rfl rfl rfl rfl) ?_
    | refine O_Xn (X_storeP 3 (writes_box (by show 65 < 66; decide)) rfl rfl rfl rfl rfl rfl rfl) ?_
    | refine O_Xn (X_storeP 4 (writes_box (by show 65 < 66; decide)) rfl rfl rfl rfl rfl rfl rfl) ?_
  repeat (first | refine sc rfl ?_ | refine so rfl ?_ | refine sb rfl ?_)
  first
    | exact ⟨_, [_], _, rfl, pickA_perm (is := [0]) (As := [_]) rfl, rfl, rfl, rfl⟩
    | exact ⟨_, [_], _, rfl, pickA_perm (is := [1]) (As := [_]) rfl, rfl, rfl, rfl⟩
    | exact ⟨_, [_], _, rfl, pickA_perm (is := [2]) (As := [_]) rfl, rfl, rfl, rfl⟩
    | exact ⟨_, [_], _, rfl, pickA_perm (is := [3]) (As := [_]) rfl, rfl, rfl, rfl⟩
    | exact ⟨_, [_], _, rfl, pickA_perm (is := [4]) (As := [_]) rfl, rfl, rfl, rfl⟩
theorem mix_c (a b : Int) : FnP Tryz.prog 187 [U64 a, U64 b] (fun r => ∃ x, r = U64 x) := by
  refine FnP.intro Tryz.tabOK Tryz.wide_ Tryz.func187 rfl (by decide) rfl (fun X => ?_)
  repeat (first | refine sc rfl ?_ | refine so rfl ?_ | refine sb rfl ?_)
  refine ⟨by decide, ?_⟩
  repeat (first | refine sc rfl ?_ | refine so rfl ?_ | refine sb rfl ?_)
  refine ⟨by decide, ?_⟩
  repeat (first | refine sc rfl ?_ | refine so rfl ?_ | refine sb rfl ?_)
  exact ⟨_, rfl, rfl, _, rfl⟩
theorem owns0_c : FnP Tryz.prog 185 [I64 0] (· = B true) := by
  refine FnP.intro Tryz.tabOK Tryz.wide_ Tryz.func185 rfl (by decide) rfl (fun X => ?_)
  repeat (first | refine sc rfl ?_ | refine so rfl ?_ | refine sb rfl ?_)
  exact ⟨_, rfl, rfl, rfl⟩

/-- The tags' table: nothing issued, or one tag of the admin. -/
abbrev mac0 (g : Nat) : Abs := boxA g 317 [I64 0,I64 0,I64 0,I64 0,I64 0,I64 0,I64 0,I64 0,I64 0,I64 0,U64 0,I64 0,U64 0,I64 0,U64 0,I64 0,U64 0,I64 0,U64 0,I64 0,U64 0,I64 0,U64 0,I64 0,U64 0,I64 0,U64 0]
abbrev mac1 (g : Nat) (c : Int) : Abs := boxA g 317 [I64 1,I64 0,I64 0,I64 0,I64 0,I64 0,I64 0,I64 0,I64 0,I64 1,U64 c,I64 0,U64 0,I64 0,U64 0,I64 0,U64 0,I64 0,U64 0,I64 0,U64 0,I64 0,U64 0,I64 0,U64 0,I64 0,U64 0]
theorem macNew_A : FnA Tryz.prog 124 [] [] (fun r cs' => ∃ g, r = PT g 0 ∧ cs' = [mac0 g]) := by
  refine FnA.intro Tryz.tabOK Tryz.wide_ Tryz.func124 rfl (by decide) rfl (fun X => ?_)
  iterate 9 (first | refine sc rfl ?_ | refine so rfl ?_ | refine sb rfl ?_)
  refine O_absb 0 rfl rfl rfl (fun g => ?_)
  repeat (first | refine sc rfl ?_ | refine so rfl ?_ | refine sb rfl ?_)
  first
    | exact ⟨_, [_], _, rfl, pickA_perm (is := [0]) (As := [_]) rfl, rfl, g, rfl, rfl⟩
    | exact ⟨_, [_], _, rfl, pickA_perm (is := [1]) (As := [_]) rfl, rfl, g, rfl, rfl⟩
    | exact ⟨_, [_], _, rfl, pickA_perm (is := [2]) (As := [_]) rfl, rfl, g, rfl, rfl⟩
    | exact ⟨_, [_], _, rfl, pickA_perm (is := [3]) (As := [_]) rfl, rfl, g, rfl, rfl⟩
    | exact ⟨_, [_], _, rfl, pickA_perm (is := [4]) (As := [_]) rfl, rfl, g, rfl, rfl⟩
theorem issue_A (g d : Nat) (x : Int) : FnA Tryz.prog 127 [PT g 0, I64 0, PT d 0] [mac0 g, diceA d x 0 1] (fun r cs' => ∃ c, r = .tup [I64 1, U64 c, I64 0] ∧ cs' = [mac1 g c, diceA d x 1 0]) := by
  refine FnA.intro Tryz.tabOK Tryz.wide_ Tryz.func127 rfl (by decide) rfl (fun X => ?_)
  repeat (first | refine sc rfl ?_ | refine so rfl ?_ | refine sb rfl ?_)
  refine O_Xd (X_ptrnil Tryz.underlying107 rfl rfl rfl) ?_
  repeat (first | refine sc rfl ?_ | refine so rfl ?_ | refine sb rfl ?_)
  refine C_false rfl rfl ?_
  repeat (first | refine sc rfl ?_ | refine so rfl ?_ | refine sb rfl ?_)
  refine O_call owns0_c (by rfl) (by rfl) (by rfl) (by rfl) (fun r' hr => ?_)
  subst hr
  repeat (first | refine sc rfl ?_ | refine so rfl ?_ | refine sb rfl ?_)
  refine C_false rfl rfl ?_
  repeat (first | refine sc rfl ?_ | refine so rfl ?_ | refine sb rfl ?_)
  first
    | refine O_callA [0] (diceTake_A d x) (by rfl) (by rfl) (by rfl) (by rfl) (by rfl) ?_
    | refine O_callA [1] (diceTake_A d x) (by rfl) (by rfl) (by rfl) (by rfl) (by rfl) ?_
    | refine O_callA [2] (diceTake_A d x) (by rfl) (by rfl) (by rfl) (by rfl) (by rfl) ?_
    | refine O_callA [3] (diceTake_A d x) (by rfl) (by rfl) (by rfl) (by rfl) (by rfl) ?_
    | refine O_callA [4] (diceTake_A d x) (by rfl) (by rfl) (by rfl) (by rfl) (by rfl) ?_
  rintro r' cs' ⟨rfl, rfl⟩
  repeat (first | refine sc rfl ?_ | refine so rfl ?_ | refine sb rfl ?_)
  refine C_false rfl rfl ?_
  repeat (first | refine sc rfl ?_ | refine so rfl ?_ | refine sb rfl ?_)
  refine C_drawU 20 9 rfl (by kernel_rfl) (by kernel_rfl) (by kernel_rfl) ?_
  repeat (first | refine sd rfl ?_ | refine sdb rfl ?_ | refine sds rfl ?_)
  refine D_X _ (X_idxP (i := 0) (len := 9) rfl rfl (by decide) (by decide) rfl rfl rfl rfl) ?_
  repeat (first | refine sd rfl ?_ | refine sdb rfl ?_ | refine sds rfl ?_)
  refine D_X (I64 0) (X_loadP 1 (reads_box 0) rfl rfl rfl rfl rfl rfl) ?_
  repeat (first | refine sd rfl ?_ | refine sdb rfl ?_ | refine sds rfl ?_)
  repeat (first | refine sc rfl ?_ | refine so rfl ?_ | refine sb rfl ?_)
  refine O_Xd (X_idxP (i := 0) (len := 9) rfl rfl (by decide) (by decide) rfl rfl rfl rfl) ?_
  repeat (first | refine sc rfl ?_ | refine so rfl ?_ | refine sb rfl ?_)
  first
    | refine O_Xn (X_storeP 0 (writes_box (by show 0 < 27; decide)) rfl rfl rfl rfl rfl rfl rfl) ?_
    | refine O_Xn (X_storeP 1 (writes_box (by show 0 < 27; decide)) rfl rfl rfl rfl rfl rfl rfl) ?_
    | refine O_Xn (X_storeP 2 (writes_box (by show 0 < 27; decide)) rfl rfl rfl rfl rfl rfl rfl) ?_
    | refine O_Xn (X_storeP 3 (writes_box (by show 0 < 27; decide)) rfl rfl rfl rfl rfl rfl rfl) ?_
    | refine O_Xn (X_storeP 4 (writes_box (by show 0 < 27; decide)) rfl rfl rfl rfl rfl rfl rfl) ?_
  repeat (first | refine sc rfl ?_ | refine so rfl ?_ | refine sb rfl ?_)
  refine O_Xd (X_idxP (i := 0) (len := 9) rfl rfl (by decide) (by decide) rfl rfl rfl rfl) ?_
  repeat (first | refine sc rfl ?_ | refine so rfl ?_ | refine sb rfl ?_)
  first
    | refine O_loadP 0 (reads_box 0) rfl rfl rfl rfl rfl rfl ?_
    | refine O_loadP 1 (reads_box 0) rfl rfl rfl rfl rfl rfl ?_
    | refine O_loadP 2 (reads_box 0) rfl rfl rfl rfl rfl rfl ?_
    | refine O_loadP 3 (reads_box 0) rfl rfl rfl rfl rfl rfl ?_
    | refine O_loadP 4 (reads_box 0) rfl rfl rfl rfl rfl rfl ?_
  repeat (first | refine sc rfl ?_ | refine so rfl ?_ | refine sb rfl ?_)
  refine ⟨by decide, ?_⟩
  repeat (first | refine sc rfl ?_ | refine so rfl ?_ | refine sb rfl ?_)
  refine O_call (mix_c _ _) (by rfl) (by rfl) (by rfl) (by rfl) (fun r' hr => ?_)
  obtain ⟨c, rfl⟩ := hr
  repeat (first | refine sc rfl ?_ | refine so rfl ?_ | refine sb rfl ?_)
  refine O_Xd (X_idxP (i := 0) (len := 9) rfl rfl (by decide) (by decide) rfl rfl rfl rfl) ?_
  repeat (first | refine sc rfl ?_ | refine so rfl ?_ | refine sb rfl ?_)
  first
    | refine O_Xn (X_storeB 0 (writesN_box (cells := [I64 1,I64 0,I64 0,I64 0,I64 0,I64 0,I64 0,I64 0,I64 0,I64 0,U64 0,I64 0,U64 0,I64 0,U64 0,I64 0,U64 0,I64 0,U64 0,I64 0,U64 0,I64 0,U64 0,I64 0,U64 0,I64 0,U64 0]) (new := [I64 1, U64 (max c 1)]) (o := 9) (by show 9 + 2 ≤ 27; decide)) rfl rfl rfl rfl rfl rfl rfl) ?_
    | refine O_Xn (X_storeB 1 (writesN_box (cells := [I64 1,I64 0,I64 0,I64 0,I64 0,I64 0,I64 0,I64 0,I64 0,I64 0,U64 0,I64 0,U64 0,I64 0,U64 0,I64 0,U64 0,I64 0,U64 0,I64 0,U64 0,I64 0,U64 0,I64 0,U64 0,I64 0,U64 0]) (new := [I64 1, U64 (max c 1)]) (o := 9) (by show 9 + 2 ≤ 27; decide)) rfl rfl rfl rfl rfl rfl rfl) ?_
  repeat (first | refine sc rfl ?_ | refine so rfl ?_ | refine sb rfl ?_)
  first
    | exact ⟨_, [_, _], _, rfl, pickA_perm (is := [0, 0]) (As := [_, _]) rfl, rfl, max c 1, rfl, rfl⟩
    | exact ⟨_, [_, _], _, rfl, pickA_perm (is := [0, 1]) (As := [_, _]) rfl, rfl, max c 1, rfl, rfl⟩
    | exact ⟨_, [_, _], _, rfl, pickA_perm (is := [0, 2]) (As := [_, _]) rfl, rfl, max c 1, rfl, rfl⟩
    | exact ⟨_, [_, _], _, rfl, pickA_perm (is := [0, 3]) (As := [_, _]) rfl, rfl, max c 1, rfl, rfl⟩
    | exact ⟨_, [_, _], _, rfl, pickA_perm (is := [0, 4]) (As := [_, _]) rfl, rfl, max c 1, rfl, rfl⟩
    | exact ⟨_, [_, _], _, rfl, pickA_perm (is := [0, 5]) (As := [_, _]) rfl, rfl, max c 1, rfl, rfl⟩
    | exact ⟨_, [_, _], _, rfl, pickA_perm (is := [1, 0]) (As := [_, _]) rfl, rfl, max c 1, rfl, rfl⟩
    | exact ⟨_, [_, _], _, rfl, pickA_perm (is := [1, 1]) (As := [_, _]) rfl, rfl, max c 1, rfl, rfl⟩
    | exact ⟨_, [_, _], _, rfl, pickA_perm (is := [1, 2]) (As := [_, _]) rfl, rfl, max c 1, rfl, rfl⟩
    | exact ⟨_, [_, _], _, rfl, pickA_perm (is := [1, 3]) (As := [_, _]) rfl, rfl, max c 1, rfl, rfl⟩
    | exact ⟨_, [_, _], _, rfl, pickA_perm (is := [1, 4]) (As := [_, _]) rfl, rfl, max c 1, rfl, rfl⟩
    | exact ⟨_, [_, _], _, rfl, pickA_perm (is := [1, 5]) (As := [_, _]) rfl, rfl, max c 1, rfl, rfl⟩
    | exact ⟨_, [_, _], _, rfl, pickA_perm (is := [2, 0]) (As := [_, _]) rfl, rfl, max c 1, rfl, rfl⟩
    | exact ⟨_, [_, _], _, rfl, pickA_perm (is := [2, 1]) (As := [_, _]) rfl, rfl, max c 1, rfl, rfl⟩
    | exact ⟨_, [_, _], _, rfl, pickA_perm (is := [2, 2]) (As := [_, _]) rfl, rfl, max c 1, rfl, rfl⟩
    | exact ⟨_, [_, _], _, rfl, pickA_perm (is := [2, 3]) (As := [_, _]) rfl, rfl, max c 1, rfl, rfl⟩
    | exact ⟨_, [_, _], _, rfl, pickA_perm (is := [2, 4]) (As := [_, _]) rfl, rfl, max c 1, rfl, rfl⟩
    | exact ⟨_, [_, _], _, rfl, pickA_perm (is := [2, 5]) (As := [_, _]) rfl, rfl, max c 1, rfl, rfl⟩
    | exact ⟨_, [_, _], _, rfl, pickA_perm (is := [3, 0]) (As := [_, _]) rfl, rfl, max c 1, rfl, rfl⟩
    | exact ⟨_, [_, _], _, rfl, pickA_perm (is := [3, 1]) (As := [_, _]) rfl, rfl, max c 1, rfl, rfl⟩
    | exact ⟨_, [_, _], _, rfl, pickA_perm (is := [3, 2]) (As := [_, _]) rfl, rfl, max c 1, rfl, rfl⟩
    | exact ⟨_, [_, _], _, rfl, pickA_perm (is := [3, 3]) (As := [_, _]) rfl, rfl, max c 1, rfl, rfl⟩
    | exact ⟨_, [_, _], _, rfl, pickA_perm (is := [3, 4]) (As := [_, _]) rfl, rfl, max c 1, rfl, rfl⟩
    | exact ⟨_, [_, _], _, rfl, pickA_perm (is := [3, 5]) (As := [_, _]) rfl, rfl, max c 1, rfl, rfl⟩
    | exact ⟨_, [_, _], _, rfl, pickA_perm (is := [4, 0]) (As := [_, _]) rfl, rfl, max c 1, rfl, rfl⟩
    | exact ⟨_, [_, _], _, rfl, pickA_perm (is := [4, 1]) (As := [_, _]) rfl, rfl, max c 1, rfl, rfl⟩
    | exact ⟨_, [_, _], _, rfl, pickA_perm (is := [4, 2]) (As := [_, _]) rfl, rfl, max c 1, rfl, rfl⟩
    | exact ⟨_, [_, _], _, rfl, pickA_perm (is := [4, 3]) (As := [_, _]) rfl, rfl, max c 1, rfl, rfl⟩
    | exact ⟨_, [_, _], _, rfl, pickA_perm (is := [4, 4]) (As := [_, _]) rfl, rfl, max c 1, rfl, rfl⟩
    | exact ⟨_, [_, _], _, rfl, pickA_perm (is := [4, 5]) (As := [_, _]) rfl, rfl, max c 1, rfl, rfl⟩
    | exact ⟨_, [_, _], _, rfl, pickA_perm (is := [5, 0]) (As := [_, _]) rfl, rfl, max c 1, rfl, rfl⟩
    | exact ⟨_, [_, _], _, rfl, pickA_perm (is := [5, 1]) (As := [_, _]) rfl, rfl, max c 1, rfl, rfl⟩
    | exact ⟨_, [_, _], _, rfl, pickA_perm (is := [5, 2]) (As := [_, _]) rfl, rfl, max c 1, rfl, rfl⟩
    | exact ⟨_, [_, _], _, rfl, pickA_perm (is := [5, 3]) (As := [_, _]) rfl, rfl, max c 1, rfl, rfl⟩
    | exact ⟨_, [_, _], _, rfl, pickA_perm (is := [5, 4]) (As := [_, _]) rfl, rfl, max c 1, rfl, rfl⟩
    | exact ⟨_, [_, _], _, rfl, pickA_perm (is := [5, 5]) (As := [_, _]) rfl, rfl, max c 1, rfl, rfl⟩
    | exact ⟨_, [_, _], _, rfl, pickA_perm (is := [6, 0]) (As := [_, _]) rfl, rfl, max c 1, rfl, rfl⟩
    | exact ⟨_, [_, _], _, rfl, pickA_perm (is := [6, 1]) (As := [_, _]) rfl, rfl, max c 1, rfl, rfl⟩
    | exact ⟨_, [_, _], _, rfl, pickA_perm (is := [6, 2]) (As := [_, _]) rfl, rfl, max c 1, rfl, rfl⟩
    | exact ⟨_, [_, _], _, rfl, pickA_perm (is := [6, 3]) (As := [_, _]) rfl, rfl, max c 1, rfl, rfl⟩
    | exact ⟨_, [_, _], _, rfl, pickA_perm (is := [6, 4]) (As := [_, _]) rfl, rfl, max c 1, rfl, rfl⟩
    | exact ⟨_, [_, _], _, rfl, pickA_perm (is := [6, 5]) (As := [_, _]) rfl, rfl, max c 1, rfl, rfl⟩
end Go.Proofs

/- The symbolic walk, part 77: a call that gives a pointer to a new variable, in drawn regions of effects. -/
set_option linter.unusedSimpArgs false
set_option linter.unusedVariables false
namespace Go.Sy
open Go.RowKit
section
variable {P : Program} {T : Tab} {X : Ctx P T} {n : Nat} {e : Env} {st : St} {a : Act} {w : World} {ops : Array Oper} {K : St → Prop}

theorem Rel.newMu {s : List (Nat × AV)} {c : List Ch} (r : Rel X n e ⟨s, c⟩ a w) (d b : Nat) (hd : Nat.blt d n = true) (hf : freshS d s = true) (hc : freshC d c = true) : Rel X n { e with μ := upd e.μ d b } ⟨s, c⟩ a w := by
  have hd' : d < n := by have := hd; simp [Nat.blt] at this; omega
  have hnod : ∀ {x : AV}, x.no d = true → ∀ j, x.no j = false → j ≠ d := fun hx j hj he => by subst he; rw [hx] at hj; cases hj
  have hid : ∀ (q : Nat), q ≠ d → upd e.μ d b q = e.μ q := fun q hq => by simp [upd, hq]
  refine { r with slots := ?_, heap := ?_, fix := ?_ }
  · intro j x hx
    obtain ⟨v', h1, h2⟩ := r.slots j x hx
    exact ⟨v', h1, Rep.mono (e := e) (f := { e with μ := upd e.μ d b }) (IM.le_refl _) x (fun q hq => ⟨hid q (hnod (freshS_get hf j x hx) q hq), rfl⟩) h2⟩
  · refine HeapOK.grow r.heap (IM.le_refl _) (fun x hcm j hj => ⟨hid j ?_, rfl⟩) (fun b hb => rfl) (Nat.le_refl _) (fun b _ h => h)
    intro he; subst he; rw [freshC_mem hc x hcm] at hj; cases hj
  · intro k hk
    show upd e.μ d b k = _
    rw [hid k (by omega)]
    exact r.fix k hk

/-- A call that gives a pointer to a new variable. -/
theorem X_callNew {p : Pl} {f : FuncId} {dst : Nat} {args : Array Operand} {tys : Array TypeId} {ty : TypeId} {pos : String} {aft : Array Edge} {gd : Option (Nat × Bool)} {j : Nat} {avs : List AV} {t : TypeId} {cells : List AV}
    {Si : List (Nat × AV)} {c : List Ch} (hf : FnA P f avs [] (fun r cs' => ∃ g, r = PT g 0 ∧ cs' = [boxA g t cells])) (hg : guardA ops ⟨Si, c⟩ ⟨some dst, .call ⟨.value (.func f), args, tys⟩, ty, pos, aft, gd⟩ = some true) (ha : opds Si args.toList = some avs) (himm : AV.imm.immL avs = true)
    (hd : Nat.blt dst n = true) (hcre : (j, dst) ∈ p.cre) (hc : freshC dst c = true) (hno : AV.no.noL dst cells = true) :
    StepX X n ops p Si c (.box dst t cells :: c) j ⟨some dst, .call ⟨.value (.func f), args, tys⟩, ty, pos, aft, gd⟩ (.bp dst 0) := by
  intro e a w S K Q r hS hcr hk
  have r' : Rel X n e ⟨Si, c⟩ a w := r.less hS (fun h => h)
  rw [if_pos (guardA_sound r' hg)]
  refine .inl ?_
  unfold Oper.wp
  rw [run_call hf.1 a.eval rfl w, Oper.upon_enter]
  have h1 := RepT.toI avs himm (opds_sound r' ha)
  rw [map_eval]
  have hp : c.Perm (([] : List Abs).map Ch.abs ++ c) := .refl _
  have hd2 := (r.heap.perm hp).absOK
  have hfree : ∀ k y, get S k = some y → y.no dst = true := fun k y h => hcr k y h (j, dst) hcre rfl
  refine (hf.2 e.G w _ ⟨r.im, r.mz⟩ h1 hd2.1).mono ?_
  rintro en w' ⟨rv, cv, cs', G', ⟨g, rfl, rfl⟩, rfl, g1, g2, g3, g4, g5, g6, o1, o2, o3, o4, o5⟩
  have r2 := r.swapAbs (st := ⟨S, c⟩) hp g2 g4 g3 g5 g6 ⟨o1, o2, o3⟩ o4 o5
  have r3 : Rel X n ⟨G', e.μ, e.hd⟩ ⟨S.filter fun q => q.2.no dst, .abs (boxA g t cells) :: c⟩ a w' := r2.less (fun k y h => get_unfilter hfree h) (fun h => h)
  have r4 := r3.newMu dst g hd (freshS_filter dst S) (by simpa [freshC, Ch.no] using hc)
  have hcv : cv = .pointer (some ⟨g, 0, none⟩) := by simpa only [RepI] using g1
  have r5 : Rel X n ⟨G', upd e.μ dst g, e.hd⟩ ⟨S.filter fun q => q.2.no dst, .box dst t cells :: c⟩ a w' := { r4 with
    slots := r4.slots
    heap := HeapOK.retell r4.heap (fun bs hb => by
      obtain ⟨h1, h2⟩ := hb
      obtain ⟨arr, h3, h4⟩ := h2
      exact ⟨by simpa [upd, boxA] using h1, arr, by simpa [upd] using h3, RepIL.toRep (e := ⟨G', upd e.μ dst g, e.hd⟩) cells h4⟩) }
  refine hk _ _ _ _ (r5.put hd (x := .bp dst 0) (v := cv) (by simp only [Rep, hcv]; simp [upd])) ⟨?_, ?_, ?_⟩
  · rintro d' h'
    cases h'
    rw [get_cons, if_pos rfl]
  · intro k y hne hy _
    rw [get_cons, if_neg (fun h => hne (by rw [h]))]
    exact get_filter hy (hfree k y hy)
  · intro k y hy
    rw [get_cons] at hy
    by_cases h : dst = k
    · rw [if_pos h] at hy; cases hy; exact .inl ⟨by rw [h], rfl⟩
    · rw [if_neg h] at hy; exact .inr (.inl (get_unfilter hfree hy))
end
end Go.Sy

/- The symbolic walk, part 56: drawn regions that turn memory, with a tail in its order. -/
set_option linter.unusedSimpArgs false
set_option linter.unusedVariables false
namespace Go.Sy
open Go.RowKit

section
variable {P : Program} {T : Tab} {X : Ctx P T} {n : Nat} {e : Env} {st : St} {a : Act} {w : World} {ops : Array Oper} {K : St → Prop}

theorem StepX.perm {p : Pl} {Si : List (Nat × AV)} {c c2 c3 : List Ch} {i : Nat} {o : Oper} {x : AV} (h : StepX X n ops p Si c c2 i o x) (hp : c2.Perm c3) : StepX X n ops p Si c c3 i o x :=
  fun e a w S K Q r hS hcr hk => h e a w S K Q r hS hcr (fun e' a' w' S' r' hu => hk e' a' w' S' (r'.less (fun k y hh => hh) (fun hh => hh.perm hp)) hu)

theorem any_of_MT {p : Pl} {base : List (Nat × AV)} {C : (Nat → Bool) → List Ch} {D : Done} {Q : QX X} {m f : Nat} (ht : tailB ops f m = true) (hE : ∀ e ∈ p.E, e < m) (hC : ∀ L L' : Nat → Bool, (∀ e ∈ p.E, L e = L' e) → C L = C L') (hA : p.ancB ops = true) (hbse : p.baseB base = true) (hD : D.length = m)
    (hstep : ∀ i o, i < m → ops[i]? = some o → ∃ x, D[i]? = some (o.dst, x) ∧ p.creB i x = true ∧ ∀ L : Nat → Bool, (∀ a ∈ p.anc i, L a = true) → (∀ q, i ∈ p.anc q → L q = false) → L i = false → StepX X n ops p (availX p i (D.take i) o.after.toList base) (C L) (if i ∈ p.E then C (setM L i) else C L) i o x)
    (hedge : ∀ i o, ops[i]? = some o → ∀ e ∈ o.after, Region.binds .any e = true → e.on < i)
    (hdist : ∀ (i j : Nat) o o' d, i < m → j < m → ops[i]? = some o → ops[j]? = some o' → o.dst = some d → o'.dst = some d → i = j)
    (hbase : ∀ (i : Nat) o d, i < m → ops[i]? = some o → o.dst = some d → get base d = none)
    (hfin : ∀ e a w, Rel X n e ⟨finS base (killD p D), C (fun _ => true)⟩ a w → wpList P ops Q (ops.toList.drop m) a w) :
    ∀ (fuel : Nat) (listed : Array Bool) (a : Act) (w : World) (e : Env) (S : List (Nat × AV)), listed.size = ops.size → listed.toList.count false = fuel → ClosedL ops listed → Rel X n e ⟨S, C (fun e => listed.getD e false)⟩ a w → (∀ j, m ≤ j → listed.getD j false = false) →
      (∀ k y, get base k = some y → get S k = some y) →
      (∀ (i : Nat) d x, listed.getD i false = true → D[i]? = some (some d, x) → (∀ q ∈ p.ki, listed.getD q.1 false = true → x.noO q.2 = true) → get S d = some x) →
      (∀ k y, get S k = some y → ∀ q ∈ p.cre, listed.getD q.1 false = false → y.no q.2 = true) →
      wpAny P .any ops Q fuel listed a w := by
  have ht' := ht
  unfold tailB at ht'
  simp only [Bool.and_eq_true, List.all_eq_true, List.mem_range, Array.length_toList] at ht'
  obtain ⟨⟨hm, hcov⟩, hch⟩ := ht'
  have hm' : m < ops.size := by have h := hm; simp [Nat.blt] at h; omega
  have cnt : ∀ (l : List Bool) (k : Nat), k ≤ l.length → (∀ j, j < l.length → (l[j]? = some true ↔ j < k)) → l.count false + k = l.length := by
    intro l
    induction l with
    | nil => intro k hk _; simp at hk; simp [hk]
    | cons b l ih =>
      intro k hk h
      cases k with
      | zero =>
        have hb : b = false := by
          have := h 0 (by simp)
          cases b
          · rfl
          · simp at this
        subst hb
        have := ih 0 (Nat.zero_le _) (fun j hj => by have := h (j + 1) (by simpa using hj); simpa using this)
        simp at this ⊢; omega
      | succ k =>
        have hb : b = true := by
          have := h 0 (by simp)
          simpa using this
        subst hb
        have := ih k (by simpa using hk) (fun j hj => by have := h (j + 1) (by simpa using hj); simpa using this)
        simp at this ⊢; omega
  have bspec : ∀ {l : List (Nat × AV)}, p.baseB l = true → ∀ k y, get l k = some y → (∀ q ∈ p.cre, y.no q.2 = true) ∧ ∀ q ∈ p.ki, y.noO q.2 = true := by
    intro l
    induction l with
    | nil => intro _ k y h; simp [get] at h
    | cons z l ih =>
      obtain ⟨j, v⟩ := z
      intro h k y hy
      simp only [Pl.baseB, Bool.and_eq_true, List.all_eq_true] at h
      rw [get_cons] at hy
      by_cases hj : j = k
      · rw [if_pos hj] at hy; cases hy; exact ⟨h.1.1, h.1.2⟩
      · rw [if_neg hj] at hy; exact ih h.2 k y hy
  have ancL : ∀ {listed : Array Bool}, ClosedL ops listed → ∀ i, i < ops.size → (∀ j ∈ predsB ops i, listed.getD j false = true) → ∀ a ∈ p.anc i, listed.getD a false = true := by
    intro listed hc i
    induction i using Nat.strongRecOn with
    | ind i ih =>
      intro hi hp a ha
      have h1 := List.all_eq_true.1 (List.all_eq_true.1 hA i (by simpa using hi)) a ha
      simp only [Bool.or_eq_true, List.contains_iff_mem, List.any_eq_true] at h1
      rcases h1 with h1 | ⟨q, hq, h1⟩
      · exact hp a h1
      · obtain ⟨o, ho, ed, he, hb, rfl⟩ := mem_preds hq
        have hlt := hedge i o ho ed he hb
        refine ih ed.on hlt (by omega) (fun j hj => ?_) a h1
        obtain ⟨o', ho', ed', he', hb', rfl⟩ := mem_preds hj
        exact hc ed.on o' (hp _ hq) ho' ed' he' hb'
  have ancLd : ∀ {listed : Array Bool}, listed.size = ops.size → ClosedL ops listed → ∀ i, listed.getD i false = true → ∀ a ∈ p.anc i, listed.getD a false = true := by
    intro listed hsz hc i hi
    have hlt : i < ops.size := by
      rcases Nat.lt_or_ge i ops.size with h | h
      · exact h
      · rw [← hsz] at h; simp [Nat.not_lt.2 h] at hi
    refine ancL hc i hlt (fun j hj => ?_)
    obtain ⟨o, ho, ed, he, hb, rfl⟩ := mem_preds hj
    exact hc i o hi ho ed he hb
  intro fuel
  induction fuel with
  | zero =>
    intro listed a w e S hsz hc hcl r hge hb hs hcr
    exfalso
    have h1 := hge m (Nat.le_refl _)
    have hls : m < listed.size := by omega
    have : false ∈ listed.toList := by
      simp [hls] at h1
      exact List.mem_iff_getElem.2 ⟨m, by simpa using hls, by simpa using h1⟩
    have := List.count_pos_iff.2 this
    omega
  | succ fuel ih =>
    intro listed a w e S hsz hc hcl r hge hb hs hcr
    by_cases hall : ∀ j, j < m → listed.getD j false = true
    · -- all that is drawn is done
      have hlt : ∀ j, j < ops.size → (listed.getD j false = true ↔ j < m) := fun j hj => by
        constructor
        · intro h
          rcases Nat.lt_or_ge j m with h1 | h1
          · exact h1
          · rw [hge j h1] at h; cases h
        · exact hall j
      have hcount : listed.toList.count false + m = ops.size := by
        have := cnt listed.toList m (by simp; omega) (fun j hj => by
          have hjl : j < listed.size := by simpa using hj
          have := hlt j (by omega)
          simp [hjl] at this ⊢
          exact this)
        simpa [hsz] using this
      refine any_tail ht hedge (fuel + 1) m listed a w (by omega) (Nat.le_refl _) hsz hlt ?_
      rw [hC (fun e => listed.getD e false) (fun _ => true) (fun e he => hall e (hE e he))] at r
      refine hfin e a w (r.less (fun k y hk => ?_) (fun h => h))
      rcases finS_get hk with ⟨i, hi⟩ | h
      · obtain ⟨hi, he⟩ := killD_get hi
        have hil : i < D.length := by
          rcases Nat.lt_or_ge i D.length with h | h
          · exact h
          · rw [List.getElem?_eq_none h] at hi; cases hi
        exact hs i k y (hall i (by omega)) hi (fun q hq _ => List.all_eq_true.1 he q hq)
      · exact hb k y h
    -- what may come up now is drawn
    have hlow : ∀ i ∈ Region.ready .any ops listed, i < m := by
      intro i hi
      rw [mem_ready] at hi
      obtain ⟨h0, o, ho, hpre⟩ := hi
      rcases Nat.lt_or_ge i m with h | h
      · exact h
      · exfalso
        have hlt : i < ops.size := (Array.getElem?_eq_some_iff.1 ho).1
        rcases Nat.eq_or_lt_of_le h with h | h
        · subst h
          refine hall (fun j hj => ?_)
          have hc := hcov j hj
          rw [List.contains_iff_mem] at hc
          refine ancs_listed hcl f m (fun q hq => ?_) j hc
          obtain ⟨o', ho', ed, he, hbb, rfl⟩ := mem_preds hq
          rw [ho] at ho'; cases ho'
          exact hpre ed he hbb
        · have hc := hch (i - m - 1) (by omega)
          rw [show m + 1 + (i - m - 1) = i by omega, show m + (i - m - 1) = i - 1 by omega, List.contains_iff_mem] at hc
          obtain ⟨o', ho', ed, he, hbb, hon⟩ := mem_preds hc
          rw [ho] at ho'; cases ho'
          have := hpre ed he hbb
          rw [hon, hge (i - 1) (by omega)] at this
          cases this
    refine ⟨fun hr => ?_, fun i hi => ?_⟩
    · exfalso
      refine hall (fun j => ?_)
      induction j using Nat.strongRecOn with
      | ind j ihj =>
        intro hj
        cases hl : listed.getD j true with
        | true =>
          have : j < listed.size := by omega
          simp [this] at hl ⊢
          exact hl
        | false =>
          exfalso
          have hmem : j ∈ Region.ready .any ops listed := by
            rw [mem_ready]
            refine ⟨hl, ops[j], by simp [show j < ops.size by omega], fun e he hbb => ?_⟩
            have h1 := hedge j ops[j] (by simp [show j < ops.size by omega]) e he hbb
            exact ihj e.on h1 (by omega)
          rw [hr] at hmem; cases hmem
    · have him := hlow i hi
      rw [mem_ready] at hi
      obtain ⟨h0, o, ho, hpre⟩ := hi
      have hlt : i < ops.size := (Array.getElem?_eq_some_iff.1 ho).1
      have hif : listed.getD i false = false := by
        have : i < listed.size := by omega
        simp [this] at h0 ⊢
        exact h0
      have hlf : listed.toList[i]? = some false := by
        have : i < listed.size := by omega
        simp [this] at h0 ⊢
        exact h0
      have hpl : ∀ j ∈ predsB ops i, listed.getD j false = true := by
        intro j hj
        obtain ⟨o', ho', ed, he, hb', rfl⟩ := mem_preds hj
        rw [ho] at ho'
        cases ho'
        exact hpre ed he hb'
      have hanc := ancL hcl i hlt hpl
      obtain ⟨x, hx, hcre, hst⟩ := hstep i o him ho
      unfold wpOp
      simp only [ho]
      have hhi : ∀ q, i ∈ p.anc q → listed.getD q false = false := fun q hq => by
        cases hb : listed.getD q false with
        | false => rfl
        | true => rw [ancLd hsz hcl q hb i hq] at hif; cases hif
      have hav : ∀ k y, get (availX p i (D.take i) o.after.toList base) k = some y → get S k = some y := by
        intro k y hk
        rcases availX_get hk with ⟨ed, h1, h2, h3, h5⟩ | h
        · have h4 : D[ed.on]? = some (some k, y) := by
            rw [List.getElem?_take] at h3
            split at h3
            · exact h3
            · cases h3
          refine hs ed.on k y (hpre ed (by simpa using h1) h2) h4 (fun q hq hql => ?_)
          have h6 := List.all_eq_true.1 h5 q hq
          simp only [Bool.or_eq_true, List.contains_iff_mem] at h6
          rcases h6 with (h6 | h6) | h6
          · exact h6
          · have := Nat.eq_of_beq_eq_true h6
            rw [← this, hif] at hql; cases hql
          · rw [ancLd hsz hcl q.1 hql i h6] at hif; cases hif
        · exact hb k y h
      have hset : ∀ j, j ≠ i → (listed.setIfInBounds i true).getD j false = listed.getD j false := fun j hj => getD_set_ne false (Ne.symm hj)
      have hseti : (listed.setIfInBounds i true).getD i false = true := by
        have : i < listed.size := by omega
        simp [this]
      have hphn : (if i ∈ p.E then C (setM (fun e => listed.getD e false) i) else C (fun e => listed.getD e false)) = C (fun e => (listed.setIfInBounds i true).getD e false) := by
        have h1 : C (setM (fun e => listed.getD e false) i) = C (fun e => (listed.setIfInBounds i true).getD e false) := by
          congr 1; funext k; unfold setM
          by_cases hk : k = i
          · rw [if_pos hk, hk, hseti]
          · rw [if_neg hk, hset k hk]
        by_cases hi : i ∈ p.E
        · rw [if_pos hi, h1]
        · rw [if_neg hi]
          exact hC _ _ (fun e he => (hset e (fun h => hi (h ▸ he))).symm)
      refine hst (fun e => listed.getD e false) hanc hhi hif e a w S _ Q r hav (fun k y hy q hq hqi => hcr k y hy q hq (by rw [hqi]; exact hif)) (fun e' a' w' S' r' hu => ?_)
      refine ih (listed.setIfInBounds i true) a' w' e' S' (by simpa using hsz) ?_ ?_ (by rw [← hphn]; exact r') (fun j hj => by rw [hset j (by omega)]; exact hge j hj) (fun k y hk => ?_) (fun j d y hj hy hq => ?_) (fun k y hy q hq hql => ?_)
      · rw [Array.toList_setIfInBounds]
        have hlt' : i < listed.toList.length := by simpa using (by omega : i < listed.size)
        have hg : listed.toList[i] = false := by
          have := List.getElem?_eq_getElem hlt'
          rw [hlf] at this
          simpa using this.symm
        rw [List.count_set hlt', hg, hc]
        simp
      · intro j o' hj ho' ed he hb'
        by_cases hji : j = i
        · subst hji
          rw [ho] at ho'; cases ho'
          have := hpre ed he hb'
          by_cases h : ed.on = j
          · rw [h]; exact hseti
          · rw [hset _ h]; exact this
        · rw [hset j hji] at hj
          have := hcl j o' hj ho' ed he hb'
          by_cases h : ed.on = i
          · rw [h]; exact hseti
          · rw [hset _ h]; exact this
      · refine hu.2.1 k y (fun h => ?_) (hb k y hk) (fun q hq _ => (bspec hbse k y hk).2 q hq)
        rw [hbase i o k him ho h] at hk; cases hk
      · by_cases hji : j = i
        · subst hji
          rw [hx] at hy
          simp only [Option.some.injEq, Prod.mk.injEq] at hy
          rw [← hy.2]
          exact hu.1 d hy.1
        · rw [hset j hji] at hj
          have hold := hs j d y hj hy (fun q hqk hql => hq q hqk (by
            by_cases h : q.1 = i
            · rw [h]; exact hseti
            · rw [hset _ h]; exact hql))
          refine hu.2.1 d y (fun h => ?_) hold (fun q hqk hqi => hq q hqk (by rw [hqi]; exact hseti))
          have hjl : j < m := by
            rw [← hD]
            rcases Nat.lt_or_ge j D.length with h | h
            · exact h
            · rw [List.getElem?_eq_none h] at hy; cases hy
          obtain ⟨x', hx', _⟩ := hstep j ops[j] hjl (by simp [show j < ops.size by omega])
          rw [hx'] at hy
          simp only [Option.some.injEq, Prod.mk.injEq] at hy
          exact hji (hdist j i ops[j] o d hjl him (by simp [show j < ops.size by omega]) ho hy.1 h)
      · have hqi : q.1 ≠ i := fun h => by rw [h, hseti] at hql; cases hql
        rw [hset _ hqi] at hql
        rcases hu.2.2 k y hy with ⟨_, rfl⟩ | h | rfl
        · have h6 := List.all_eq_true.1 hcre q hq
          simp only [Bool.or_eq_true, List.contains_iff_mem] at h6
          rcases h6 with (h6 | h6) | h6
          · exact absurd (Nat.eq_of_beq_eq_true h6) hqi
          · rw [hanc q.1 h6] at hql; cases hql
          · exact h6
        · exact hcr k y h q hq hql
        · rfl

/-- What is asked of the plan alone, where a tail follows. -/
def Pl.fineT (p : Pl) (ops : Array Oper) (base : List (Nat × AV)) (m : Nat) : Bool :=
  p.ancB ops && p.baseB base && (p.E.all fun e => Nat.blt e m)

/-- The first m operations of a drawn region come in any order, and turn memory; the rest follows in its order. -/
theorem C_drawMT (p : Pl) (f m : Nat) {id : Nat} {Q : Exit → St → Prop} {s base : List (Nat × AV)} {c : List Ch} (C : (Nat → Bool) → List Ch) (hb : eraseD (ops.toList.take m) s = some base) (hchk : chkD base 0 [] (ops.toList.take m) = true) (hed : edgesB ops = true)
    (ht : tailB ops f m = true) (hfine : p.fineT ops base m = true) (hC : ∀ L L' : Nat → Bool, (∀ e ∈ p.E, L e = L' e) → C L = C L') (h0 : C (fun _ => false) = c)
    (h : SymM X n ops p base C (fun s => SymO X n ops (ops.toList.drop m) s (fun s => Q .normal s)) (ops.toList.take m) []) : SymC X n (.region id ops true) ⟨s, c⟩ Q := by
  intro e a w r
  have hbs : ∀ k y, get base k = some y → get s k = some y := fun k y hk => eraseD_get hb hk
  simp only [Pl.fineT, Bool.and_eq_true] at hfine
  obtain ⟨⟨g1, g2⟩, g3⟩ := hfine
  obtain ⟨D, _, hl, hK, hs⟩ := h.plan
  obtain ⟨c1, c2⟩ := chkD_spec hchk
  have hbel : Below w.heap.size w { w with drawn := w.drawn + 1 } := ⟨rfl, rfl, rfl, Nat.le_refl _, fun _ _ => rfl⟩
  have hm : m < ops.size := by
    unfold tailB at ht
    simp only [Bool.and_eq_true] at ht
    have h1 := ht.1.1
    simp [Nat.blt] at h1; omega
  have hEs : ∀ e ∈ p.E, e < m := fun e he => by
    have := List.all_eq_true.1 g3 e he
    simp [Nat.blt] at this; omega
  have htk : ∀ (i : Nat) (o : Oper), i < m → ops[i]? = some o → (ops.toList.take m)[i]? = some o := fun i o him ho => by rw [List.getElem?_take, if_pos him]; simpa using ho
  have hrep : ∀ i, (Array.replicate ops.size false).getD i false = false := fun i => by
    rcases Nat.lt_or_ge i ops.size with h | h
    · simp [h]
    · simp [Nat.not_lt.2 h]
  refine wp_region_any X.wide ?_
  refine any_of_MT (X := X) (Q := concX X n Q) (n := n) (p := p) (base := base) (C := C) (D := D) (f := f) (m := m) ht hEs hC g1 g2 (by simp at hl; omega) (fun i o him ho => ?_) (fun i o ho => ?_) (fun i j o o' d him hjm hi hj => c2 i j o o' d (htk i o him hi) (htk j o' hjm hj)) (fun i o d him ho hd => ((c1 i o (htk i o him ho)).2 d hd).1)
    (fun e a w r => hK e a w (concX X n Q) r fun e' st' _ _ hk hr => ⟨e', st', hr, hk⟩) _ _ a _ e base (by simp) (by simp) (fun j o hj => by rw [hrep] at hj; cases hj) ?_ (fun j hj => hrep j) (fun k y hk => hk) (fun i d x hi => by rw [hrep] at hi; cases hi) ?_
  · have := hs i o (htk i o him ho)
    simpa using this
  · intro ed he hb'
    have hi : i < ops.toList.length := by
      have := (Array.getElem?_eq_some_iff.1 ho).1
      simpa using this
    have h1 := List.all_eq_true.1 hed i (List.mem_range.2 hi)
    have h2 := List.all_eq_true.1 h1 ed.on (by
      unfold predsB
      rw [show ops.toList[i]? = some o by simpa using ho]
      exact List.mem_map.2 ⟨ed, List.mem_filter.2 ⟨by simpa using he, hb'⟩, rfl⟩)
    simp [Nat.blt] at h2; omega
  · have h1 : C (fun e => (Array.replicate ops.size false).getD e false) = C (fun _ => false) := hC _ _ (fun e _ => hrep e)
    rw [h1, h0]
    exact (r.below hbel).less hbs (fun h => h)
  · intro k y hy q hq _
    have : ∀ {l : List (Nat × AV)}, p.baseB l = true → get l k = some y → y.no q.2 = true := by
      intro l
      induction l with
      | nil => intro _ h; simp [get] at h
      | cons z l ih =>
        obtain ⟨j, v⟩ := z
        intro h hy
        simp only [Pl.baseB, Bool.and_eq_true, List.all_eq_true] at h
        rw [get_cons] at hy
        by_cases hj : j = k
        · rw [if_pos hj] at hy; cases hy; exact h.1.1 q hq
        · rw [if_neg hj] at hy; exact ih h.2 hy
    exact this g2 hy
end
end Go.Sy

/- The server's parts: the gate of a new server. -/
set_option linter.unusedSimpArgs false
set_option linter.unusedVariables false
set_option maxRecDepth 100000
namespace Go.Proofs
open Go.Sy Go.Lib

theorem admin_c : FnP Tryz.prog 111 [] (· = .agg [I64 1040, I64 1048576, I64 1048576, I64 0, I64 0, I64 32, I64 2, I64 0, I64 0]) := by
  refine FnP.intro Tryz.tabOK Tryz.wide_ Tryz.func111 rfl (by decide) rfl (fun X => ?_)
  repeat (first | refine sc rfl ?_ | refine so rfl ?_ | refine sb rfl ?_)
  exact ⟨_, rfl, rfl, rfl⟩
def CG (b a1 a2 a3 : List AV) (x4 x9 x14 x19 : Bool) : List Ch :=
  (bif x19 then [.box 22 177 a3] else []) ++ ((bif x14 then [.box 17 177 a2] else []) ++ ((bif x9 then [.box 12 177 a1] else []) ++ (bif x4 then [.box 7 175 b] else [])))
def PG1 : Pl := ⟨[[], [], [], [], [], [4], [4], [], [], [4], [9], [9], [], [], [4, 9], [14], [14], [], [], [4, 9, 14], [19], [19], [], [], []], [4, 9, 14, 19], [(4, 7), (9, 12), (14, 17), (19, 22)], []⟩
theorem gatNew_A (u r b m s o cn st de : Int) : FnA Tryz.prog 125 [.agg [I64 u, I64 r, I64 b, I64 m, I64 s, I64 o, I64 cn, I64 st, I64 de]] [] (fun x cs' => ∃ g, x = PT g 0 ∧ cs' = [gatA g (wi r) (wi b) (wi b) (wi m) 0 (wi s) 0 (wi o) 0 false]) := by
  refine FnA.intro Tryz.tabOK Tryz.wide_ Tryz.func125 rfl (by decide) rfl (fun X => ?_)
  repeat (first | refine sc rfl ?_ | refine so rfl ?_ | refine sb rfl ?_)
  refine C_le _ (Le.freezebox 1 rfl rfl rfl) ?_
  refine C_drawMT PG1 20 22 (fun L => CG [I64 (wi r), I64 (wi b), I64 (wi b)] [I64 (wi m), I64 0] [I64 (wi s), I64 0] [I64 (wi o), I64 0] (L 4) (L 9) (L 14) (L 19)) rfl (by kernel_rfl) (by kernel_rfl) (by kernel_rfl) (by kernel_rfl) (fun L L' h => by simp only [h 4 (by decide), h 9 (by decide), h 14 (by decide), h 19 (by decide)]) rfl ?_
  repeat (refine sm rfl ⟨trivial, ?_⟩)
  refine SM (.bp 7 0) rfl (fun L h1 h2 h3 => ?_) ?_
  · show StepX _ _ _ _ _ (CG [I64 (wi r), I64 (wi b), I64 (wi b)] [I64 (wi m), I64 0] [I64 (wi s), I64 0] [I64 (wi o), I64 0] (L 4) (L 9) (L 14) (L 19)) (CG [I64 (wi r), I64 (wi b), I64 (wi b)] [I64 (wi m), I64 0] [I64 (wi s), I64 0] [I64 (wi o), I64 0] true (L 9) (L 14) (L 19)) _ _ _
    rw [show L 4 = false from h3, h2 9 (show (4 : Nat) ∈ PG1.anc 9 by decide), h2 14 (show (4 : Nat) ∈ PG1.anc 14 by decide), h2 19 (show (4 : Nat) ∈ PG1.anc 19 by decide)]
    exact X_callNew (bktNew_A r b) rfl rfl rfl rfl (show ((4, 7) : Nat × Nat) ∈ PG1.cre by decide) rfl rfl
  repeat (refine sm rfl ⟨trivial, ?_⟩)
  refine SM (.agg [I64 (wi r), I64 (wi b), I64 (wi b)]) rfl (fun L h1 h2 h3 => ?_) ?_
  · show StepX _ _ _ _ _ (CG [I64 (wi r), I64 (wi b), I64 (wi b)] [I64 (wi m), I64 0] [I64 (wi s), I64 0] [I64 (wi o), I64 0] (L 4) (L 9) (L 14) (L 19)) (CG [I64 (wi r), I64 (wi b), I64 (wi b)] [I64 (wi m), I64 0] [I64 (wi s), I64 0] [I64 (wi o), I64 0] (L 4) (L 9) (L 14) (L 19)) _ _ _
    rw [h1 4 (show (4 : Nat) ∈ PG1.anc 6 by decide)]
    cases L 9 <;> cases L 14 <;> cases L 19 <;> exact X_still rfl rfl rfl
  repeat (refine sm rfl ⟨trivial, ?_⟩)
  refine SM (.bp 12 0) rfl (fun L h1 h2 h3 => ?_) ?_
  · show StepX _ _ _ _ _ (CG [I64 (wi r), I64 (wi b), I64 (wi b)] [I64 (wi m), I64 0] [I64 (wi s), I64 0] [I64 (wi o), I64 0] (L 4) (L 9) (L 14) (L 19)) (CG [I64 (wi r), I64 (wi b), I64 (wi b)] [I64 (wi m), I64 0] [I64 (wi s), I64 0] [I64 (wi o), I64 0] (L 4) true (L 14) (L 19)) _ _ _
    rw [show L 9 = false from h3, h1 4 (show (4 : Nat) ∈ PG1.anc 9 by decide), h2 14 (show (9 : Nat) ∈ PG1.anc 14 by decide), h2 19 (show (9 : Nat) ∈ PG1.anc 19 by decide)]
    exact X_callNew (accNew_A m) rfl rfl rfl rfl (show ((9, 12) : Nat × Nat) ∈ PG1.cre by decide) rfl rfl
  repeat (refine sm rfl ⟨trivial, ?_⟩)
  refine SM (.agg [I64 (wi m), I64 0]) rfl (fun L h1 h2 h3 => ?_) ?_
  · show StepX _ _ _ _ _ (CG [I64 (wi r), I64 (wi b), I64 (wi b)] [I64 (wi m), I64 0] [I64 (wi s), I64 0] [I64 (wi o), I64 0] (L 4) (L 9) (L 14) (L 19)) (CG [I64 (wi r), I64 (wi b), I64 (wi b)] [I64 (wi m), I64 0] [I64 (wi s), I64 0] [I64 (wi o), I64 0] (L 4) (L 9) (L 14) (L 19)) _ _ _
    rw [h1 9 (show (9 : Nat) ∈ PG1.anc 11 by decide)]
    cases L 4 <;> cases L 14 <;> cases L 19 <;> exact X_still rfl rfl rfl
  repeat (refine sm rfl ⟨trivial, ?_⟩)
  refine SM (.bp 17 0) rfl (fun L h1 h2 h3 => ?_) ?_
  · show StepX _ _ _ _ _ (CG [I64 (wi r), I64 (wi b), I64 (wi b)] [I64 (wi m), I64 0] [I64 (wi s), I64 0] [I64 (wi o), I64 0] (L 4) (L 9) (L 14) (L 19)) (CG [I64 (wi r), I64 (wi b), I64 (wi b)] [I64 (wi m), I64 0] [I64 (wi s), I64 0] [I64 (wi o), I64 0] (L 4) (L 9) true (L 19)) _ _ _
    rw [show L 14 = false from h3, h1 4 (show (4 : Nat) ∈ PG1.anc 14 by decide), h1 9 (show (9 : Nat) ∈ PG1.anc 14 by decide), h2 19 (show (14 : Nat) ∈ PG1.anc 19 by decide)]
    exact X_callNew (accNew_A s) rfl rfl rfl rfl (show ((14, 17) : Nat × Nat) ∈ PG1.cre by decide) rfl rfl
  repeat (refine sm rfl ⟨trivial, ?_⟩)
  refine SM (.agg [I64 (wi s), I64 0]) rfl (fun L h1 h2 h3 => ?_) ?_
  · show StepX _ _ _ _ _ (CG [I64 (wi r), I64 (wi b), I64 (wi b)] [I64 (wi m), I64 0] [I64 (wi s), I64 0] [I64 (wi o), I64 0] (L 4) (L 9) (L 14) (L 19)) (CG [I64 (wi r), I64 (wi b), I64 (wi b)] [I64 (wi m), I64 0] [I64 (wi s), I64 0] [I64 (wi o), I64 0] (L 4) (L 9) (L 14) (L 19)) _ _ _
    rw [h1 14 (show (14 : Nat) ∈ PG1.anc 16 by decide)]
    cases L 4 <;> cases L 9 <;> cases L 19 <;> exact X_still rfl rfl rfl
  repeat (refine sm rfl ⟨trivial, ?_⟩)
  refine SM (.bp 22 0) rfl (fun L h1 h2 h3 => ?_) ?_
  · show StepX _ _ _ _ _ (CG [I64 (wi r), I64 (wi b), I64 (wi b)] [I64 (wi m), I64 0] [I64 (wi s), I64 0] [I64 (wi o), I64 0] (L 4) (L 9) (L 14) (L 19)) (CG [I64 (wi r), I64 (wi b), I64 (wi b)] [I64 (wi m), I64 0] [I64 (wi s), I64 0] [I64 (wi o), I64 0] (L 4) (L 9) (L 14) true) _ _ _
    rw [show L 19 = false from h3, h1 4 (show (4 : Nat) ∈ PG1.anc 19 by decide), h1 9 (show (9 : Nat) ∈ PG1.anc 19 by decide), h1 14 (show (14 : Nat) ∈ PG1.anc 19 by decide)]
    exact X_callNew (accNew_A o) rfl rfl rfl rfl (show ((19, 22) : Nat × Nat) ∈ PG1.cre by decide) rfl rfl
  repeat (refine sm rfl ⟨trivial, ?_⟩)
  refine SM (.agg [I64 (wi o), I64 0]) rfl (fun L h1 h2 h3 => ?_) ?_
  · show StepX _ _ _ _ _ (CG [I64 (wi r), I64 (wi b), I64 (wi b)] [I64 (wi m), I64 0] [I64 (wi s), I64 0] [I64 (wi o), I64 0] (L 4) (L 9) (L 14) (L 19)) (CG [I64 (wi r), I64 (wi b), I64 (wi b)] [I64 (wi m), I64 0] [I64 (wi s), I64 0] [I64 (wi o), I64 0] (L 4) (L 9) (L 14) (L 19)) _ _ _
    rw [h1 19 (show (19 : Nat) ∈ PG1.anc 21 by decide)]
    cases L 4 <;> cases L 9 <;> cases L 14 <;> exact X_still rfl rfl rfl
  repeat (refine sm rfl ⟨trivial, ?_⟩)
  refine sm rfl ?_
  show SymO _ _ _ _ ⟨_, [.box 22 177 [I64 (wi o), I64 0], .box 17 177 [I64 (wi s), I64 0], .box 12 177 [I64 (wi m), I64 0], .box 7 175 [I64 (wi r), I64 (wi b), I64 (wi b)]]⟩ _
  iterate 3 (first | refine so rfl ?_ | refine sb rfl ?_)
  refine O_absb 2 rfl rfl rfl (fun g => ?_)
  repeat (first | refine sc rfl ?_ | refine so rfl ?_ | refine sb rfl ?_)
  first
    | exact ⟨_, [_], _, rfl, pickA_perm (is := [0]) (As := [_]) rfl, rfl, g, rfl, rfl⟩
    | exact ⟨_, [_], _, rfl, pickA_perm (is := [1]) (As := [_]) rfl, rfl, g, rfl, rfl⟩
    | exact ⟨_, [_], _, rfl, pickA_perm (is := [2]) (As := [_]) rfl, rfl, g, rfl, rfl⟩
    | exact ⟨_, [_], _, rfl, pickA_perm (is := [3]) (As := [_]) rfl, rfl, g, rfl, rfl⟩
    | exact ⟨_, [_], _, rfl, pickA_perm (is := [4]) (As := [_]) rfl, rfl, g, rfl, rfl⟩
end Go.Proofs

/- A new server. -/
set_option linter.unusedSimpArgs false
set_option linter.unusedVariables false
set_option maxRecDepth 100000
namespace Go.Proofs
open Go.Sy Go.Lib

abbrev ikz : Int → Value := fun i => .int .i64 i
noncomputable abbrev iKz : Key Tryz.prog 3 Int := intKey Tryz.underlying3
theorem sameBits_ikz (k : Int) : Instr.sameBits 10000 (iKz.kv k) (iKz.kv k) = true := by
  show Instr.sameBits 10000 (.int .i64 k) (.int .i64 k) = true
  simp [Instr.sameBits]
abbrev z66 : List AV := U64 0 :: (z63 ++ [I64 0, I64 0])
abbrev NS : AV := .v (.slice none 0 0)
abbrev NM : AV := .v (.map none)
/-- A new server's cells: tags, dice, connections, flows, book, tenants, now. -/
abbrev srvA (s mg tm : Nat) (now : Int) : Abs := boxA s 127 (PT mg 0 :: (z66 ++ [NS, NM, NS, NS, NS, NS, NS, NS, NS, NS, NS, NS, NM, .v (.map (some tm)), I64 now]))
abbrev tenA (h g : Nat) : Abs := boxA h 132 [PT g 0, .v (.pointer none)]
abbrev tenM (tm h : Nat) : Abs := mapA ikz (some tm) [((0 : Int), PT h 0)]
theorem srvNew_A (x : Int) : FnA Tryz.prog 78 [U64 x] [] (fun r cs' => ∃ s mg tm h g c d, r = PT s 0 ∧ cs' = [srvA s mg tm 0, tenM tm h, tenA h g, gatA g 1048576 1048576 1048576 0 0 0 0 32 0 false, mac1 mg c, diceA d x 1 0]) := by
  refine FnA.intro Tryz.tabOK Tryz.wide_ Tryz.func78 rfl (by decide) rfl (fun X => ?_)
  repeat (first | refine sc rfl ?_ | refine so rfl ?_ | refine sb rfl ?_)
  refine O_callA [] macNew_A (by rfl) (by rfl) (by rfl) (by rfl) (by rfl) ?_
  rintro r' cs' ⟨mg, rfl, rfl⟩
  repeat (first | refine sc rfl ?_ | refine so rfl ?_ | refine sb rfl ?_)
  refine O_makeMap ikz rfl (fun tm => ?_)
  repeat (first | refine sc rfl ?_ | refine so rfl ?_ | refine sb rfl ?_)
  refine O_call admin_c (by rfl) (by rfl) (by rfl) (by rfl) (fun r' hr => ?_)
  subst hr
  repeat (first | refine sc rfl ?_ | refine so rfl ?_ | refine sb rfl ?_)
  refine O_callA [] (gatNew_A 1040 1048576 1048576 0 0 32 2 0 0) (by rfl) (by rfl) (by rfl) (by rfl) (by rfl) ?_
  rintro r' cs' ⟨g, rfl, rfl⟩
  iterate 2 (first | refine so rfl ?_ | refine sb rfl ?_)
  refine O_absb 10 rfl rfl rfl (fun h => ?_)
  repeat (first | refine sc rfl ?_ | refine so rfl ?_ | refine sb rfl ?_)
  refine O_Xn (X_ins 2 iKz Tryz.underlying125 sameBits_ikz rfl rfl rfl rfl rfl rfl) ?_
  repeat (first | refine sc rfl ?_ | refine so rfl ?_ | refine sb rfl ?_)
  refine O_callA [] diceNew_A (by rfl) (by rfl) (by rfl) (by rfl) (by rfl) ?_
  rintro r' cs' ⟨d, rfl, rfl⟩
  repeat (first | refine sc rfl ?_ | refine so rfl ?_ | refine sb rfl ?_)
  first
    | refine O_callA [0] (dicePut_A d x) (by rfl) (by rfl) (by rfl) (by rfl) (by rfl) ?_
    | refine O_callA [1] (dicePut_A d x) (by rfl) (by rfl) (by rfl) (by rfl) (by rfl) ?_
    | refine O_callA [2] (dicePut_A d x) (by rfl) (by rfl) (by rfl) (by rfl) (by rfl) ?_
    | refine O_callA [3] (dicePut_A d x) (by rfl) (by rfl) (by rfl) (by rfl) (by rfl) ?_
    | refine O_callA [4] (dicePut_A d x) (by rfl) (by rfl) (by rfl) (by rfl) (by rfl) ?_
  rintro r' cs' ⟨rfl, rfl⟩
  repeat (first | refine sc rfl ?_ | refine so rfl ?_ | refine sb rfl ?_)
  first
    | refine O_callA [0, 0] (issue_A mg d x) (by rfl) (by rfl) (by rfl) (by rfl) (by rfl) ?_
    | refine O_callA [0, 1] (issue_A mg d x) (by rfl) (by rfl) (by rfl) (by rfl) (by rfl) ?_
    | refine O_callA [0, 2] (issue_A mg d x) (by rfl) (by rfl) (by rfl) (by rfl) (by rfl) ?_
    | refine O_callA [0, 3] (issue_A mg d x) (by rfl) (by rfl) (by rfl) (by rfl) (by rfl) ?_
    | refine O_callA [0, 4] (issue_A mg d x) (by rfl) (by rfl) (by rfl) (by rfl) (by rfl) ?_
    | refine O_callA [0, 5] (issue_A mg d x) (by rfl) (by rfl) (by rfl) (by rfl) (by rfl) ?_
    | refine O_callA [1, 0] (issue_A mg d x) (by rfl) (by rfl) (by rfl) (by rfl) (by rfl) ?_
    | refine O_callA [1, 1] (issue_A mg d x) (by rfl) (by rfl) (by rfl) (by rfl) (by rfl) ?_
    | refine O_callA [1, 2] (issue_A mg d x) (by rfl) (by rfl) (by rfl) (by rfl) (by rfl) ?_
    | refine O_callA [1, 3] (issue_A mg d x) (by rfl) (by rfl) (by rfl) (by rfl) (by rfl) ?_
    | refine O_callA [1, 4] (issue_A mg d x) (by rfl) (by rfl) (by rfl) (by rfl) (by rfl) ?_
    | refine O_callA [1, 5] (issue_A mg d x) (by rfl) (by rfl) (by rfl) (by rfl) (by rfl) ?_
    | refine O_callA [2, 0] (issue_A mg d x) (by rfl) (by rfl) (by rfl) (by rfl) (by rfl) ?_
    | refine O_callA [2, 1] (issue_A mg d x) (by rfl) (by rfl) (by rfl) (by rfl) (by rfl) ?_
    | refine O_callA [2, 2] (issue_A mg d x) (by rfl) (by rfl) (by rfl) (by rfl) (by rfl) ?_
    | refine O_callA [2, 3] (issue_A mg d x) (by rfl) (by rfl) (by rfl) (by rfl) (by rfl) ?_
    | refine O_callA [2, 4] (issue_A mg d x) (by rfl) (by rfl) (by rfl) (by rfl) (by rfl) ?_
    | refine O_callA [2, 5] (issue_A mg d x) (by rfl) (by rfl) (by rfl) (by rfl) (by rfl) ?_
    | refine O_callA [3, 0] (issue_A mg d x) (by rfl) (by rfl) (by rfl) (by rfl) (by rfl) ?_
    | refine O_callA [3, 1] (issue_A mg d x) (by rfl) (by rfl) (by rfl) (by rfl) (by rfl) ?_
    | refine O_callA [3, 2] (issue_A mg d x) (by rfl) (by rfl) (by rfl) (by rfl) (by rfl) ?_
    | refine O_callA [3, 3] (issue_A mg d x) (by rfl) (by rfl) (by rfl) (by rfl) (by rfl) ?_
    | refine O_callA [3, 4] (issue_A mg d x) (by rfl) (by rfl) (by rfl) (by rfl) (by rfl) ?_
    | refine O_callA [3, 5] (issue_A mg d x) (by rfl) (by rfl) (by rfl) (by rfl) (by rfl) ?_
    | refine O_callA [4, 0] (issue_A mg d x) (by rfl) (by rfl) (by rfl) (by rfl) (by rfl) ?_
    | refine O_callA [4, 1] (issue_A mg d x) (by rfl) (by rfl) (by rfl) (by rfl) (by rfl) ?_
    | refine O_callA [4, 2] (issue_A mg d x) (by rfl) (by rfl) (by rfl) (by rfl) (by rfl) ?_
    | refine O_callA [4, 3] (issue_A mg d x) (by rfl) (by rfl) (by rfl) (by rfl) (by rfl) ?_
    | refine O_callA [4, 4] (issue_A mg d x) (by rfl) (by rfl) (by rfl) (by rfl) (by rfl) ?_
    | refine O_callA [4, 5] (issue_A mg d x) (by rfl) (by rfl) (by rfl) (by rfl) (by rfl) ?_
    | refine O_callA [5, 0] (issue_A mg d x) (by rfl) (by rfl) (by rfl) (by rfl) (by rfl) ?_
    | refine O_callA [5, 1] (issue_A mg d x) (by rfl) (by rfl) (by rfl) (by rfl) (by rfl) ?_
    | refine O_callA [5, 2] (issue_A mg d x) (by rfl) (by rfl) (by rfl) (by rfl) (by rfl) ?_
    | refine O_callA [5, 3] (issue_A mg d x) (by rfl) (by rfl) (by rfl) (by rfl) (by rfl) ?_
    | refine O_callA [5, 4] (issue_A mg d x) (by rfl) (by rfl) (by rfl) (by rfl) (by rfl) ?_
    | refine O_callA [5, 5] (issue_A mg d x) (by rfl) (by rfl) (by rfl) (by rfl) (by rfl) ?_
    | refine O_callA [6, 0] (issue_A mg d x) (by rfl) (by rfl) (by rfl) (by rfl) (by rfl) ?_
    | refine O_callA [6, 1] (issue_A mg d x) (by rfl) (by rfl) (by rfl) (by rfl) (by rfl) ?_
    | refine O_callA [6, 2] (issue_A mg d x) (by rfl) (by rfl) (by rfl) (by rfl) (by rfl) ?_
    | refine O_callA [6, 3] (issue_A mg d x) (by rfl) (by rfl) (by rfl) (by rfl) (by rfl) ?_
    | refine O_callA [6, 4] (issue_A mg d x) (by rfl) (by rfl) (by rfl) (by rfl) (by rfl) ?_
    | refine O_callA [6, 5] (issue_A mg d x) (by rfl) (by rfl) (by rfl) (by rfl) (by rfl) ?_
  rintro r' cs' ⟨c, rfl, rfl⟩
  refine O_absb 3 rfl rfl rfl (fun s => ?_)
  repeat (first | refine sc rfl ?_ | refine so rfl ?_ | refine sb rfl ?_)
  first
    | exact ⟨_, [_, _, _, _, _, _], _, rfl, pickA_perm (is := [0, 2, 2, 2, 0, 0]) (As := [_, _, _, _, _, _]) rfl, rfl, s, mg, tm, h, g, c, d, rfl, rfl⟩
    | exact ⟨_, [_, _, _, _, _, _], _, rfl, pickA_perm (is := [0, 2, 3, 2, 0, 0]) (As := [_, _, _, _, _, _]) rfl, rfl, s, mg, tm, h, g, c, d, rfl, rfl⟩
    | exact ⟨_, [_, _, _, _, _, _], _, rfl, pickA_perm (is := [0, 3, 2, 2, 0, 0]) (As := [_, _, _, _, _, _]) rfl, rfl, s, mg, tm, h, g, c, d, rfl, rfl⟩
end Go.Proofs

/- The server's tick (no tenant but the admin). -/
set_option linter.unusedSimpArgs false
set_option linter.unusedVariables false
set_option maxRecDepth 100000
namespace Go.Proofs
open Go.Sy Go.Lib

theorem rep_np (e : Env) : Rep e (.v (.pointer none)) (.pointer none) := by simp only [Rep]
theorem srvTick_A (s mg tm h g : Nat) (now r b l m1 m2 s1 s2 o1 o2 : Int) (q : Bool) (hr : -1048576 ≤ r ∧ r ≤ 1048576 ∧ -1048576 ≤ l ∧ l ≤ 1048576) (hn : 0 ≤ now ∧ now ≤ 1000000) :
    FnA Tryz.prog 18 [PT s 0] [srvA s mg tm now, tenM tm h, tenA h g, gatA g r b l m1 m2 s1 s2 o1 o2 q] (fun x cs' => x = .tup [] ∧ cs' = [srvA s mg tm (now + 1), tenM tm h, tenA h g, gatA g r b (min (l + r) b) m1 m2 s1 s2 o1 o2 q]) := by
  refine FnA.intro Tryz.tabOK Tryz.wide_ Tryz.func18 rfl (by decide) rfl (fun X => ?_)
  repeat (first | refine sc rfl ?_ | refine so rfl ?_ | refine sb rfl ?_)
  refine O_Xd (X_ptrnil Tryz.underlying58 rfl rfl rfl) ?_
  repeat (first | refine sc rfl ?_ | refine so rfl ?_ | refine sb rfl ?_)
  refine C_false rfl rfl ?_
  repeat (first | refine sc rfl ?_ | refine so rfl ?_ | refine sb rfl ?_)
  first
    | refine O_loadP 0 (reads_box 81) rfl rfl rfl rfl rfl rfl ?_
    | refine O_loadP 1 (reads_box 81) rfl rfl rfl rfl rfl rfl ?_
    | refine O_loadP 2 (reads_box 81) rfl rfl rfl rfl rfl rfl ?_
    | refine O_loadP 3 (reads_box 81) rfl rfl rfl rfl rfl rfl ?_
    | refine O_loadP 4 (reads_box 81) rfl rfl rfl rfl rfl rfl ?_
  repeat (first | refine sc rfl ?_ | refine so rfl ?_ | refine sb rfl ?_)
  rw [w64 (x := now + 1) (by omega) (by omega)]
  first
    | refine O_Xn (X_storeP 0 (writes_box (by show 81 < 82; decide)) rfl rfl rfl rfl rfl rfl rfl) ?_
    | refine O_Xn (X_storeP 1 (writes_box (by show 81 < 82; decide)) rfl rfl rfl rfl rfl rfl rfl) ?_
    | refine O_Xn (X_storeP 2 (writes_box (by show 81 < 82; decide)) rfl rfl rfl rfl rfl rfl rfl) ?_
    | refine O_Xn (X_storeP 3 (writes_box (by show 81 < 82; decide)) rfl rfl rfl rfl rfl rfl rfl) ?_
    | refine O_Xn (X_storeP 4 (writes_box (by show 81 < 82; decide)) rfl rfl rfl rfl rfl rfl rfl) ?_
  repeat (first | refine sc rfl ?_ | refine so rfl ?_ | refine sb rfl ?_)
  refine C_loop (fun i : Nat => ⟨[(0, PT s 0), (13, I64 (i : Nat))], [.abs (srvA s mg tm (now + 1)), .abs (tenM tm h), .abs (tenA h g), .abs (gatA g r b (if i = 0 then l else min (l + r) b) m1 m2 s1 s2 o1 o2 q)]⟩) (fun i => i ≤ 9) (fun i => 9 - i) 0 (Nat.zero_le _) (Le.pick [0, 0, 0, 0] ⟨rfl, rfl, trivial⟩ rfl) ?_
  intro i hi
  repeat (first | refine sc rfl ?_ | refine so rfl ?_ | refine sb rfl ?_)
  refine C_if rfl (fun k1 => ?_) (fun k1 => ?_) <;> simp only [decide_eq_true_eq, decide_eq_false_iff_not, Bool.not_eq_true', Bool.not_eq_false', beq_iff_eq, beq_eq_false_iff_ne, bne_iff_ne, ne_eq, bne_eq_false_iff_eq, Decidable.not_not] at k1
  · have hil : i < 9 := by omega
    repeat (first | refine sc rfl ?_ | refine so rfl ?_ | refine sb rfl ?_)
    rcases Nat.eq_zero_or_pos i with rfl | hp
    · skip
      first
        | refine O_loadP 0 (reads_box 80) rfl rfl rfl rfl rfl rfl ?_
        | refine O_loadP 1 (reads_box 80) rfl rfl rfl rfl rfl rfl ?_
        | refine O_loadP 2 (reads_box 80) rfl rfl rfl rfl rfl rfl ?_
        | refine O_loadP 3 (reads_box 80) rfl rfl rfl rfl rfl rfl ?_
        | refine O_loadP 4 (reads_box 80) rfl rfl rfl rfl rfl rfl ?_
      repeat (first | refine sc rfl ?_ | refine so rfl ?_ | refine sb rfl ?_)
      first
        | refine O_Xd (X_look 1 (es := [((0 : Int), PT h 0)]) (z := .v (.pointer none)) iKz Tryz.underlying125 rfl rfl rep_np rfl rfl rfl rfl rfl rfl) ?_
        | refine O_Xd (X_look 0 (es := [((0 : Int), PT h 0)]) (z := .v (.pointer none)) iKz Tryz.underlying125 rfl rfl rep_np rfl rfl rfl rfl rfl rfl) ?_
      rw [show lookAV false (lookE (((0 : Nat) : Int)) [((0 : Int), PT h 0)]) (.v (.pointer none)) = PT h 0 from rfl]
      repeat (first | refine sc rfl ?_ | refine so rfl ?_ | refine sb rfl ?_)
      refine O_Xd (X_ptrnnil Tryz.underlying128 rfl rfl rfl) ?_
      repeat (first | refine sc rfl ?_ | refine so rfl ?_ | refine sb rfl ?_)
      refine C_true rfl rfl ?_
      repeat (first | refine sc rfl ?_ | refine so rfl ?_ | refine sb rfl ?_)
      first
        | refine O_loadP 0 (reads_box 0) rfl rfl rfl rfl rfl rfl ?_
        | refine O_loadP 1 (reads_box 0) rfl rfl rfl rfl rfl rfl ?_
        | refine O_loadP 2 (reads_box 0) rfl rfl rfl rfl rfl rfl ?_
        | refine O_loadP 3 (reads_box 0) rfl rfl rfl rfl rfl rfl ?_
        | refine O_loadP 4 (reads_box 0) rfl rfl rfl rfl rfl rfl ?_
      repeat (first | refine sc rfl ?_ | refine so rfl ?_ | refine sb rfl ?_)
      rw [if_pos rfl]
      first
        | refine O_callA [0] (gatTick_A g r b l m1 m2 s1 s2 o1 o2 q hr) (by rfl) (by rfl) (by rfl) (by rfl) (by rfl) ?_
        | refine O_callA [1] (gatTick_A g r b l m1 m2 s1 s2 o1 o2 q hr) (by rfl) (by rfl) (by rfl) (by rfl) (by rfl) ?_
        | refine O_callA [2] (gatTick_A g r b l m1 m2 s1 s2 o1 o2 q hr) (by rfl) (by rfl) (by rfl) (by rfl) (by rfl) ?_
        | refine O_callA [3] (gatTick_A g r b l m1 m2 s1 s2 o1 o2 q hr) (by rfl) (by rfl) (by rfl) (by rfl) (by rfl) ?_
        | refine O_callA [4] (gatTick_A g r b l m1 m2 s1 s2 o1 o2 q hr) (by rfl) (by rfl) (by rfl) (by rfl) (by rfl) ?_
      rintro r' cs' rfl
      repeat (first | refine sc rfl ?_ | refine so rfl ?_ | refine sb rfl ?_)
      refine ⟨1, by decide, by decide, ?_⟩
      first
        | exact Le.pick [1, 1, 1, 0] ⟨rfl, rfl, trivial⟩ rfl
        | exact Le.pick [0, 0, 0, 0] ⟨rfl, rfl, trivial⟩ rfl
    · skip
      first
        | refine O_loadP 0 (reads_box 80) rfl rfl rfl rfl rfl rfl ?_
        | refine O_loadP 1 (reads_box 80) rfl rfl rfl rfl rfl rfl ?_
        | refine O_loadP 2 (reads_box 80) rfl rfl rfl rfl rfl rfl ?_
        | refine O_loadP 3 (reads_box 80) rfl rfl rfl rfl rfl rfl ?_
        | refine O_loadP 4 (reads_box 80) rfl rfl rfl rfl rfl rfl ?_
      repeat (first | refine sc rfl ?_ | refine so rfl ?_ | refine sb rfl ?_)
      first
        | refine O_Xd (X_look 1 (es := [((0 : Int), PT h 0)]) (z := .v (.pointer none)) iKz Tryz.underlying125 rfl rfl rep_np rfl rfl rfl rfl rfl rfl) ?_
        | refine O_Xd (X_look 0 (es := [((0 : Int), PT h 0)]) (z := .v (.pointer none)) iKz Tryz.underlying125 rfl rfl rep_np rfl rfl rfl rfl rfl rfl) ?_
      rw [show lookE ((i : Nat) : Int) [((0 : Int), PT h 0)] = none by simp [lookE]; omega]
      rw [show lookAV false none (.v (.pointer none)) = .v (.pointer none) from rfl]
      repeat (first | refine sc rfl ?_ | refine so rfl ?_ | refine sb rfl ?_)
      refine O_Xd (X_ptrnnil Tryz.underlying128 rfl rfl rfl) ?_
      repeat (first | refine sc rfl ?_ | refine so rfl ?_ | refine sb rfl ?_)
      refine C_false rfl rfl ?_
      repeat (first | refine sc rfl ?_ | refine so rfl ?_ | refine sb rfl ?_)
      rw [w64 (x := (i : Int) + 1) (by omega) (by omega)]
      refine ⟨i + 1, by omega, by omega, ?_⟩
      rw [if_neg (show ¬ i = 0 by omega), if_neg (show ¬ i + 1 = 0 by omega)]
      exact Le.pick [0, 0, 0, 0] ⟨rfl, rfl, trivial⟩ rfl
  · obtain rfl : i = 9 := by omega
    repeat (first | refine sc rfl ?_ | refine so rfl ?_ | refine sb rfl ?_)
    exact ⟨_, [_, _, _, _], _, rfl, pickA_perm (is := [0, 0, 0, 0]) (As := [_, _, _, _]) rfl, rfl, rfl, rfl⟩
end Go.Proofs

/- A turn of nobody. -/
set_option linter.unusedSimpArgs false
set_option linter.unusedVariables false
set_option maxRecDepth 100000
namespace Go.Proofs
open Go.Sy Go.Lib

theorem turn0_A (s mg tm : Nat) (now : Int) : FnA Tryz.prog 105 [PT s 68] [srvA s mg tm now] (fun r cs' => r = .tup [I64 0, I64 0, B false] ∧ cs' = [srvA s mg tm now]) := by
  refine FnA.intro Tryz.tabOK Tryz.wide_ Tryz.func105 rfl (by decide) rfl (fun X => ?_)
  repeat (first | refine sc rfl ?_ | refine so rfl ?_ | refine sb rfl ?_)
  refine O_Xd (X_ptrnil Tryz.underlying282 rfl rfl rfl) ?_
  repeat (first | refine sc rfl ?_ | refine so rfl ?_ | refine sb rfl ?_)
  refine C_false rfl rfl ?_
  repeat (first | refine sc rfl ?_ | refine so rfl ?_ | refine sb rfl ?_)
  refine C_loop (fun _ : Unit => ⟨[(0, PT s 68)], [.abs (srvA s mg tm now)]⟩) (fun _ => True) (fun _ => 0) () trivial (Le.pick [0] ⟨rfl, trivial⟩ rfl) ?_
  intro _ _
  repeat (first | refine sc rfl ?_ | refine so rfl ?_ | refine sb rfl ?_)
  first
    | refine O_loadP 0 (reads_box 69) rfl rfl rfl rfl rfl rfl ?_
    | refine O_loadP 1 (reads_box 69) rfl rfl rfl rfl rfl rfl ?_
    | refine O_loadP 2 (reads_box 69) rfl rfl rfl rfl rfl rfl ?_
    | refine O_loadP 3 (reads_box 69) rfl rfl rfl rfl rfl rfl ?_
    | refine O_loadP 4 (reads_box 69) rfl rfl rfl rfl rfl rfl ?_
  repeat (first | refine sc rfl ?_ | refine so rfl ?_ | refine sb rfl ?_)
  refine C_if rfl (fun k1 => ?_) (fun k1 => ?_) <;> simp only [decide_eq_true_eq, decide_eq_false_iff_not, Bool.not_eq_true', Bool.not_eq_false', beq_iff_eq, beq_eq_false_iff_ne, bne_iff_ne, ne_eq, bne_eq_false_iff_eq, Decidable.not_not] at k1
  · exact absurd k1 (by decide)
  repeat (first | refine sc rfl ?_ | refine so rfl ?_ | refine sb rfl ?_)
  first
    | exact ⟨_, [_], _, rfl, pickA_perm (is := [0]) (As := [_]) rfl, rfl, rfl, rfl⟩
    | exact ⟨_, [_], _, rfl, pickA_perm (is := [1]) (As := [_]) rfl, rfl, rfl, rfl⟩
    | exact ⟨_, [_], _, rfl, pickA_perm (is := [2]) (As := [_]) rfl, rfl, rfl, rfl⟩
    | exact ⟨_, [_], _, rfl, pickA_perm (is := [3]) (As := [_]) rfl, rfl, rfl, rfl⟩
    | exact ⟨_, [_], _, rfl, pickA_perm (is := [4]) (As := [_]) rfl, rfl, rfl, rfl⟩
theorem next0_A (s mg tm : Nat) (now : Int) : FnA Tryz.prog 54 [PT s 68] [srvA s mg tm now] (fun r cs' => r = .tup [I64 0, .agg [I64 0, I64 0, I64 0, .s [], I64 0], B false] ∧ cs' = [srvA s mg tm now]) := by
  refine FnA.intro Tryz.tabOK Tryz.wide_ Tryz.func54 rfl (by decide) rfl (fun X => ?_)
  repeat (first | refine sc rfl ?_ | refine so rfl ?_ | refine sb rfl ?_)
  refine O_Xd (X_ptrnil Tryz.underlying193 rfl rfl rfl) ?_
  repeat (first | refine sc rfl ?_ | refine so rfl ?_ | refine sb rfl ?_)
  refine C_false rfl rfl ?_
  repeat (first | refine sc rfl ?_ | refine so rfl ?_ | refine sb rfl ?_)
  first
    | refine O_callA [0] (turn0_A s mg tm now) (by rfl) (by rfl) (by rfl) (by rfl) (by rfl) ?_
    | refine O_callA [1] (turn0_A s mg tm now) (by rfl) (by rfl) (by rfl) (by rfl) (by rfl) ?_
    | refine O_callA [2] (turn0_A s mg tm now) (by rfl) (by rfl) (by rfl) (by rfl) (by rfl) ?_
    | refine O_callA [3] (turn0_A s mg tm now) (by rfl) (by rfl) (by rfl) (by rfl) (by rfl) ?_
    | refine O_callA [4] (turn0_A s mg tm now) (by rfl) (by rfl) (by rfl) (by rfl) (by rfl) ?_
  rintro r' cs' ⟨rfl, rfl⟩
  repeat (first | refine sc rfl ?_ | refine so rfl ?_ | refine sb rfl ?_)
  refine C_true rfl rfl ?_
  repeat (first | refine sc rfl ?_ | refine so rfl ?_ | refine sb rfl ?_)
  first
    | exact ⟨_, [_], _, rfl, pickA_perm (is := [0]) (As := [_]) rfl, rfl, rfl, rfl⟩
    | exact ⟨_, [_], _, rfl, pickA_perm (is := [1]) (As := [_]) rfl, rfl, rfl, rfl⟩
    | exact ⟨_, [_], _, rfl, pickA_perm (is := [2]) (As := [_]) rfl, rfl, rfl, rfl⟩
    | exact ⟨_, [_], _, rfl, pickA_perm (is := [3]) (As := [_]) rfl, rfl, rfl, rfl⟩
    | exact ⟨_, [_], _, rfl, pickA_perm (is := [4]) (As := [_]) rfl, rfl, rfl, rfl⟩
theorem serve0_A (s mg tm : Nat) (now : Int) : FnA Tryz.prog 21 [PT s 0] [srvA s mg tm now] (fun r cs' => r = .tup [.agg [I64 0, I64 0, I64 0, .s [], I64 0, .s []], B false] ∧ cs' = [srvA s mg tm now]) := by
  refine FnA.intro Tryz.tabOK Tryz.wide_ Tryz.func21 rfl (by decide) rfl (fun X => ?_)
  repeat (first | refine sc rfl ?_ | refine so rfl ?_ | refine sb rfl ?_)
  refine O_Xd (X_ptrnil Tryz.underlying58 rfl rfl rfl) ?_
  repeat (first | refine sc rfl ?_ | refine so rfl ?_ | refine sb rfl ?_)
  refine C_false rfl rfl ?_
  repeat (first | refine sc rfl ?_ | refine so rfl ?_ | refine sb rfl ?_)
  first
    | refine O_callA [0] (next0_A s mg tm now) (by rfl) (by rfl) (by rfl) (by rfl) (by rfl) ?_
    | refine O_callA [1] (next0_A s mg tm now) (by rfl) (by rfl) (by rfl) (by rfl) (by rfl) ?_
    | refine O_callA [2] (next0_A s mg tm now) (by rfl) (by rfl) (by rfl) (by rfl) (by rfl) ?_
    | refine O_callA [3] (next0_A s mg tm now) (by rfl) (by rfl) (by rfl) (by rfl) (by rfl) ?_
    | refine O_callA [4] (next0_A s mg tm now) (by rfl) (by rfl) (by rfl) (by rfl) (by rfl) ?_
  rintro r' cs' ⟨rfl, rfl⟩
  repeat (first | refine sc rfl ?_ | refine so rfl ?_ | refine sb rfl ?_)
  refine C_true rfl rfl ?_
  repeat (first | refine sc rfl ?_ | refine so rfl ?_ | refine sb rfl ?_)
  first
    | exact ⟨_, [_], _, rfl, pickA_perm (is := [0]) (As := [_]) rfl, rfl, rfl, rfl⟩
    | exact ⟨_, [_], _, rfl, pickA_perm (is := [1]) (As := [_]) rfl, rfl, rfl, rfl⟩
    | exact ⟨_, [_], _, rfl, pickA_perm (is := [2]) (As := [_]) rfl, rfl, rfl, rfl⟩
    | exact ⟨_, [_], _, rfl, pickA_perm (is := [3]) (As := [_]) rfl, rfl, rfl, rfl⟩
    | exact ⟨_, [_], _, rfl, pickA_perm (is := [4]) (As := [_]) rfl, rfl, rfl, rfl⟩
end Go.Proofs

/- Rows of a tick, and of a turn of nobody. -/
set_option linter.unusedSimpArgs false
set_option linter.unusedVariables false
set_option maxRecDepth 100000
namespace Go.Proofs
open Go.Sy Go.Lib

theorem rowsTick_A (s mg tm h g : Nat) (at_ now r b l m1 m2 s1 s2 o1 o2 : Int) (q : Bool) (hr : -1048576 ≤ r ∧ r ≤ 1048576 ∧ -1048576 ≤ l ∧ l ≤ 1048576) (hn : 0 ≤ now ∧ now ≤ 1000000) :
    FnA Tryz.prog 80 [PT s 0, I64 at_, .agg [I64 3, I64 0, U64 0, .s []]] [srvA s mg tm now, tenM tm h, tenA h g, gatA g r b l m1 m2 s1 s2 o1 o2 q]
      (fun x cs' => x = SL 8 Rw.c [⟨at_, 4, default⟩] ∧ cs' = [srvA s mg tm (now + 1), tenM tm h, tenA h g, gatA g r b (min (l + r) b) m1 m2 s1 s2 o1 o2 q]) := by
  refine FnA.intro Tryz.tabOK Tryz.wide_ Tryz.func80 rfl (by decide) rfl (fun X => ?_)
  repeat (first | refine sc rfl ?_ | refine so rfl ?_ | refine sb rfl ?_)
  refine C_false rfl rfl ?_
  repeat (first | refine sc rfl ?_ | refine so rfl ?_ | refine sb rfl ?_)
  refine C_false rfl rfl ?_
  repeat (first | refine sc rfl ?_ | refine so rfl ?_ | refine sb rfl ?_)
  refine C_true rfl rfl ?_
  repeat (first | refine sc rfl ?_ | refine so rfl ?_ | refine sb rfl ?_)
  first
    | refine O_callA [0, 0, 0, 0] (srvTick_A s mg tm h g now r b l m1 m2 s1 s2 o1 o2 q hr hn) (by rfl) (by rfl) (by rfl) (by rfl) (by rfl) ?_
    | refine O_callA [1, 1, 1, 1] (srvTick_A s mg tm h g now r b l m1 m2 s1 s2 o1 o2 q hr hn) (by rfl) (by rfl) (by rfl) (by rfl) (by rfl) ?_
  rintro r' cs' ⟨rfl, rfl⟩
  refine O_le _ (Le.nilvec Rw.c 7 52 37 8 rfl rfl rfl) ?_
  repeat (first | refine sc rfl ?_ | refine so rfl ?_ | refine sb rfl ?_)
  refine O_push Rw.c [] ⟨at_, 4, default⟩ [(0, PT s 0), (1, I64 at_)] rfl rfl rfl rfl rfl rfl rfl rfl rfl rfl ⟨rfl, rfl, trivial⟩ rfl rfl (by decide) (by decide) ?_
  refine so rfl ?_
  refine O_le _ (Le.freezeL (cells := Rw.c) 7 rfl rfl) ?_
  repeat (first | refine sc rfl ?_ | refine so rfl ?_ | refine sb rfl ?_)
  first
    | exact ⟨_, [_, _, _, _], _, rfl, pickA_perm (is := [0, 0, 0, 0]) (As := [_, _, _, _]) rfl, rfl, rfl, rfl⟩
    | exact ⟨_, [_, _, _, _], _, rfl, pickA_perm (is := [1, 1, 1, 1]) (As := [_, _, _, _]) rfl, rfl, rfl, rfl⟩
    | exact ⟨_, [_, _, _, _], _, rfl, pickA_perm (is := [2, 2, 2, 2]) (As := [_, _, _, _]) rfl, rfl, rfl, rfl⟩
theorem rowsServe_A (s mg tm : Nat) (at_ now : Int) :
    FnA Tryz.prog 80 [PT s 0, I64 at_, .agg [I64 5, I64 0, U64 0, .s []]] [srvA s mg tm now]
      (fun x cs' => x = SL 8 Rw.c [⟨at_, 3, default⟩] ∧ cs' = [srvA s mg tm now]) := by
  refine FnA.intro Tryz.tabOK Tryz.wide_ Tryz.func80 rfl (by decide) rfl (fun X => ?_)
  repeat (first | refine sc rfl ?_ | refine so rfl ?_ | refine sb rfl ?_)
  refine C_false rfl rfl ?_
  repeat (first | refine sc rfl ?_ | refine so rfl ?_ | refine sb rfl ?_)
  refine C_false rfl rfl ?_
  repeat (first | refine sc rfl ?_ | refine so rfl ?_ | refine sb rfl ?_)
  refine C_false rfl rfl ?_
  repeat (first | refine sc rfl ?_ | refine so rfl ?_ | refine sb rfl ?_)
  refine C_false rfl rfl ?_
  repeat (first | refine sc rfl ?_ | refine so rfl ?_ | refine sb rfl ?_)
  refine C_false rfl rfl ?_
  repeat (first | refine sc rfl ?_ | refine so rfl ?_ | refine sb rfl ?_)
  refine C_false rfl rfl ?_
  repeat (first | refine sc rfl ?_ | refine so rfl ?_ | refine sb rfl ?_)
  refine C_true rfl rfl ?_
  repeat (first | refine sc rfl ?_ | refine so rfl ?_ | refine sb rfl ?_)
  first
    | refine O_callA [0] (serve0_A s mg tm now) (by rfl) (by rfl) (by rfl) (by rfl) (by rfl) ?_
    | refine O_callA [1] (serve0_A s mg tm now) (by rfl) (by rfl) (by rfl) (by rfl) (by rfl) ?_
    | refine O_callA [2] (serve0_A s mg tm now) (by rfl) (by rfl) (by rfl) (by rfl) (by rfl) ?_
    | refine O_callA [3] (serve0_A s mg tm now) (by rfl) (by rfl) (by rfl) (by rfl) (by rfl) ?_
    | refine O_callA [4] (serve0_A s mg tm now) (by rfl) (by rfl) (by rfl) (by rfl) (by rfl) ?_
  rintro r' cs' ⟨rfl, rfl⟩
  repeat (first | refine sc rfl ?_ | refine so rfl ?_ | refine sb rfl ?_)
  refine C_true rfl rfl ?_
  repeat refine sc rfl ?_
  iterate 4 (first | refine so rfl ?_ | refine sb rfl ?_)
  refine O_le _ (Le.vecrow (k := 82) 1 (fun i => Rw.c (([⟨at_, 3, default⟩] : List Rw).getD i default)) rfl rfl (fun i hi => ?_)) ?_
  · have hi' : i < 1 := hi
    obtain rfl : i = 0 := by omega
    rfl
  first
    | refine O_le _ (Le.freezeL (l := ([⟨at_, 3, default⟩] : List Rw)) (cells := Rw.c) 6 rfl rfl) ?_
    | refine C_le _ (Le.freezeL (l := ([⟨at_, 3, default⟩] : List Rw)) (cells := Rw.c) 6 rfl rfl) ?_
  repeat (first | refine sc rfl ?_ | refine so rfl ?_ | refine sb rfl ?_)
  first
    | exact ⟨_, [_], _, rfl, pickA_perm (is := [0]) (As := [_]) rfl, rfl, rfl, rfl⟩
    | exact ⟨_, [_], _, rfl, pickA_perm (is := [1]) (As := [_]) rfl, rfl, rfl, rfl⟩
    | exact ⟨_, [_], _, rfl, pickA_perm (is := [2]) (As := [_]) rfl, rfl, rfl, rfl⟩
    | exact ⟨_, [_], _, rfl, pickA_perm (is := [3]) (As := [_]) rfl, rfl, rfl, rfl⟩
    | exact ⟨_, [_], _, rfl, pickA_perm (is := [4]) (As := [_]) rfl, rfl, rfl, rfl⟩
end Go.Proofs

/- The rows of a tick and a turn. -/
set_option linter.unusedSimpArgs false
set_option linter.unusedVariables false
set_option maxRecDepth 100000
namespace Go.Proofs
open Go.Sy Go.Lib

abbrev evs2 : List Evt := [⟨3, 0, 0, []⟩, ⟨5, 0, 0, []⟩]
abbrev rws2 : List Rw := [⟨0, 4, default⟩, ⟨1, 3, default⟩]
theorem traceOf_A (x : Int) : FnA Tryz.prog 31 [U64 x, SL 4 Evt.c evs2] [] (fun r cs' => r = SL 8 Rw.c rws2 ∧ cs' = []) := by
  refine FnA.intro Tryz.tabOK Tryz.wide_ Tryz.func31 rfl (by decide) rfl (fun X => ?_)
  repeat (first | refine sc rfl ?_ | refine so rfl ?_ | refine sb rfl ?_)
  refine O_callA [] (srvNew_A x) (by rfl) (by rfl) (by rfl) (by rfl) (by rfl) ?_
  rintro r' cs' ⟨s, mg, tm, h, g, c, d, rfl, rfl⟩
  repeat (first | refine sc rfl ?_ | refine so rfl ?_ | refine sb rfl ?_)
  refine ⟨by decide, ?_⟩
  repeat (first | refine sc rfl ?_ | refine so rfl ?_ | refine sb rfl ?_)
  refine C_le _ (Le.nilvec Rw.c 6 27 37 8 rfl rfl rfl) ?_
  refine C_loop (fun i : Nat => ⟨[(5, PT s 0), (6, .own 27), (15, SL 4 Evt.c evs2), (16, I64 ((2 : Nat) : Int)), (17, I64 (i : Nat))], [VEC 27 37 8 Rw.c (rws2.take i), .abs (srvA s mg tm ((min i 1 : Nat) : Int)), .abs (tenM tm h), .abs (tenA h g), .abs (gatA g 1048576 1048576 1048576 0 0 0 0 32 0 false)]⟩) (fun i => i ≤ 2) (fun i => 2 - i) 0 (Nat.zero_le _) (Le.pick [0, 0, 0, 0, 0] ⟨rfl, rfl, rfl, rfl, rfl, trivial⟩ rfl) ?_
  intro i hi
  repeat (first | refine sc rfl ?_ | refine so rfl ?_ | refine sb rfl ?_)
  refine C_if rfl (fun k1 => ?_) (fun k1 => ?_) <;> simp only [decide_eq_true_eq, decide_eq_false_iff_not, Bool.not_eq_true', Bool.not_eq_false', beq_iff_eq, beq_eq_false_iff_ne, bne_iff_ne, ne_eq, bne_eq_false_iff_eq, Decidable.not_not] at k1
  · have hil : i = 0 ∨ i = 1 := by omega
    rcases hil with rfl | rfl
    · repeat (first | refine sc rfl ?_ | refine so rfl ?_ | refine sb rfl ?_)
      refine ⟨by decide, ?_⟩
      repeat (first | refine sc rfl ?_ | refine so rfl ?_ | refine sb rfl ?_)
      refine O_callA [2, 2, 2, 2] (rowsTick_A s mg tm h g 0 0 1048576 1048576 1048576 0 0 0 0 32 0 false (by decide) (by decide)) (by rfl) (by rfl) (by rfl) (by rfl) (by rfl) ?_
      rintro r' cs' ⟨rfl, rfl⟩
      repeat (first | refine sc rfl ?_ | refine so rfl ?_ | refine sb rfl ?_)
      refine O_append (m2 := 1) (m3 := 0+1) (row3 := fun j => Rw.c ((rws2.take (0+1)).getD j default)) (s2 := [(5, PT s 0), (15, SL 4 Evt.c evs2), (16, I64 ((2 : Nat) : Int)), (17, I64 ((0 : Nat) : Int))]) rfl rfl rfl rfl rfl (src_sl rfl (fun j _ => rfl)) rfl ⟨rfl, rfl, rfl, rfl, trivial⟩ rfl rfl (by decide) (by decide) rfl (fun j hj => ?_) ?_
      · obtain rfl : j = 0 := by omega
        rfl
      repeat (first | refine sc rfl ?_ | refine so rfl ?_ | refine sb rfl ?_)
      refine ⟨0+1, by decide, by decide, ?_⟩
      first
        | exact Le.pick [0, 0, 0, 0, 0] ⟨rfl, rfl, rfl, rfl, rfl, trivial⟩ rfl
        | exact Le.pick [0, 0, 0, 0, 0] ⟨rfl, rfl, rfl, rfl, rfl, trivial⟩ rfl
        | exact Le.pick [0, 0, 1, 1, 1] ⟨rfl, rfl, rfl, rfl, rfl, trivial⟩ rfl
    · repeat (first | refine sc rfl ?_ | refine so rfl ?_ | refine sb rfl ?_)
      refine ⟨by decide, ?_⟩
      repeat (first | refine sc rfl ?_ | refine so rfl ?_ | refine sb rfl ?_)
      refine O_callA [2] (rowsServe_A s mg tm 1 1) (by rfl) (by rfl) (by rfl) (by rfl) (by rfl) ?_
      rintro r' cs' ⟨rfl, rfl⟩
      repeat (first | refine sc rfl ?_ | refine so rfl ?_ | refine sb rfl ?_)
      refine O_append (m2 := 1) (m3 := 1+1) (row3 := fun j => Rw.c ((rws2.take (1+1)).getD j default)) (s2 := [(5, PT s 0), (15, SL 4 Evt.c evs2), (16, I64 ((2 : Nat) : Int)), (17, I64 ((1 : Nat) : Int))]) rfl rfl rfl rfl rfl (src_sl rfl (fun j _ => rfl)) rfl ⟨rfl, rfl, rfl, rfl, trivial⟩ rfl rfl (by decide) (by decide) rfl (fun j hj => ?_) ?_
      · have hj' : j = 0 ∨ j = 1 := by omega
        rcases hj' with rfl | rfl <;> rfl
      repeat (first | refine sc rfl ?_ | refine so rfl ?_ | refine sb rfl ?_)
      refine ⟨1+1, by decide, by decide, ?_⟩
      first
        | exact Le.pick [0, 0, 0, 0, 0] ⟨rfl, rfl, rfl, rfl, rfl, trivial⟩ rfl
        | exact Le.pick [0, 0, 0, 0, 0] ⟨rfl, rfl, rfl, rfl, rfl, trivial⟩ rfl
        | exact Le.pick [0, 0, 1, 1, 1] ⟨rfl, rfl, rfl, rfl, rfl, trivial⟩ rfl
  · obtain rfl : i = 2 := by omega
    refine C_le _ (Le.freezeL (l := rws2) (cells := Rw.c) 6 rfl rfl) ?_
    repeat (first | refine sc rfl ?_ | refine so rfl ?_ | refine sb rfl ?_)
    exact ⟨_, [], _, rfl, pickA_perm (is := []) (As := []) rfl, rfl, rfl, rfl⟩
end Go.Proofs

/- The example of TraceAsks. -/
set_option linter.unusedSimpArgs false
set_option linter.unusedVariables false
set_option maxRecDepth 100000
namespace Go.Proofs
open Go.Sy Go.Lib

def nteV (x : Nte) : Array Value := #[.int .i64 x.conn, .int .i64 x.owner, .int .i64 x.kind, S x.body, .int .i64 x.err, S x.reply]
def rwV (x : Rw) : Array Value := #[.int .i64 x.fat, .int .i64 x.act, .int .i64 x.note.conn, .int .i64 x.note.owner, .int .i64 x.note.kind, S x.note.body, .int .i64 x.note.err, S x.note.reply]
theorem rep_rw (m : Rw) (e : Env) (ys : List Value) (h : RepL e (Rw.c m) ys) : ys = (rwV m).toList := by
  simp only [Rw.c, RepL, Rep] at h
  obtain ⟨z1, t1, rfl, rfl, _, z2, t2, rfl, rfl, _, z3, t3, rfl, rfl, _, z4, t4, rfl, rfl, _, z5, t5, rfl, rfl, _, z6, t6, rfl, rfl, _, z7, t7, rfl, rfl, _, z8, t8, rfl, rfl, _, rfl⟩ := h
  rfl
theorem eq_nte (m : Nte) (w : World) : (Op.equalIn 9999 35 (.agg (nteV m)) (.agg (nteV m))).run Tryz.prog w = .ok true w := by
  rw [run_equalIn_struct w 9998 35 _ _ Tryz.underlying35 Tryz.stoodInHeld35]
  unfold Program.fieldsOf
  rw [Tryz.underlying35]
  have p0 : (part 3 (nteV m) 0).run Tryz.prog w = .ok (.int .i64 m.conn) w := by simp [part, isAgg, run_underlying Tryz.underlying3, nteV]
  have p1 : (part 3 (nteV m) 1).run Tryz.prog w = .ok (.int .i64 m.owner) w := by simp [part, isAgg, run_underlying Tryz.underlying3, nteV]
  have p2 : (part 3 (nteV m) 2).run Tryz.prog w = .ok (.int .i64 m.kind) w := by simp [part, isAgg, run_underlying Tryz.underlying3, nteV]
  have p3 : (part 9 (nteV m) 3).run Tryz.prog w = .ok (S m.body) w := by simp [part, isAgg, run_underlying Tryz.underlying9, nteV]
  have p4 : (part 33 (nteV m) 4).run Tryz.prog w = .ok (.int .i64 m.err) w := by simp [part, isAgg, run_underlying Tryz.underlying33, nteV]
  have p5 : (part 9 (nteV m) 5).run Tryz.prog w = .ok (S m.reply) w := by simp [part, isAgg, run_underlying Tryz.underlying9, nteV]
  have e0 : ∀ k, (Op.equalIn 9998 3 (.int .i64 k) (.int .i64 k)).run Tryz.prog w = .ok true w := fun k => by rw [run_equalIn_int w 9997 3 .i64 .i64 _ _ Tryz.underlying3]; simp
  have e1 : ∀ l, (Op.equalIn 9998 9 (S l) (S l)).run Tryz.prog w = .ok true w := fun l => by unfold S; rw [run_equalIn_string w 9997 9 _ _ Tryz.underlying9]; simp
  have e2 : ∀ k, (Op.equalIn 9998 33 (.int .i64 k) (.int .i64 k)).run Tryz.prog w = .ok true w := fun k => by rw [run_equalIn_int w 9997 33 .i64 .i64 _ _ Tryz.underlying33]; simp
  simp only [Op.eqFields]
  rw [if_pos (by decide), if_pos (by decide), if_pos (by decide), if_pos (by decide), if_pos (by decide), if_pos (by decide)]
  simp [Sem.run_bind, p0, p1, p2, p3, p4, p5, e0, e1, e2]
theorem eq_rw (m : Rw) (w : World) : (Op.equalIn 10000 37 (.agg (rwV m)) (.agg (rwV m))).run Tryz.prog w = .ok true w := by
  rw [run_equalIn_struct w 9999 37 _ _ Tryz.underlying37 Tryz.stoodInHeld37]
  unfold Program.fieldsOf
  rw [Tryz.underlying37]
  have p0 : (part 3 (rwV m) 0).run Tryz.prog w = .ok (.int .i64 m.fat) w := by simp [part, isAgg, run_underlying Tryz.underlying3, rwV]
  have p1 : (part 3 (rwV m) 1).run Tryz.prog w = .ok (.int .i64 m.act) w := by simp [part, isAgg, run_underlying Tryz.underlying3, rwV]
  have p2 : (part 35 (rwV m) 2).run Tryz.prog w = .ok (.agg (nteV m.note)) w := by
    simp [part, isAgg, run_underlying Tryz.underlying35, rwV, nteV]
  have e0 : ∀ k, (Op.equalIn 9999 3 (.int .i64 k) (.int .i64 k)).run Tryz.prog w = .ok true w := fun k => by rw [run_equalIn_int w 9998 3 .i64 .i64 _ _ Tryz.underlying3]; simp
  simp only [Op.eqFields]
  rw [if_pos (by decide), if_pos (by decide), if_pos (by decide)]
  simp [Sem.run_bind, p0, p1, p2, e0, eq_nte]

theorem awake45_A : FnA Tryz.prog 5 [] [] (fun r cs' => r = B true ∧ cs' = []) := by
  refine FnA.intro Tryz.tabOK Tryz.wide_ Tryz.func5 rfl (by decide) rfl (fun X => ?_)
  repeat (first | refine sc rfl ?_ | refine so rfl ?_ | refine sb rfl ?_)
  refine O_le _ (Le.vecrow (k := 4) 2 (fun i => Evt.c (evs2.getD i default)) rfl rfl (fun i hi => ?_)) ?_
  · have hi' : i < 2 := hi
    have : i = 0 ∨ i = 1 := by omega
    rcases this with rfl | rfl <;> rfl
  refine O_le _ (Le.freezeL (l := evs2) (cells := Evt.c) 4 rfl rfl) ?_
  refine O_callA [] (traceOf_A 1) (by rfl) (by rfl) (by rfl) (by rfl) (by rfl) ?_
  rintro r' cs' ⟨rfl, rfl⟩
  repeat (first | refine sc rfl ?_ | refine so rfl ?_ | refine sb rfl ?_)
  refine ⟨by decide, ?_⟩
  repeat (first | refine sc rfl ?_ | refine so rfl ?_ | refine sb rfl ?_)
  refine O_Xd (X_aggC (us := rwV ⟨0, 4, default⟩) (vs := rwV ⟨0, 4, default⟩) (b := true) (op := .eql) (fun e ys h => rep_rw ⟨0, 4, default⟩ e ys h) (fun e ys h => rep_rw ⟨0, 4, default⟩ e ys h) (fun w => eq_rw _ w) Tryz.eqGuardType37 (.inl rfl) rfl rfl rfl rfl) ?_
  repeat (first | refine sc rfl ?_ | refine so rfl ?_ | refine sb rfl ?_)
  refine ⟨by decide, ?_⟩
  repeat (first | refine sc rfl ?_ | refine so rfl ?_ | refine sb rfl ?_)
  refine O_Xd (X_aggC (us := rwV ⟨1, 3, default⟩) (vs := rwV ⟨1, 3, default⟩) (b := true) (op := .eql) (fun e ys h => rep_rw ⟨1, 3, default⟩ e ys h) (fun e ys h => rep_rw ⟨1, 3, default⟩ e ys h) (fun w => eq_rw _ w) Tryz.eqGuardType37 (.inl rfl) rfl rfl rfl rfl) ?_
  repeat (first | refine sc rfl ?_ | refine so rfl ?_ | refine sb rfl ?_)
  exact ⟨_, [], _, rfl, pickA_perm (is := []) (As := []) rfl, rfl, rfl, rfl⟩
end Go.Proofs

/- TraceAsks: the program's rows of the document's. -/
set_option linter.unusedSimpArgs false
set_option linter.unusedVariables false
set_option maxRecDepth 100000
namespace Go.Proofs
open Go.Sy Go.Lib

theorem getD_at45 {α : Type} [Inhabited α] {l : List α} {i : Nat} (h : i < l.length) : l.getD i default = l[i] := by
  rw [List.getD_eq_getElem?_getD, List.getElem?_eq_getElem h]; rfl
theorem note45_c (x : Nte) : FnP Tryz.prog 41 [.agg (Nte.c x)] (· = .agg (Nte.c x)) := by
  refine FnP.intro Tryz.tabOK Tryz.wide_ Tryz.func41 rfl (by decide) rfl (fun X => ?_)
  repeat (first | refine sc rfl ?_ | refine so rfl ?_ | refine sb rfl ?_)
  exact ⟨_, rfl, rfl, rfl⟩
theorem ours45_c (x : Rw) : FnP Tryz.prog 32 [.agg (Rw.c x)] (· = .agg (Rw.c x)) := by
  refine FnP.intro Tryz.tabOK Tryz.wide_ Tryz.func32 rfl (by decide) rfl (fun X => ?_)
  repeat (first | refine sc rfl ?_ | refine so rfl ?_ | refine sb rfl ?_)
  refine C_drawU 20 8 rfl (by kernel_rfl) (by kernel_rfl) (by kernel_rfl) ?_
  repeat (first | refine sd rfl ?_ | refine sdb rfl ?_ | refine sds rfl ?_)
  refine D_call (note45_c x.note) rfl rfl rfl rfl ?_
  repeat (first | refine sd rfl ?_ | refine sdb rfl ?_ | refine sds rfl ?_)
  repeat (first | refine sc rfl ?_ | refine so rfl ?_ | refine sb rfl ?_)
  exact ⟨_, rfl, rfl, rfl⟩
theorem rows45_c (l : List Rw) (hl : l.length ≤ 300) : FnP Tryz.prog 6 [SL 8 Rw.c l] (· = SL 8 Rw.c l) := by
  refine FnP.intro Tryz.tabOK Tryz.wide_ Tryz.func6 rfl (by decide) rfl (fun X => ?_)
  repeat (first | refine sc rfl ?_ | refine so rfl ?_ | refine sb rfl ?_)
  refine C_le _ (Le.nilvec Rw.c 3 18 37 8 rfl rfl rfl) ?_
  refine C_loop (fun i : Nat => ⟨[(0, SL 8 Rw.c l), (3, .own 18), (4, I64 (i : Nat))], [VEC 18 37 8 Rw.c (l.take i)]⟩) (fun i => i ≤ l.length) (fun i => l.length - i) 0 (Nat.zero_le _) (Le.sub [18] ⟨rfl, rfl, rfl, trivial⟩ rfl) ?_
  intro i hi
  repeat (first | refine sc rfl ?_ | refine so rfl ?_ | refine sb rfl ?_)
  refine C_if rfl (fun m1 => ?_) (fun m1 => ?_) <;> simp only [decide_eq_true_eq, decide_eq_false_iff_not, Bool.not_eq_true', Bool.not_eq_false', beq_iff_eq, beq_eq_false_iff_ne, bne_iff_ne, ne_eq, bne_eq_false_iff_eq, Decidable.not_not] at m1
  · have hil : i < l.length := by omega
    have htk : l.take (i + 1) = l.take i ++ [l.getD i default] := by rw [List.take_succ_eq_append_getElem hil, getD_at45 hil]
    have hlen : (l.take i).length = i := by rw [List.length_take]; omega
    repeat (first | refine sc rfl ?_ | refine so rfl ?_ | refine sb rfl ?_)
    refine ⟨by omega, ?_⟩
    rw [Int.toNat_natCast]
    repeat (first | refine sc rfl ?_ | refine so rfl ?_ | refine sb rfl ?_)
    refine O_call (ours45_c (l.getD i default)) (by rfl) (by rfl) (by rfl) (by rfl) (fun r' hr => ?_)
    subst hr
    repeat (first | refine sc rfl ?_ | refine so rfl ?_ | refine sb rfl ?_)
    refine O_push Rw.c (l.take i) (l.getD i default) [(0, SL 8 Rw.c l), (4, I64 (i : Nat))] rfl rfl rfl rfl rfl rfl rfl rfl rfl rfl ⟨rfl, rfl, trivial⟩ rfl rfl (by omega) (by simp only [maxLen]; omega) ?_
    rw [← htk]
    repeat (first | refine sc rfl ?_ | refine so rfl ?_ | refine sb rfl ?_)
    rw [w64 (x := (i : Int) + 1) (by omega) (by omega)]
    exact ⟨i + 1, hil, by omega, Le.sub [18] ⟨rfl, rfl, rfl, trivial⟩ rfl⟩
  · obtain rfl : i = l.length := by omega
    rw [List.take_length]
    refine C_le _ (Le.freezeL (cells := Rw.c) 3 rfl rfl) ?_
    repeat (first | refine sc rfl ?_ | refine so rfl ?_ | refine sb rfl ?_)
    exact ⟨_, rfl, rfl, rfl⟩
end Go.Proofs

/- Contracts of conf: Check. -/
set_option linter.unusedSimpArgs false
set_option linter.unusedVariables false
set_option maxRecDepth 100000
namespace Go.Proofs
open Go.RowKit Go.Shelf

attribute [local go_sem] Oper.semAt_some

def Cf.l (x : Cf) : List Int := [x.quantum, x.rate, x.burst, x.mem, x.slots, x.outs, x.conns, x.state, x.decode]
def Cf.vs (x : Cf) : List Value := [.int .i64 x.quantum, .int .i64 x.rate, .int .i64 x.burst, .int .i64 x.mem, .int .i64 x.slots, .int .i64 x.outs, .int .i64 x.conns, .int .i64 x.state, .int .i64 x.decode]
/-- Is a number of a configuration within its bounds? -/
def okAt (x : Cf) (i : Nat) : Bool := decide (loP i ≤ x.l.getD i 0) && decide (x.l.getD i 0 ≤ hiP i)
def ckF (x : Cf) : Int := if ∀ i : Fin 9, okAt x i.val = true then 0 else 1

open Go.Sy in
theorem RepIL_v {G : IM} : ∀ {l zs : List Value}, RepIL G (l.map .v) zs → zs = l
  | [], zs, h => by simpa [RepIL] using h
  | x :: l, zs, h => by
    simp only [List.map_cons, RepIL] at h
    obtain ⟨z, t, rfl, h1, _, h2⟩ := h
    simp only [RepI] at h1
    rw [h1, RepIL_v h2]

open Go.Sy in
theorem places_calls (b : Nat) (w : World) : Calls Tryz.prog 192 #[.pointer (some ⟨b, 0, none⟩)] w fun e w' => ∃ g, e = .returned (.func (.func 232) #[] #[.pointer (some ⟨g, 0, none⟩)]) ∧ w.heap.size ≤ g ∧ w'.heap[g]? = some (.cells (arrP b).toArray 388 (0, 0)) ∧ Below w.heap.size w w' := by
  refine ((places_A b).2 IM.empty w [.pointer (some ⟨b, 0, none⟩)] ⟨fun b o v h => (by simp [IM.empty] at h), fun b x h => (by simp [IM.empty] at h)⟩ (by simp only [RepIT, RepI]; exact ⟨_, _, rfl, rfl, rfl⟩) ⟨fun A hA => (by cases hA), (by simp [blocks]), fun b hb => (by simp [blocks] at hb)⟩).mono ?_
  rintro en w' ⟨r, cr, cs', G', ⟨g, rfl, rfl⟩, rfl, g1, g2, g3, g4, g5, g6, o1, o2, o3, o4, o5⟩
  obtain ⟨vs, rfl, hvs⟩ := isClo_p 232 [PT g 0] G' _ g1
  simp only [RepIT, RepI] at hvs
  obtain ⟨z, t, hvs, rfl, rfl⟩ := hvs
  have hvs2 : vs = #[.pointer (some ⟨g, 0, none⟩)] := by
    apply Array.toList_inj.1; simpa using hvs
  subst hvs2
  obtain ⟨arr, h1, h2⟩ := g5.1 _ (List.mem_singleton.2 rfl)
  have h3 := RepIL_v h2
  have h4 : w'.heap[g]? = some (.cells (arrP b).toArray 388 (0, 0)) := by rw [← h3]; simpa using h1
  refine ⟨g, rfl, ?_, h4, ⟨o1, o2, o3, o4, fun k hk => o5 k hk (by simp [blocks]) (IM.free_still ⟨fun o => rfl, rfl⟩)⟩⟩
  rcases g6 g (by simp [blocks, boxA]) with h | h
  · exact h
  · simp [blocks] at h

theorem ownFrom_cells {β : Type} {B b : Nat} {cs : Array Value} {t : TypeId} {fz : Nat × Nat} : OwnFrom B (fun (_ : β) W => W.heap[b]? = some (.cells cs t fz)) := fun s A C row hs hg hr =>
  (hg.block b (Array.getElem?_eq_some_iff.1 hs).1 (fun e => by
    obtain ⟨_, o, ho, hc⟩ := hr b e.symm
    rw [hs] at ho; cases ho; cases hc)).trans hs
theorem cell_heap {W : World} {b j : Nat} {l : List Value} {t : TypeId} {v : Value} (h : W.heap[b]? = some (.cells l.toArray t (0, 0))) (hj : l[j]? = some v) : W.cell? ⟨b, j, none⟩ = some v := by
  simp [World.cell?, h, hj]

/-- A walk through reads, told so that it is not unfolded by chance. -/
structure Stl (P : Program) (ops : Array Oper) (w : World) (Q : Act → Prop) (l : List Oper) (a : Act) : Prop where
  h : wpStill P ops w Q l a
theorem Stl.step {P : Program} {ops : Array Oper} {w : World} {Q : Act → Prop} {o : Oper} {rest : List Oper} {a : Act}
    (h : ∀ K : Act → Prop, (∀ a, Stl P ops w Q rest a → K a) → if Region.wanted o (yielded ops a.tmps) then o.still P a w K else K (a.put o.dst undef)) : Stl P ops w Q (o :: rest) a :=
  ⟨wpStill_step (fun K hK => h K (fun a ha => hK a ha.h))⟩
theorem Stl.nil {P : Program} {ops : Array Oper} {w : World} {Q : Act → Prop} {a : Act} (h : Q a) : Stl P ops w Q [] a := ⟨wpStill_nil h⟩

theorem ntmps137_ : Tryz.f137.ntmps = 24 := by kernel_rfl

set_option maxHeartbeats 800000 in
theorem confCheck_calls (x : Cf) (w : World) : Calls Tryz.prog 137 #[.agg x.vs.toArray] w fun e w' => e = .returned (.int .i64 (ckF x)) ∧ Below w.heap.size w w' := by
  refine (callsIn_wide (n := 6)).1 ?_
  refine callsIn_of_wp_marks Tryz.func137 rfl trivial ?_ rfl
  simp only [ntmps137_, List.size_toArray, List.length_cons, List.length_nil, Nat.reduceAdd, Nat.reduceSub, Array.replicate_succ, Array.replicate_zero, List.push_toArray, List.append_toArray, List.nil_append, List.cons_append]
  have hF : Fence.wide.fn 192 := trivial
  gi_wp2_with (gi_at_call 192; refine (callsIn_wide.2 (places_calls _ _)).mono ?_; rintro e w1 ⟨g, rfl, hg, hga, hb1⟩)
  obtain ⟨b, hb⟩ : ∃ b, w.heap.size = b := ⟨_, rfl⟩
  rw [hb] at hga
  have hs1 : b + 2 ≤ w1.heap.size := by have := hb1.size; simp at this; omega
  have hx1 : w1.heap[b]? = some (.cells x.vs.toArray 28 (0, 0)) := by
    rw [hb1.block b (by simp; omega)]; subst hb
    exact (Below.heap_alloc _ _ _ (by simp)).trans (World.alloc_heap_new w _)
  have hx2 : w1.heap[b + 1]? = some (.cells #[.int .i64 0] 33 (0, 0)) := by
    rw [hb1.block (b + 1) (by simp; omega)]; subst hb
    have := World.alloc_heap_new (w.alloc (.cells x.vs.toArray 28)) (.cells #[.int .i64 0] 33)
    rw [World.size_alloc] at this
    exact this
  have hbw : Below b w w1 := by
    subst hb
    exact (((Below.refl _ w).alloc (Nat.le_refl _) _).alloc (by simp) _).trans (hb1.mono (by simp; omega))
  simp only [hb]
  refine wpIn_rangeFunc_ownH rfl (by decide : 1 ≤ 6) (gf := 232) (lb := #[.pointer (some ⟨g, 0, none⟩)]) rfl trivial (enters_of Tryz.func232 (by kernel_rfl) rfl) (places_stops Fence.wide 5 trivial rfl (by decide) g b w1 hga) walksK_t walksK_b (Below.refl _ _) (fun _ => rfl)
    (fun pre W => (∀ i ∈ pre, okAt x i.val = true) ∧ W.heap[b]? = some (.cells x.vs.toArray 28 (0, 0)) ∧ W.heap[b + 1]? = some (.cells #[.int .i64 0] 33 (0, 0)) ∧ Below b w W)
    (fun c pre W => c = .ret ∧ (∃ i, i ∈ pre ∧ okAt x i.val = false) ∧ W.heap[b + 1]? = some (.cells #[.int .i64 1] 33 (0, 0)) ∧ Below b w W)
    ?hI ?hIx ⟨fun i hi => (by cases hi), hx1, hx2, hbw⟩
    (fun (i : Fin 9) a' W => ∃ Bx, W.heap[Bx]? = some (.cells #[.pointer (some ⟨b, i.val, none⟩), .int .i64 (loP i.val), .int .i64 (hiP i.val)] 331 (0, 0)) ∧
      a' = { tmps := #[.agg x.vs.toArray, .pointer (some ⟨b, 0, none⟩), .pointer (some ⟨b + 1, 0, none⟩), undef, .pointer (some ⟨Bx, 0, none⟩), .func (.func 232) #[] #[.pointer (some ⟨g, 0, none⟩)], .int .i64 (i.val : Int), plV b i.val, undef, undef, undef, undef, undef, undef, undef, undef, undef, undef, undef, undef, undef, undef, undef, undef], defers := [] })
    ?hAx ?assign ?body ?done ?stop
  case hI => exact OwnFrom.and (ownFrom_pure _ _) (OwnFrom.and ownFrom_cells (OwnFrom.and ownFrom_cells (ownFrom_below (by omega) (by omega))))
  case hIx => exact fun c => OwnFrom.and (ownFrom_pure _ (fun _ => c = .ret)) (OwnFrom.and (ownFrom_pure _ _) (OwnFrom.and ownFrom_cells (ownFrom_below (by omega) (by omega))))
  case hAx =>
    rintro i a' s A C row ⟨Bx, h2, h3⟩ hg hr
    exact ⟨Bx, ownFrom_cells (β := Unit) () A C row h2 hg hr, h3⟩
  case assign =>
    rintro l pre i W K ⟨hi1, hi2, hi3, hi4⟩ hK
    have hbs : b ≤ W.heap.size := by have := hi4.size; omega
    gi_wp2
    exact hK _ _ ((KeepsOthers.alloc _ _).from _) (KeepsWalks.alloc _ _) ⟨hi1, (Below.heap_alloc _ _ _ (Array.getElem?_eq_some_iff.1 hi2).1).trans hi2, (Below.heap_alloc _ _ _ (Array.getElem?_eq_some_iff.1 hi3).1).trans hi3, hi4.alloc hbs _⟩
      ⟨W.heap.size, World.alloc_heap_new _ _, rfl⟩
  case body =>
    rintro l pre i a' W hl hr ⟨hi1, hi2, hi3, hi4⟩ ⟨Bx, hbx, rfl⟩ hlen
    have hp0 : W.cell? ⟨Bx, 0, none⟩ = some (.pointer (some ⟨b, i.val, none⟩)) := cell_heap hbx rfl
    have hp1 : W.cell? ⟨Bx, 1, none⟩ = some (.int .i64 (loP i.val)) := cell_heap hbx rfl
    have hp2 : W.cell? ⟨Bx, 2, none⟩ = some (.int .i64 (hiP i.val)) := cell_heap hbx rfl
    have hv : W.cell? ⟨b, i.val, none⟩ = some (.int .i64 (x.l.getD i.val 0)) := cell_heap hi2 (by
      obtain ⟨i, hi⟩ := i
      rcases (by omega : i = 0 ∨ i = 1 ∨ i = 2 ∨ i = 3 ∨ i = 4 ∨ i = 5 ∨ i = 6 ∨ i = 7 ∨ i = 8) with rfl | rfl | rfl | rfl | rfl | rfl | rfl | rfl | rfl <;> rfl)
    refine wpIn_block (wpIn_seq (round_region_still Tryz.wide_ (by kernel_rfl) (by kernel_rfl) (fun ⟨a, w, h⟩ => h) ?_))
    obtain ⟨W', hW'⟩ : ∃ W', ({ heap := W.heap, tape := W.tape, drawn := W.drawn + 1, os := W.os, output := W.output } : World) = W' := ⟨_, rfl⟩
    have hh : W'.heap = W.heap := by rw [← hW']
    have hk1 : KeepsFrom w1.heap.size W W' := by rw [← hW']; exact (KeepsOthers.drew W).from _
    have hk2 : KeepsWalks W W' := by rw [← hW']; exact (KeepsOthers.drew W).walks
    have hb4 : Below b w W' := by rw [← hW']; exact ⟨hi4.os, hi4.tape, hi4.output, hi4.size, hi4.block⟩
    have q2 : W'.heap[b]? = some (.cells x.vs.toArray 28 (0, 0)) := by rw [hh]; exact hi2
    have q3 : W'.heap[b + 1]? = some (.cells #[.int .i64 0] 33 (0, 0)) := by rw [hh]; exact hi3
    have qx : W'.heap[Bx]? = some (.cells #[.pointer (some ⟨b, i.val, none⟩), .int .i64 (loP i.val), .int .i64 (hiP i.val)] 331 (0, 0)) := by rw [hh]; exact hbx
    rw [hW']
    clear hp0 hp1 hp2 hv hbx hi2 hi3
    have hp0 : W'.cell? ⟨Bx, 0, none⟩ = some (.pointer (some ⟨b, i.val, none⟩)) := cell_heap qx rfl
    have hp1 : W'.cell? ⟨Bx, 1, none⟩ = some (.int .i64 (loP i.val)) := cell_heap qx rfl
    have hp2 : W'.cell? ⟨Bx, 2, none⟩ = some (.int .i64 (hiP i.val)) := cell_heap qx rfl
    have hv : W'.cell? ⟨b, i.val, none⟩ = some (.int .i64 (x.l.getD i.val 0)) := cell_heap q2 (by
      obtain ⟨i, hi⟩ := i
      rcases (by omega : i = 0 ∨ i = 1 ∨ i = 2 ∨ i = 3 ∨ i = 4 ∨ i = 5 ∨ i = 6 ∨ i = 7 ∨ i = 8) with rfl | rfl | rfl | rfl | rfl | rfl | rfl | rfl | rfl <;> rfl)
    have hc := Boxed.cell q3
    have hf := Boxed.frozen q3
    obtain ⟨v, hve⟩ : ∃ v, x.l.getD i.val 0 = v := ⟨_, rfl⟩
    obtain ⟨lo, hlo⟩ : ∃ lo, loP i.val = lo := ⟨_, rfl⟩
    obtain ⟨hi, hhi⟩ : ∃ hi, hiP i.val = hi := ⟨_, rfl⟩
    have hok : okAt x i.val = (decide (lo ≤ v) && decide (v ≤ hi)) := by unfold okAt; rw [hve, hlo, hhi]
    simp only [hve, hlo, hhi] at *
    refine Stl.h ?_
    by_cases h1 : v < lo
    · iterate 16 (refine Stl.step (fun K hK => ?_); go_simp; refine hK _ ?_; clear hK K)
      refine Stl.nil ?_
      change Code.wpIn (Fence.wide.inRound l) (6 - 1 - 1) Tryz.prog _ _ _ _; refine wpIn_cond_true rfl ?_
      gi_wp2
      exact ⟨hk1.trans ((KeepsOthers.setCell _ _ _).from _), rfl, ⟨i, by simp, by rw [hok]; simp; omega⟩, Boxed.set _ q3, hb4.setCell (p := ⟨b + 1, 0, none⟩) (by simp) _⟩
    · by_cases h2 : hi < v
      · iterate 16 (refine Stl.step (fun K hK => ?_); go_simp; refine hK _ ?_; clear hK K)
        refine Stl.nil ?_
        change Code.wpIn (Fence.wide.inRound l) (6 - 1 - 1) Tryz.prog _ _ _ _; refine wpIn_cond_true rfl ?_
        gi_wp2
        exact ⟨hk1.trans ((KeepsOthers.setCell _ _ _).from _), rfl, ⟨i, by simp, by rw [hok]; simp; omega⟩, Boxed.set _ q3, hb4.setCell (p := ⟨b + 1, 0, none⟩) (by simp) _⟩
      · iterate 16 (refine Stl.step (fun K hK => ?_); go_simp; refine hK _ ?_; clear hK K)
        refine Stl.nil ?_
        change Code.wpIn (Fence.wide.inRound l) (6 - 1 - 1) Tryz.prog _ _ _ _; refine wpIn_cond_false rfl ?_
        gi_wp2
        exact ⟨hk1, hk2, fun j hj => (by
          rcases List.mem_append.1 hj with h | h
          · exact hi1 j h
          · rw [List.mem_singleton.1 h, hok]; simp; omega), q2, q3, hb4⟩
  case done =>
    rintro D xs W hD rfl ⟨hi1, hi2, hi3, hi4⟩ hK
    have hc := Boxed.cell hi3
    have hf := Boxed.frozen hi3
    gi_wp2
    have hK' := (KeepsOthers.setCell W ⟨b + 1, 0, none⟩ (.int .i64 0)).same D _ hK rfl
    have hck : ckF x = 0 := by unfold ckF; rw [if_pos (fun i => hi1 i (List.mem_finRange i))]
    refine ⟨by simp, .inl ⟨_, _, rfl, run_takeDeferred hK', ?_⟩⟩
    have hc5 := cell_kept (World.cell?_setCell_same' W ⟨b + 1, 0, none⟩ (.int .i64 0) (by rw [hc]; rfl)) (grownBy_putObj' _ D (.deferred none)) (fun r e => by cases e; exact ⟨_, hK', rfl⟩)
    refine ⟨.int .i64 0, ?_, by rw [hck], ?_⟩
    · simp [results, Tryz.f137, go_sem, hc5]
    · rw [hb]
      exact (hi4.setCell (p := ⟨b + 1, 0, none⟩) (by simp) _).trans (belowK_b (w := w) (Nat.le_of_eq hb.symm) _ D _ _ (by omega) hK' rfl rfl)
  case stop =>
    rintro D c pre W hD hSp ⟨rfl, ⟨i, him, hio⟩, hi3, hi4⟩ hK
    have hc := Boxed.cell hi3
    have hck : ckF x = 1 := by unfold ckF; rw [if_neg (fun h => by rw [h i] at hio; cases hio)]
    gi_wp2
    refine ⟨by simp, .inl ⟨_, _, rfl, run_takeDeferred hK, ?_⟩⟩
    have hc5 := cell_kept hc (grownBy_putObj' _ D (.deferred none)) (fun r e => by cases e; exact ⟨_, hK, rfl⟩)
    refine ⟨.int .i64 1, ?_, by rw [hck], ?_⟩
    · simp [results, Tryz.f137, go_sem, hc5]
    · rw [hb]
      exact hi4.trans (belowK_b (w := w) (Nat.le_of_eq hb.symm) _ D _ _ (by omega) hK rfl rfl)
end Go.Proofs
