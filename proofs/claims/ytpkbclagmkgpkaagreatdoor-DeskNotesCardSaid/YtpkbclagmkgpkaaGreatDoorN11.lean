/- Connections: one that was opened. -/
import Derived.Test.YtpkbclagmkgpkaaGreatDoorN7
import Derived.Test.YtpkbclagmkgpkaaGreatDoorN4
import Derived.Test.YtpkbclagmkgpkaaGreatDoorN10
import Derived.Test.YtpkbclagmkgpkaaGreatDoorN8
import Derived.Test.YtpkbclagmkgpkaaGreatDoorN6
import Derived.Test.YtpkbclagmkgpkaaGreatDoorN3
set_option linter.unusedSimpArgs false
set_option linter.unusedVariables false
set_option maxRecDepth 100000
namespace Go.Proofs
open Go.Sy Go.Lib

abbrev srvL (s mg tm : Nat) (now : Int) (L : Value) : Abs := boxA s 115 (PT mg 0 :: (z66 ++ [.v L, NM, NS, NS, NS, NS, NS, NS, NS, NS, NS, NS, NM, .v (.map (some tm)), I64 now]))
abbrev lnA (b : Nat) (rest : List UInt8) (e st own : Int) (out : Value) : Abs := boxA b 257 [.s rest, I64 e, I64 st, I64 own, .v out]
abbrev lnsA (h : Value) (b : Nat) : Abs := vecA h 252 1 1 (fun _ => [PT b 0])
abbrev outA (h : Value) (x : List UInt8) : Abs := vecA h 9 1 1 (fun _ => [.s x])
theorem find_A (s mg tm : Nat) (now : Int) (g cc b : Nat) : FnA Tryz.prog 156 [PT s 67, I64 0] [srvL s mg tm now (HD g 1 cc), lnsA (HD g 1 cc) b] (fun r cs' => r = .tup [PT b 0, I64 0] ∧ cs' = [srvL s mg tm now (HD g 1 cc), lnsA (HD g 1 cc) b]) := by
  refine FnA.intro Tryz.tabOK Tryz.wide_ Tryz.func156 rfl (by decide) rfl (fun X => ?_)
  repeat (first|refine sc rfl ?_|refine so rfl ?_|refine sb rfl ?_)
  refine O_Xd (X_ptrnil Tryz.underlying251 rfl rfl rfl) ?_
  repeat (first|refine sc rfl ?_|refine so rfl ?_|refine sb rfl ?_)
  first
    | refine O_loadP 0 (reads_box 67) rfl rfl rfl rfl rfl rfl ?_
    | refine O_loadP 1 (reads_box 67) rfl rfl rfl rfl rfl rfl ?_
    | refine O_loadP 2 (reads_box 67) rfl rfl rfl rfl rfl rfl ?_
    | refine O_loadP 3 (reads_box 67) rfl rfl rfl rfl rfl rfl ?_
    | refine O_loadP 4 (reads_box 67) rfl rfl rfl rfl rfl rfl ?_
  repeat (first|refine sc rfl ?_|refine so rfl ?_|refine sb rfl ?_)
  refine C_false rfl (by decide) ?_
  repeat (first|refine sc rfl ?_|refine so rfl ?_|refine sb rfl ?_)
  first
    | refine O_loadP 0 (reads_box 67) rfl rfl rfl rfl rfl rfl ?_
    | refine O_loadP 1 (reads_box 67) rfl rfl rfl rfl rfl rfl ?_
    | refine O_loadP 2 (reads_box 67) rfl rfl rfl rfl rfl rfl ?_
    | refine O_loadP 3 (reads_box 67) rfl rfl rfl rfl rfl rfl ?_
    | refine O_loadP 4 (reads_box 67) rfl rfl rfl rfl rfl rfl ?_
  repeat (first|refine sc rfl ?_|refine so rfl ?_|refine sb rfl ?_)
  refine ⟨by decide, ?_⟩
  repeat (first|refine sc rfl ?_|refine so rfl ?_|refine sb rfl ?_)
  first
    | refine O_loadP 0 (reads_vec (q := 0) (j := 0) (by decide) rfl) rfl rfl rfl rfl rfl rfl ?_
    | refine O_loadP 1 (reads_vec (q := 0) (j := 0) (by decide) rfl) rfl rfl rfl rfl rfl rfl ?_
    | refine O_loadP 2 (reads_vec (q := 0) (j := 0) (by decide) rfl) rfl rfl rfl rfl rfl rfl ?_
    | refine O_loadP 3 (reads_vec (q := 0) (j := 0) (by decide) rfl) rfl rfl rfl rfl rfl rfl ?_
    | refine O_loadP 4 (reads_vec (q := 0) (j := 0) (by decide) rfl) rfl rfl rfl rfl rfl rfl ?_
  repeat (first|refine sc rfl ?_|refine so rfl ?_|refine sb rfl ?_)
  first
    | exact ⟨_, [_, _], _, rfl, pickA_perm (is := [0, 0]) (As := [_, _]) rfl, rfl, rfl, rfl⟩
    | exact ⟨_, [_, _], _, rfl, pickA_perm (is := [0, 1]) (As := [_, _]) rfl, rfl, rfl, rfl⟩
    | exact ⟨_, [_, _], _, rfl, pickA_perm (is := [0, 2]) (As := [_, _]) rfl, rfl, rfl, rfl⟩
    | exact ⟨_, [_, _], _, rfl, pickA_perm (is := [0, 3]) (As := [_, _]) rfl, rfl, rfl, rfl⟩
    | exact ⟨_, [_, _], _, rfl, pickA_perm (is := [0, 4]) (As := [_, _]) rfl, rfl, rfl, rfl⟩
    | exact ⟨_, [_, _], _, rfl, pickA_perm (is := [0, 5]) (As := [_, _]) rfl, rfl, rfl, rfl⟩
    | exact ⟨_, [_, _], _, rfl, pickA_perm (is := [1, 0]) (As := [_, _]) rfl, rfl, rfl, rfl⟩
    | exact ⟨_, [_, _], _, rfl, pickA_perm (is := [1, 1]) (As := [_, _]) rfl, rfl, rfl, rfl⟩
    | exact ⟨_, [_, _], _, rfl, pickA_perm (is := [1, 2]) (As := [_, _]) rfl, rfl, rfl, rfl⟩
    | exact ⟨_, [_, _], _, rfl, pickA_perm (is := [1, 3]) (As := [_, _]) rfl, rfl, rfl, rfl⟩
    | exact ⟨_, [_, _], _, rfl, pickA_perm (is := [1, 4]) (As := [_, _]) rfl, rfl, rfl, rfl⟩
    | exact ⟨_, [_, _], _, rfl, pickA_perm (is := [1, 5]) (As := [_, _]) rfl, rfl, rfl, rfl⟩
    | exact ⟨_, [_, _], _, rfl, pickA_perm (is := [2, 0]) (As := [_, _]) rfl, rfl, rfl, rfl⟩
    | exact ⟨_, [_, _], _, rfl, pickA_perm (is := [2, 1]) (As := [_, _]) rfl, rfl, rfl, rfl⟩
    | exact ⟨_, [_, _], _, rfl, pickA_perm (is := [2, 2]) (As := [_, _]) rfl, rfl, rfl, rfl⟩
    | exact ⟨_, [_, _], _, rfl, pickA_perm (is := [2, 3]) (As := [_, _]) rfl, rfl, rfl, rfl⟩
    | exact ⟨_, [_, _], _, rfl, pickA_perm (is := [2, 4]) (As := [_, _]) rfl, rfl, rfl, rfl⟩
    | exact ⟨_, [_, _], _, rfl, pickA_perm (is := [2, 5]) (As := [_, _]) rfl, rfl, rfl, rfl⟩
    | exact ⟨_, [_, _], _, rfl, pickA_perm (is := [3, 0]) (As := [_, _]) rfl, rfl, rfl, rfl⟩
    | exact ⟨_, [_, _], _, rfl, pickA_perm (is := [3, 1]) (As := [_, _]) rfl, rfl, rfl, rfl⟩
    | exact ⟨_, [_, _], _, rfl, pickA_perm (is := [3, 2]) (As := [_, _]) rfl, rfl, rfl, rfl⟩
    | exact ⟨_, [_, _], _, rfl, pickA_perm (is := [3, 3]) (As := [_, _]) rfl, rfl, rfl, rfl⟩
    | exact ⟨_, [_, _], _, rfl, pickA_perm (is := [3, 4]) (As := [_, _]) rfl, rfl, rfl, rfl⟩
    | exact ⟨_, [_, _], _, rfl, pickA_perm (is := [3, 5]) (As := [_, _]) rfl, rfl, rfl, rfl⟩
    | exact ⟨_, [_, _], _, rfl, pickA_perm (is := [4, 0]) (As := [_, _]) rfl, rfl, rfl, rfl⟩
    | exact ⟨_, [_, _], _, rfl, pickA_perm (is := [4, 1]) (As := [_, _]) rfl, rfl, rfl, rfl⟩
    | exact ⟨_, [_, _], _, rfl, pickA_perm (is := [4, 2]) (As := [_, _]) rfl, rfl, rfl, rfl⟩
    | exact ⟨_, [_, _], _, rfl, pickA_perm (is := [4, 3]) (As := [_, _]) rfl, rfl, rfl, rfl⟩
    | exact ⟨_, [_, _], _, rfl, pickA_perm (is := [4, 4]) (As := [_, _]) rfl, rfl, rfl, rfl⟩
    | exact ⟨_, [_, _], _, rfl, pickA_perm (is := [4, 5]) (As := [_, _]) rfl, rfl, rfl, rfl⟩
    | exact ⟨_, [_, _], _, rfl, pickA_perm (is := [5, 0]) (As := [_, _]) rfl, rfl, rfl, rfl⟩
    | exact ⟨_, [_, _], _, rfl, pickA_perm (is := [5, 1]) (As := [_, _]) rfl, rfl, rfl, rfl⟩
    | exact ⟨_, [_, _], _, rfl, pickA_perm (is := [5, 2]) (As := [_, _]) rfl, rfl, rfl, rfl⟩
    | exact ⟨_, [_, _], _, rfl, pickA_perm (is := [5, 3]) (As := [_, _]) rfl, rfl, rfl, rfl⟩
    | exact ⟨_, [_, _], _, rfl, pickA_perm (is := [5, 4]) (As := [_, _]) rfl, rfl, rfl, rfl⟩
    | exact ⟨_, [_, _], _, rfl, pickA_perm (is := [5, 5]) (As := [_, _]) rfl, rfl, rfl, rfl⟩
    | exact ⟨_, [_, _], _, rfl, pickA_perm (is := [6, 0]) (As := [_, _]) rfl, rfl, rfl, rfl⟩
    | exact ⟨_, [_, _], _, rfl, pickA_perm (is := [6, 1]) (As := [_, _]) rfl, rfl, rfl, rfl⟩
    | exact ⟨_, [_, _], _, rfl, pickA_perm (is := [6, 2]) (As := [_, _]) rfl, rfl, rfl, rfl⟩
    | exact ⟨_, [_, _], _, rfl, pickA_perm (is := [6, 3]) (As := [_, _]) rfl, rfl, rfl, rfl⟩
    | exact ⟨_, [_, _], _, rfl, pickA_perm (is := [6, 4]) (As := [_, _]) rfl, rfl, rfl, rfl⟩
    | exact ⟨_, [_, _], _, rfl, pickA_perm (is := [6, 5]) (As := [_, _]) rfl, rfl, rfl, rfl⟩
theorem takes_A (b : Nat) (rest : List UInt8) (e st own : Int) (out : Value) : FnA Tryz.prog 191 [PT b 0] [lnA b rest e st own out] (fun r cs' => r = B (decide (st < 2)) ∧ cs' = [lnA b rest e st own out]) := by
  refine FnA.intro Tryz.tabOK Tryz.wide_ Tryz.func191 rfl (by decide) rfl (fun X => ?_)
  repeat (first|refine sc rfl ?_|refine so rfl ?_|refine sb rfl ?_)
  first
    | refine O_loadP 0 (reads_box 2) rfl rfl rfl rfl rfl rfl ?_
    | refine O_loadP 1 (reads_box 2) rfl rfl rfl rfl rfl rfl ?_
    | refine O_loadP 2 (reads_box 2) rfl rfl rfl rfl rfl rfl ?_
    | refine O_loadP 3 (reads_box 2) rfl rfl rfl rfl rfl rfl ?_
    | refine O_loadP 4 (reads_box 2) rfl rfl rfl rfl rfl rfl ?_
  repeat (first|refine sc rfl ?_|refine so rfl ?_|refine sb rfl ?_)
  first
    | exact ⟨_, [_], _, rfl, pickA_perm (is := [0]) (As := [_]) rfl, rfl, rfl, rfl⟩
    | exact ⟨_, [_], _, rfl, pickA_perm (is := [1]) (As := [_]) rfl, rfl, rfl, rfl⟩
    | exact ⟨_, [_], _, rfl, pickA_perm (is := [2]) (As := [_]) rfl, rfl, rfl, rfl⟩
    | exact ⟨_, [_], _, rfl, pickA_perm (is := [3]) (As := [_]) rfl, rfl, rfl, rfl⟩
    | exact ⟨_, [_], _, rfl, pickA_perm (is := [4]) (As := [_]) rfl, rfl, rfl, rfl⟩
theorem owner_A (s mg tm : Nat) (now : Int) (g cc b : Nat) (rest : List UInt8) (e st own : Int) (out : Value) : FnA Tryz.prog 157 [PT s 67, I64 0] [srvL s mg tm now (HD g 1 cc), lnsA (HD g 1 cc) b, lnA b rest e st own out] (fun r cs' => r = I64 own ∧ cs' = [srvL s mg tm now (HD g 1 cc), lnsA (HD g 1 cc) b, lnA b rest e st own out]) := by
  refine FnA.intro Tryz.tabOK Tryz.wide_ Tryz.func157 rfl (by decide) rfl (fun X => ?_)
  repeat (first|refine sc rfl ?_|refine so rfl ?_|refine sb rfl ?_)
  first
    | refine O_callA [0, 0] (find_A s mg tm now g cc b) (by rfl) (by rfl) (by rfl) (by rfl) (by rfl) ?_
    | refine O_callA [0, 1] (find_A s mg tm now g cc b) (by rfl) (by rfl) (by rfl) (by rfl) (by rfl) ?_
    | refine O_callA [0, 2] (find_A s mg tm now g cc b) (by rfl) (by rfl) (by rfl) (by rfl) (by rfl) ?_
    | refine O_callA [0, 3] (find_A s mg tm now g cc b) (by rfl) (by rfl) (by rfl) (by rfl) (by rfl) ?_
    | refine O_callA [0, 4] (find_A s mg tm now g cc b) (by rfl) (by rfl) (by rfl) (by rfl) (by rfl) ?_
    | refine O_callA [0, 5] (find_A s mg tm now g cc b) (by rfl) (by rfl) (by rfl) (by rfl) (by rfl) ?_
    | refine O_callA [1, 0] (find_A s mg tm now g cc b) (by rfl) (by rfl) (by rfl) (by rfl) (by rfl) ?_
    | refine O_callA [1, 1] (find_A s mg tm now g cc b) (by rfl) (by rfl) (by rfl) (by rfl) (by rfl) ?_
    | refine O_callA [1, 2] (find_A s mg tm now g cc b) (by rfl) (by rfl) (by rfl) (by rfl) (by rfl) ?_
    | refine O_callA [1, 3] (find_A s mg tm now g cc b) (by rfl) (by rfl) (by rfl) (by rfl) (by rfl) ?_
    | refine O_callA [1, 4] (find_A s mg tm now g cc b) (by rfl) (by rfl) (by rfl) (by rfl) (by rfl) ?_
    | refine O_callA [1, 5] (find_A s mg tm now g cc b) (by rfl) (by rfl) (by rfl) (by rfl) (by rfl) ?_
    | refine O_callA [2, 0] (find_A s mg tm now g cc b) (by rfl) (by rfl) (by rfl) (by rfl) (by rfl) ?_
    | refine O_callA [2, 1] (find_A s mg tm now g cc b) (by rfl) (by rfl) (by rfl) (by rfl) (by rfl) ?_
    | refine O_callA [2, 2] (find_A s mg tm now g cc b) (by rfl) (by rfl) (by rfl) (by rfl) (by rfl) ?_
    | refine O_callA [2, 3] (find_A s mg tm now g cc b) (by rfl) (by rfl) (by rfl) (by rfl) (by rfl) ?_
    | refine O_callA [2, 4] (find_A s mg tm now g cc b) (by rfl) (by rfl) (by rfl) (by rfl) (by rfl) ?_
    | refine O_callA [2, 5] (find_A s mg tm now g cc b) (by rfl) (by rfl) (by rfl) (by rfl) (by rfl) ?_
    | refine O_callA [3, 0] (find_A s mg tm now g cc b) (by rfl) (by rfl) (by rfl) (by rfl) (by rfl) ?_
    | refine O_callA [3, 1] (find_A s mg tm now g cc b) (by rfl) (by rfl) (by rfl) (by rfl) (by rfl) ?_
    | refine O_callA [3, 2] (find_A s mg tm now g cc b) (by rfl) (by rfl) (by rfl) (by rfl) (by rfl) ?_
    | refine O_callA [3, 3] (find_A s mg tm now g cc b) (by rfl) (by rfl) (by rfl) (by rfl) (by rfl) ?_
    | refine O_callA [3, 4] (find_A s mg tm now g cc b) (by rfl) (by rfl) (by rfl) (by rfl) (by rfl) ?_
    | refine O_callA [3, 5] (find_A s mg tm now g cc b) (by rfl) (by rfl) (by rfl) (by rfl) (by rfl) ?_
    | refine O_callA [4, 0] (find_A s mg tm now g cc b) (by rfl) (by rfl) (by rfl) (by rfl) (by rfl) ?_
    | refine O_callA [4, 1] (find_A s mg tm now g cc b) (by rfl) (by rfl) (by rfl) (by rfl) (by rfl) ?_
    | refine O_callA [4, 2] (find_A s mg tm now g cc b) (by rfl) (by rfl) (by rfl) (by rfl) (by rfl) ?_
    | refine O_callA [4, 3] (find_A s mg tm now g cc b) (by rfl) (by rfl) (by rfl) (by rfl) (by rfl) ?_
    | refine O_callA [4, 4] (find_A s mg tm now g cc b) (by rfl) (by rfl) (by rfl) (by rfl) (by rfl) ?_
    | refine O_callA [4, 5] (find_A s mg tm now g cc b) (by rfl) (by rfl) (by rfl) (by rfl) (by rfl) ?_
    | refine O_callA [5, 0] (find_A s mg tm now g cc b) (by rfl) (by rfl) (by rfl) (by rfl) (by rfl) ?_
    | refine O_callA [5, 1] (find_A s mg tm now g cc b) (by rfl) (by rfl) (by rfl) (by rfl) (by rfl) ?_
    | refine O_callA [5, 2] (find_A s mg tm now g cc b) (by rfl) (by rfl) (by rfl) (by rfl) (by rfl) ?_
    | refine O_callA [5, 3] (find_A s mg tm now g cc b) (by rfl) (by rfl) (by rfl) (by rfl) (by rfl) ?_
    | refine O_callA [5, 4] (find_A s mg tm now g cc b) (by rfl) (by rfl) (by rfl) (by rfl) (by rfl) ?_
    | refine O_callA [5, 5] (find_A s mg tm now g cc b) (by rfl) (by rfl) (by rfl) (by rfl) (by rfl) ?_
    | refine O_callA [6, 0] (find_A s mg tm now g cc b) (by rfl) (by rfl) (by rfl) (by rfl) (by rfl) ?_
    | refine O_callA [6, 1] (find_A s mg tm now g cc b) (by rfl) (by rfl) (by rfl) (by rfl) (by rfl) ?_
    | refine O_callA [6, 2] (find_A s mg tm now g cc b) (by rfl) (by rfl) (by rfl) (by rfl) (by rfl) ?_
    | refine O_callA [6, 3] (find_A s mg tm now g cc b) (by rfl) (by rfl) (by rfl) (by rfl) (by rfl) ?_
    | refine O_callA [6, 4] (find_A s mg tm now g cc b) (by rfl) (by rfl) (by rfl) (by rfl) (by rfl) ?_
    | refine O_callA [6, 5] (find_A s mg tm now g cc b) (by rfl) (by rfl) (by rfl) (by rfl) (by rfl) ?_
  rintro r' cs' ⟨rfl, rfl⟩
  repeat (first|refine sc rfl ?_|refine so rfl ?_|refine sb rfl ?_)
  refine C_false rfl rfl ?_
  repeat (first|refine sc rfl ?_|refine so rfl ?_|refine sb rfl ?_)
  first
    | refine O_loadP 0 (reads_box 3) rfl rfl rfl rfl rfl rfl ?_
    | refine O_loadP 1 (reads_box 3) rfl rfl rfl rfl rfl rfl ?_
    | refine O_loadP 2 (reads_box 3) rfl rfl rfl rfl rfl rfl ?_
    | refine O_loadP 3 (reads_box 3) rfl rfl rfl rfl rfl rfl ?_
    | refine O_loadP 4 (reads_box 3) rfl rfl rfl rfl rfl rfl ?_
  repeat (first|refine sc rfl ?_|refine so rfl ?_|refine sb rfl ?_)
  exact ⟨_, [_, _, _], _, rfl, pickA_perm (is := [0, 0, 0]) (As := [_, _, _]) rfl, rfl, rfl, rfl⟩
theorem open_A (s mg tm : Nat) (now : Int) : FnA Tryz.prog 91 [PT s 67] [srvL s mg tm now (.slice none 0 0)] (fun r cs' => ∃ g cc b, r = .tup [I64 0, I64 0] ∧ cs' = [srvL s mg tm now (HD g 1 cc), lnsA (HD g 1 cc) b, lnA b [] 0 0 (-1) (.slice none 0 0)]) := by
  refine FnA.intro Tryz.tabOK Tryz.wide_ Tryz.func91 rfl (by decide) rfl (fun X => ?_)
  repeat (first|refine sc rfl ?_|refine so rfl ?_|refine sb rfl ?_)
  refine O_Xd (X_ptrnil Tryz.underlying251 rfl rfl rfl) ?_
  repeat (first|refine sc rfl ?_|refine so rfl ?_|refine sb rfl ?_)
  refine C_false rfl rfl ?_
  repeat (first|refine sc rfl ?_|refine so rfl ?_|refine sb rfl ?_)
  first
    | refine O_loadP 0 (reads_box 67) rfl rfl rfl rfl rfl rfl ?_
    | refine O_loadP 1 (reads_box 67) rfl rfl rfl rfl rfl rfl ?_
    | refine O_loadP 2 (reads_box 67) rfl rfl rfl rfl rfl rfl ?_
    | refine O_loadP 3 (reads_box 67) rfl rfl rfl rfl rfl rfl ?_
    | refine O_loadP 4 (reads_box 67) rfl rfl rfl rfl rfl rfl ?_
  repeat (first|refine sc rfl ?_|refine so rfl ?_|refine sb rfl ?_)
  refine C_false rfl (by decide) ?_
  repeat (first|refine sc rfl ?_|refine so rfl ?_|refine sb rfl ?_)
  first
    | refine O_loadP 0 (reads_box 67) rfl rfl rfl rfl rfl rfl ?_
    | refine O_loadP 1 (reads_box 67) rfl rfl rfl rfl rfl rfl ?_
    | refine O_loadP 2 (reads_box 67) rfl rfl rfl rfl rfl rfl ?_
    | refine O_loadP 3 (reads_box 67) rfl rfl rfl rfl rfl rfl ?_
    | refine O_loadP 4 (reads_box 67) rfl rfl rfl rfl rfl rfl ?_
  iterate 2 (first|refine so rfl ?_|refine sb rfl ?_)
  refine O_absb 20 rfl rfl rfl (fun b => ?_)
  repeat (first|refine sc rfl ?_|refine so rfl ?_|refine sb rfl ?_)
  refine O_le _ (Le.freeze 21 rfl rfl) ?_
  refine O_le _ (Le.addVec 252 1 (fun _ => [PT b 0])) ?_
  refine O_appendV 0 (m2 := 1) (m3 := 1) (row3 := fun _ => [PT b 0]) rfl rfl rfl rfl rfl rfl (fun i hi => ?_) rfl (by decide) (by decide) rfl (fun i hi => ?_) (fun v' hv' => ?_)
  · obtain rfl : i = 0 := Nat.lt_one_iff.1 hi
    rfl
  · obtain rfl : i = 0 := Nat.lt_one_iff.1 hi
    rfl
  obtain ⟨g, cc, rfl⟩ := hv'.resolve_left (fun h => by simp at h)
  repeat (first|refine sc rfl ?_|refine so rfl ?_|refine sb rfl ?_)
  first
    | refine O_Xn (X_storeP 0 (writes_box (by show 67 < 82; decide)) rfl rfl rfl rfl rfl rfl rfl) ?_
    | refine O_Xn (X_storeP 1 (writes_box (by show 67 < 82; decide)) rfl rfl rfl rfl rfl rfl rfl) ?_
    | refine O_Xn (X_storeP 2 (writes_box (by show 67 < 82; decide)) rfl rfl rfl rfl rfl rfl rfl) ?_
    | refine O_Xn (X_storeP 3 (writes_box (by show 67 < 82; decide)) rfl rfl rfl rfl rfl rfl rfl) ?_
    | refine O_Xn (X_storeP 4 (writes_box (by show 67 < 82; decide)) rfl rfl rfl rfl rfl rfl rfl) ?_
  repeat (first|refine sc rfl ?_|refine so rfl ?_|refine sb rfl ?_)
  first
    | refine O_loadP 0 (reads_box 67) rfl rfl rfl rfl rfl rfl ?_
    | refine O_loadP 1 (reads_box 67) rfl rfl rfl rfl rfl rfl ?_
    | refine O_loadP 2 (reads_box 67) rfl rfl rfl rfl rfl rfl ?_
    | refine O_loadP 3 (reads_box 67) rfl rfl rfl rfl rfl rfl ?_
    | refine O_loadP 4 (reads_box 67) rfl rfl rfl rfl rfl rfl ?_
  repeat (first|refine sc rfl ?_|refine so rfl ?_|refine sb rfl ?_)
  exact ⟨_, [_, _, _], _, rfl, pickA_perm (is := [0, 0, 0]) (As := [_, _, _]) rfl, rfl, g, cc, b, rfl, rfl⟩
theorem vec_cap {g m cc : Nat} {t : TypeId} {esz : Nat} {row : Nat → List AV} {G : IM} {w : World} (h : (vecA (HD g m cc) t esz m row).ok G w) : m ≤ cc := by
  obtain ⟨xs, h1, h2⟩ := h
  rcases h1.2 with ⟨hnil, hm⟩ | ⟨g', cap, cur, hsl, _, hg, hcap, hmax, hcs, htake⟩
  · cases hnil
  · simp only [HD, Value.slice.injEq, Option.some.injEq, Addr.mk.injEq, and_true, true_and] at hsl
    obtain ⟨rfl, h3⟩ := hsl
    omega
theorem shut_A (s mg tm : Nat) (now : Int) (g cc b : Nat) (rest : List UInt8) (e own : Int) (out : Value) : FnA Tryz.prog 136 [PT s 67, I64 0] [srvL s mg tm now (HD g 1 cc), lnsA (HD g 1 cc) b, lnA b rest e 0 own out] (fun r cs' => r = I64 0 ∧ cs' = [srvL s mg tm now (HD g 1 cc), lnsA (HD g 1 cc) b, lnA b rest e 2 own out]) := by
  refine FnA.intro Tryz.tabOK Tryz.wide_ Tryz.func136 rfl (by decide) rfl (fun X => ?_)
  repeat (first|refine sc rfl ?_|refine so rfl ?_|refine sb rfl ?_)
  first
    | refine O_callA [0, 0] (find_A s mg tm now g cc b) (by rfl) (by rfl) (by rfl) (by rfl) (by rfl) ?_
    | refine O_callA [0, 1] (find_A s mg tm now g cc b) (by rfl) (by rfl) (by rfl) (by rfl) (by rfl) ?_
    | refine O_callA [0, 2] (find_A s mg tm now g cc b) (by rfl) (by rfl) (by rfl) (by rfl) (by rfl) ?_
    | refine O_callA [0, 3] (find_A s mg tm now g cc b) (by rfl) (by rfl) (by rfl) (by rfl) (by rfl) ?_
    | refine O_callA [0, 4] (find_A s mg tm now g cc b) (by rfl) (by rfl) (by rfl) (by rfl) (by rfl) ?_
    | refine O_callA [0, 5] (find_A s mg tm now g cc b) (by rfl) (by rfl) (by rfl) (by rfl) (by rfl) ?_
    | refine O_callA [1, 0] (find_A s mg tm now g cc b) (by rfl) (by rfl) (by rfl) (by rfl) (by rfl) ?_
    | refine O_callA [1, 1] (find_A s mg tm now g cc b) (by rfl) (by rfl) (by rfl) (by rfl) (by rfl) ?_
    | refine O_callA [1, 2] (find_A s mg tm now g cc b) (by rfl) (by rfl) (by rfl) (by rfl) (by rfl) ?_
    | refine O_callA [1, 3] (find_A s mg tm now g cc b) (by rfl) (by rfl) (by rfl) (by rfl) (by rfl) ?_
    | refine O_callA [1, 4] (find_A s mg tm now g cc b) (by rfl) (by rfl) (by rfl) (by rfl) (by rfl) ?_
    | refine O_callA [1, 5] (find_A s mg tm now g cc b) (by rfl) (by rfl) (by rfl) (by rfl) (by rfl) ?_
    | refine O_callA [2, 0] (find_A s mg tm now g cc b) (by rfl) (by rfl) (by rfl) (by rfl) (by rfl) ?_
    | refine O_callA [2, 1] (find_A s mg tm now g cc b) (by rfl) (by rfl) (by rfl) (by rfl) (by rfl) ?_
    | refine O_callA [2, 2] (find_A s mg tm now g cc b) (by rfl) (by rfl) (by rfl) (by rfl) (by rfl) ?_
    | refine O_callA [2, 3] (find_A s mg tm now g cc b) (by rfl) (by rfl) (by rfl) (by rfl) (by rfl) ?_
    | refine O_callA [2, 4] (find_A s mg tm now g cc b) (by rfl) (by rfl) (by rfl) (by rfl) (by rfl) ?_
    | refine O_callA [2, 5] (find_A s mg tm now g cc b) (by rfl) (by rfl) (by rfl) (by rfl) (by rfl) ?_
    | refine O_callA [3, 0] (find_A s mg tm now g cc b) (by rfl) (by rfl) (by rfl) (by rfl) (by rfl) ?_
    | refine O_callA [3, 1] (find_A s mg tm now g cc b) (by rfl) (by rfl) (by rfl) (by rfl) (by rfl) ?_
    | refine O_callA [3, 2] (find_A s mg tm now g cc b) (by rfl) (by rfl) (by rfl) (by rfl) (by rfl) ?_
    | refine O_callA [3, 3] (find_A s mg tm now g cc b) (by rfl) (by rfl) (by rfl) (by rfl) (by rfl) ?_
    | refine O_callA [3, 4] (find_A s mg tm now g cc b) (by rfl) (by rfl) (by rfl) (by rfl) (by rfl) ?_
    | refine O_callA [3, 5] (find_A s mg tm now g cc b) (by rfl) (by rfl) (by rfl) (by rfl) (by rfl) ?_
    | refine O_callA [4, 0] (find_A s mg tm now g cc b) (by rfl) (by rfl) (by rfl) (by rfl) (by rfl) ?_
    | refine O_callA [4, 1] (find_A s mg tm now g cc b) (by rfl) (by rfl) (by rfl) (by rfl) (by rfl) ?_
    | refine O_callA [4, 2] (find_A s mg tm now g cc b) (by rfl) (by rfl) (by rfl) (by rfl) (by rfl) ?_
    | refine O_callA [4, 3] (find_A s mg tm now g cc b) (by rfl) (by rfl) (by rfl) (by rfl) (by rfl) ?_
    | refine O_callA [4, 4] (find_A s mg tm now g cc b) (by rfl) (by rfl) (by rfl) (by rfl) (by rfl) ?_
    | refine O_callA [4, 5] (find_A s mg tm now g cc b) (by rfl) (by rfl) (by rfl) (by rfl) (by rfl) ?_
    | refine O_callA [5, 0] (find_A s mg tm now g cc b) (by rfl) (by rfl) (by rfl) (by rfl) (by rfl) ?_
    | refine O_callA [5, 1] (find_A s mg tm now g cc b) (by rfl) (by rfl) (by rfl) (by rfl) (by rfl) ?_
    | refine O_callA [5, 2] (find_A s mg tm now g cc b) (by rfl) (by rfl) (by rfl) (by rfl) (by rfl) ?_
    | refine O_callA [5, 3] (find_A s mg tm now g cc b) (by rfl) (by rfl) (by rfl) (by rfl) (by rfl) ?_
    | refine O_callA [5, 4] (find_A s mg tm now g cc b) (by rfl) (by rfl) (by rfl) (by rfl) (by rfl) ?_
    | refine O_callA [5, 5] (find_A s mg tm now g cc b) (by rfl) (by rfl) (by rfl) (by rfl) (by rfl) ?_
    | refine O_callA [6, 0] (find_A s mg tm now g cc b) (by rfl) (by rfl) (by rfl) (by rfl) (by rfl) ?_
    | refine O_callA [6, 1] (find_A s mg tm now g cc b) (by rfl) (by rfl) (by rfl) (by rfl) (by rfl) ?_
    | refine O_callA [6, 2] (find_A s mg tm now g cc b) (by rfl) (by rfl) (by rfl) (by rfl) (by rfl) ?_
    | refine O_callA [6, 3] (find_A s mg tm now g cc b) (by rfl) (by rfl) (by rfl) (by rfl) (by rfl) ?_
    | refine O_callA [6, 4] (find_A s mg tm now g cc b) (by rfl) (by rfl) (by rfl) (by rfl) (by rfl) ?_
    | refine O_callA [6, 5] (find_A s mg tm now g cc b) (by rfl) (by rfl) (by rfl) (by rfl) (by rfl) ?_
  rintro r' cs' ⟨rfl, rfl⟩
  repeat (first|refine sc rfl ?_|refine so rfl ?_|refine sb rfl ?_)
  refine C_false rfl rfl ?_
  repeat (first|refine sc rfl ?_|refine so rfl ?_|refine sb rfl ?_)
  first
    | refine O_callA [0] (takes_A b rest e 0 own out) (by rfl) (by rfl) (by rfl) (by rfl) (by rfl) ?_
    | refine O_callA [1] (takes_A b rest e 0 own out) (by rfl) (by rfl) (by rfl) (by rfl) (by rfl) ?_
    | refine O_callA [2] (takes_A b rest e 0 own out) (by rfl) (by rfl) (by rfl) (by rfl) (by rfl) ?_
    | refine O_callA [3] (takes_A b rest e 0 own out) (by rfl) (by rfl) (by rfl) (by rfl) (by rfl) ?_
    | refine O_callA [4] (takes_A b rest e 0 own out) (by rfl) (by rfl) (by rfl) (by rfl) (by rfl) ?_
  rintro r' cs' ⟨rfl, rfl⟩
  repeat (first|refine sc rfl ?_|refine so rfl ?_|refine sb rfl ?_)
  refine C_false rfl rfl ?_
  repeat (first|refine sc rfl ?_|refine so rfl ?_|refine sb rfl ?_)
  first
    | refine O_Xn (X_storeP 0 (writes_box (by show 2 < 5; decide)) rfl rfl rfl rfl rfl rfl rfl) ?_
    | refine O_Xn (X_storeP 1 (writes_box (by show 2 < 5; decide)) rfl rfl rfl rfl rfl rfl rfl) ?_
    | refine O_Xn (X_storeP 2 (writes_box (by show 2 < 5; decide)) rfl rfl rfl rfl rfl rfl rfl) ?_
    | refine O_Xn (X_storeP 3 (writes_box (by show 2 < 5; decide)) rfl rfl rfl rfl rfl rfl rfl) ?_
    | refine O_Xn (X_storeP 4 (writes_box (by show 2 < 5; decide)) rfl rfl rfl rfl rfl rfl rfl) ?_
  repeat (first|refine sc rfl ?_|refine so rfl ?_|refine sb rfl ?_)
  first
    | exact ⟨_, [_, _, _], _, rfl, pickA_perm (is := [1, 1, 0]) (As := [_, _, _]) rfl, rfl, rfl, rfl⟩
    | exact ⟨_, [_, _, _], _, rfl, pickA_perm (is := [0, 0, 0]) (As := [_, _, _]) rfl, rfl, rfl, rfl⟩
theorem send_A (s mg tm : Nat) (now : Int) (g cc b : Nat) (rest x : List UInt8) (e own : Int) : FnA Tryz.prog 96 [PT s 67, I64 0, .s x] [srvL s mg tm now (HD g 1 cc), lnsA (HD g 1 cc) b, lnA b rest e 0 own (.slice none 0 0)] (fun r cs' => ∃ h d, 1 ≤ d ∧ r = I64 0 ∧ cs' = [srvL s mg tm now (HD g 1 cc), lnsA (HD g 1 cc) b, lnA b rest e 0 own (HD h 1 d), outA (HD h 1 d) x]) := by
  refine FnA.intro Tryz.tabOK Tryz.wide_ Tryz.func96 rfl (by decide) rfl (fun X => ?_)
  repeat (first|refine sc rfl ?_|refine so rfl ?_|refine sb rfl ?_)
  first
    | refine O_callA [0, 0] (find_A s mg tm now g cc b) (by rfl) (by rfl) (by rfl) (by rfl) (by rfl) ?_
    | refine O_callA [0, 1] (find_A s mg tm now g cc b) (by rfl) (by rfl) (by rfl) (by rfl) (by rfl) ?_
    | refine O_callA [0, 2] (find_A s mg tm now g cc b) (by rfl) (by rfl) (by rfl) (by rfl) (by rfl) ?_
    | refine O_callA [0, 3] (find_A s mg tm now g cc b) (by rfl) (by rfl) (by rfl) (by rfl) (by rfl) ?_
    | refine O_callA [0, 4] (find_A s mg tm now g cc b) (by rfl) (by rfl) (by rfl) (by rfl) (by rfl) ?_
    | refine O_callA [0, 5] (find_A s mg tm now g cc b) (by rfl) (by rfl) (by rfl) (by rfl) (by rfl) ?_
    | refine O_callA [1, 0] (find_A s mg tm now g cc b) (by rfl) (by rfl) (by rfl) (by rfl) (by rfl) ?_
    | refine O_callA [1, 1] (find_A s mg tm now g cc b) (by rfl) (by rfl) (by rfl) (by rfl) (by rfl) ?_
    | refine O_callA [1, 2] (find_A s mg tm now g cc b) (by rfl) (by rfl) (by rfl) (by rfl) (by rfl) ?_
    | refine O_callA [1, 3] (find_A s mg tm now g cc b) (by rfl) (by rfl) (by rfl) (by rfl) (by rfl) ?_
    | refine O_callA [1, 4] (find_A s mg tm now g cc b) (by rfl) (by rfl) (by rfl) (by rfl) (by rfl) ?_
    | refine O_callA [1, 5] (find_A s mg tm now g cc b) (by rfl) (by rfl) (by rfl) (by rfl) (by rfl) ?_
    | refine O_callA [2, 0] (find_A s mg tm now g cc b) (by rfl) (by rfl) (by rfl) (by rfl) (by rfl) ?_
    | refine O_callA [2, 1] (find_A s mg tm now g cc b) (by rfl) (by rfl) (by rfl) (by rfl) (by rfl) ?_
    | refine O_callA [2, 2] (find_A s mg tm now g cc b) (by rfl) (by rfl) (by rfl) (by rfl) (by rfl) ?_
    | refine O_callA [2, 3] (find_A s mg tm now g cc b) (by rfl) (by rfl) (by rfl) (by rfl) (by rfl) ?_
    | refine O_callA [2, 4] (find_A s mg tm now g cc b) (by rfl) (by rfl) (by rfl) (by rfl) (by rfl) ?_
    | refine O_callA [2, 5] (find_A s mg tm now g cc b) (by rfl) (by rfl) (by rfl) (by rfl) (by rfl) ?_
    | refine O_callA [3, 0] (find_A s mg tm now g cc b) (by rfl) (by rfl) (by rfl) (by rfl) (by rfl) ?_
    | refine O_callA [3, 1] (find_A s mg tm now g cc b) (by rfl) (by rfl) (by rfl) (by rfl) (by rfl) ?_
    | refine O_callA [3, 2] (find_A s mg tm now g cc b) (by rfl) (by rfl) (by rfl) (by rfl) (by rfl) ?_
    | refine O_callA [3, 3] (find_A s mg tm now g cc b) (by rfl) (by rfl) (by rfl) (by rfl) (by rfl) ?_
    | refine O_callA [3, 4] (find_A s mg tm now g cc b) (by rfl) (by rfl) (by rfl) (by rfl) (by rfl) ?_
    | refine O_callA [3, 5] (find_A s mg tm now g cc b) (by rfl) (by rfl) (by rfl) (by rfl) (by rfl) ?_
    | refine O_callA [4, 0] (find_A s mg tm now g cc b) (by rfl) (by rfl) (by rfl) (by rfl) (by rfl) ?_
    | refine O_callA [4, 1] (find_A s mg tm now g cc b) (by rfl) (by rfl) (by rfl) (by rfl) (by rfl) ?_
    | refine O_callA [4, 2] (find_A s mg tm now g cc b) (by rfl) (by rfl) (by rfl) (by rfl) (by rfl) ?_
    | refine O_callA [4, 3] (find_A s mg tm now g cc b) (by rfl) (by rfl) (by rfl) (by rfl) (by rfl) ?_
    | refine O_callA [4, 4] (find_A s mg tm now g cc b) (by rfl) (by rfl) (by rfl) (by rfl) (by rfl) ?_
    | refine O_callA [4, 5] (find_A s mg tm now g cc b) (by rfl) (by rfl) (by rfl) (by rfl) (by rfl) ?_
    | refine O_callA [5, 0] (find_A s mg tm now g cc b) (by rfl) (by rfl) (by rfl) (by rfl) (by rfl) ?_
    | refine O_callA [5, 1] (find_A s mg tm now g cc b) (by rfl) (by rfl) (by rfl) (by rfl) (by rfl) ?_
    | refine O_callA [5, 2] (find_A s mg tm now g cc b) (by rfl) (by rfl) (by rfl) (by rfl) (by rfl) ?_
    | refine O_callA [5, 3] (find_A s mg tm now g cc b) (by rfl) (by rfl) (by rfl) (by rfl) (by rfl) ?_
    | refine O_callA [5, 4] (find_A s mg tm now g cc b) (by rfl) (by rfl) (by rfl) (by rfl) (by rfl) ?_
    | refine O_callA [5, 5] (find_A s mg tm now g cc b) (by rfl) (by rfl) (by rfl) (by rfl) (by rfl) ?_
    | refine O_callA [6, 0] (find_A s mg tm now g cc b) (by rfl) (by rfl) (by rfl) (by rfl) (by rfl) ?_
    | refine O_callA [6, 1] (find_A s mg tm now g cc b) (by rfl) (by rfl) (by rfl) (by rfl) (by rfl) ?_
    | refine O_callA [6, 2] (find_A s mg tm now g cc b) (by rfl) (by rfl) (by rfl) (by rfl) (by rfl) ?_
    | refine O_callA [6, 3] (find_A s mg tm now g cc b) (by rfl) (by rfl) (by rfl) (by rfl) (by rfl) ?_
    | refine O_callA [6, 4] (find_A s mg tm now g cc b) (by rfl) (by rfl) (by rfl) (by rfl) (by rfl) ?_
    | refine O_callA [6, 5] (find_A s mg tm now g cc b) (by rfl) (by rfl) (by rfl) (by rfl) (by rfl) ?_
  rintro r' cs' ⟨rfl, rfl⟩
  repeat (first|refine sc rfl ?_|refine so rfl ?_|refine sb rfl ?_)
  refine C_false rfl rfl ?_
  repeat (first|refine sc rfl ?_|refine so rfl ?_|refine sb rfl ?_)
  first
    | refine O_loadP 0 (reads_box 2) rfl rfl rfl rfl rfl rfl ?_
    | refine O_loadP 1 (reads_box 2) rfl rfl rfl rfl rfl rfl ?_
    | refine O_loadP 2 (reads_box 2) rfl rfl rfl rfl rfl rfl ?_
    | refine O_loadP 3 (reads_box 2) rfl rfl rfl rfl rfl rfl ?_
    | refine O_loadP 4 (reads_box 2) rfl rfl rfl rfl rfl rfl ?_
  repeat (first|refine sc rfl ?_|refine so rfl ?_|refine sb rfl ?_)
  refine C_false rfl rfl ?_
  repeat (first|refine sc rfl ?_|refine so rfl ?_|refine sb rfl ?_)
  first
    | refine O_loadP 0 (reads_box 4) rfl rfl rfl rfl rfl rfl ?_
    | refine O_loadP 1 (reads_box 4) rfl rfl rfl rfl rfl rfl ?_
    | refine O_loadP 2 (reads_box 4) rfl rfl rfl rfl rfl rfl ?_
    | refine O_loadP 3 (reads_box 4) rfl rfl rfl rfl rfl rfl ?_
    | refine O_loadP 4 (reads_box 4) rfl rfl rfl rfl rfl rfl ?_
  repeat (first|refine sc rfl ?_|refine so rfl ?_|refine sb rfl ?_)
  refine O_le _ (Le.freeze 31 rfl rfl) ?_
  refine O_le _ (Le.addVec 9 1 (fun _ => [.s x])) ?_
  refine O_appendV 0 (m2 := 1) (m3 := 1) (row3 := fun _ => [.s x]) rfl rfl rfl rfl rfl rfl (fun i hi => ?_) rfl (by decide) (by decide) rfl (fun i hi => ?_) (fun v' hv' => ?_)
  · obtain rfl : i = 0 := Nat.lt_one_iff.1 hi
    rfl
  · obtain rfl : i = 0 := Nat.lt_one_iff.1 hi
    rfl
  obtain ⟨h, d, rfl⟩ := hv'.resolve_left (fun h => by simp at h)
  refine O_know 0 (1 ≤ d) rfl (fun G w hok _ => vec_cap hok) (fun hd => ?_)
  repeat (first|refine sc rfl ?_|refine so rfl ?_|refine sb rfl ?_)
  first
    | refine O_Xn (X_storeP 0 (writes_box (by show 4 < 5; decide)) rfl rfl rfl rfl rfl rfl rfl) ?_
    | refine O_Xn (X_storeP 1 (writes_box (by show 4 < 5; decide)) rfl rfl rfl rfl rfl rfl rfl) ?_
    | refine O_Xn (X_storeP 2 (writes_box (by show 4 < 5; decide)) rfl rfl rfl rfl rfl rfl rfl) ?_
    | refine O_Xn (X_storeP 3 (writes_box (by show 4 < 5; decide)) rfl rfl rfl rfl rfl rfl rfl) ?_
    | refine O_Xn (X_storeP 4 (writes_box (by show 4 < 5; decide)) rfl rfl rfl rfl rfl rfl rfl) ?_
  repeat (first|refine sc rfl ?_|refine so rfl ?_|refine sb rfl ?_)
  first
    | exact ⟨_, [_, _, _, _], _, rfl, pickA_perm (is := [2, 2, 0, 0]) (As := [_, _, _, _]) rfl, rfl, h, d, hd, rfl, rfl⟩
    | exact ⟨_, [_, _, _, _], _, rfl, pickA_perm (is := [2, 2, 1, 0]) (As := [_, _, _, _]) rfl, rfl, h, d, hd, rfl, rfl⟩
theorem waits_A (s mg tm : Nat) (now : Int) (g cc b : Nat) (rest : List UInt8) (e st own : Int) (a : Option Addr) (m c : Nat) : FnA Tryz.prog 137 [PT s 67, I64 0] [srvL s mg tm now (HD g 1 cc), lnsA (HD g 1 cc) b, lnA b rest e st own (.slice a m c)] (fun r cs' => r = I64 (m : Nat) ∧ cs' = [srvL s mg tm now (HD g 1 cc), lnsA (HD g 1 cc) b, lnA b rest e st own (.slice a m c)]) := by
  refine FnA.intro Tryz.tabOK Tryz.wide_ Tryz.func137 rfl (by decide) rfl (fun X => ?_)
  repeat (first|refine sc rfl ?_|refine so rfl ?_|refine sb rfl ?_)
  first
    | refine O_callA [0, 0] (find_A s mg tm now g cc b) (by rfl) (by rfl) (by rfl) (by rfl) (by rfl) ?_
    | refine O_callA [0, 1] (find_A s mg tm now g cc b) (by rfl) (by rfl) (by rfl) (by rfl) (by rfl) ?_
    | refine O_callA [0, 2] (find_A s mg tm now g cc b) (by rfl) (by rfl) (by rfl) (by rfl) (by rfl) ?_
    | refine O_callA [0, 3] (find_A s mg tm now g cc b) (by rfl) (by rfl) (by rfl) (by rfl) (by rfl) ?_
    | refine O_callA [0, 4] (find_A s mg tm now g cc b) (by rfl) (by rfl) (by rfl) (by rfl) (by rfl) ?_
    | refine O_callA [0, 5] (find_A s mg tm now g cc b) (by rfl) (by rfl) (by rfl) (by rfl) (by rfl) ?_
    | refine O_callA [1, 0] (find_A s mg tm now g cc b) (by rfl) (by rfl) (by rfl) (by rfl) (by rfl) ?_
    | refine O_callA [1, 1] (find_A s mg tm now g cc b) (by rfl) (by rfl) (by rfl) (by rfl) (by rfl) ?_
    | refine O_callA [1, 2] (find_A s mg tm now g cc b) (by rfl) (by rfl) (by rfl) (by rfl) (by rfl) ?_
    | refine O_callA [1, 3] (find_A s mg tm now g cc b) (by rfl) (by rfl) (by rfl) (by rfl) (by rfl) ?_
    | refine O_callA [1, 4] (find_A s mg tm now g cc b) (by rfl) (by rfl) (by rfl) (by rfl) (by rfl) ?_
    | refine O_callA [1, 5] (find_A s mg tm now g cc b) (by rfl) (by rfl) (by rfl) (by rfl) (by rfl) ?_
    | refine O_callA [2, 0] (find_A s mg tm now g cc b) (by rfl) (by rfl) (by rfl) (by rfl) (by rfl) ?_
    | refine O_callA [2, 1] (find_A s mg tm now g cc b) (by rfl) (by rfl) (by rfl) (by rfl) (by rfl) ?_
    | refine O_callA [2, 2] (find_A s mg tm now g cc b) (by rfl) (by rfl) (by rfl) (by rfl) (by rfl) ?_
    | refine O_callA [2, 3] (find_A s mg tm now g cc b) (by rfl) (by rfl) (by rfl) (by rfl) (by rfl) ?_
    | refine O_callA [2, 4] (find_A s mg tm now g cc b) (by rfl) (by rfl) (by rfl) (by rfl) (by rfl) ?_
    | refine O_callA [2, 5] (find_A s mg tm now g cc b) (by rfl) (by rfl) (by rfl) (by rfl) (by rfl) ?_
    | refine O_callA [3, 0] (find_A s mg tm now g cc b) (by rfl) (by rfl) (by rfl) (by rfl) (by rfl) ?_
    | refine O_callA [3, 1] (find_A s mg tm now g cc b) (by rfl) (by rfl) (by rfl) (by rfl) (by rfl) ?_
    | refine O_callA [3, 2] (find_A s mg tm now g cc b) (by rfl) (by rfl) (by rfl) (by rfl) (by rfl) ?_
    | refine O_callA [3, 3] (find_A s mg tm now g cc b) (by rfl) (by rfl) (by rfl) (by rfl) (by rfl) ?_
    | refine O_callA [3, 4] (find_A s mg tm now g cc b) (by rfl) (by rfl) (by rfl) (by rfl) (by rfl) ?_
    | refine O_callA [3, 5] (find_A s mg tm now g cc b) (by rfl) (by rfl) (by rfl) (by rfl) (by rfl) ?_
    | refine O_callA [4, 0] (find_A s mg tm now g cc b) (by rfl) (by rfl) (by rfl) (by rfl) (by rfl) ?_
    | refine O_callA [4, 1] (find_A s mg tm now g cc b) (by rfl) (by rfl) (by rfl) (by rfl) (by rfl) ?_
    | refine O_callA [4, 2] (find_A s mg tm now g cc b) (by rfl) (by rfl) (by rfl) (by rfl) (by rfl) ?_
    | refine O_callA [4, 3] (find_A s mg tm now g cc b) (by rfl) (by rfl) (by rfl) (by rfl) (by rfl) ?_
    | refine O_callA [4, 4] (find_A s mg tm now g cc b) (by rfl) (by rfl) (by rfl) (by rfl) (by rfl) ?_
    | refine O_callA [4, 5] (find_A s mg tm now g cc b) (by rfl) (by rfl) (by rfl) (by rfl) (by rfl) ?_
    | refine O_callA [5, 0] (find_A s mg tm now g cc b) (by rfl) (by rfl) (by rfl) (by rfl) (by rfl) ?_
    | refine O_callA [5, 1] (find_A s mg tm now g cc b) (by rfl) (by rfl) (by rfl) (by rfl) (by rfl) ?_
    | refine O_callA [5, 2] (find_A s mg tm now g cc b) (by rfl) (by rfl) (by rfl) (by rfl) (by rfl) ?_
    | refine O_callA [5, 3] (find_A s mg tm now g cc b) (by rfl) (by rfl) (by rfl) (by rfl) (by rfl) ?_
    | refine O_callA [5, 4] (find_A s mg tm now g cc b) (by rfl) (by rfl) (by rfl) (by rfl) (by rfl) ?_
    | refine O_callA [5, 5] (find_A s mg tm now g cc b) (by rfl) (by rfl) (by rfl) (by rfl) (by rfl) ?_
    | refine O_callA [6, 0] (find_A s mg tm now g cc b) (by rfl) (by rfl) (by rfl) (by rfl) (by rfl) ?_
    | refine O_callA [6, 1] (find_A s mg tm now g cc b) (by rfl) (by rfl) (by rfl) (by rfl) (by rfl) ?_
    | refine O_callA [6, 2] (find_A s mg tm now g cc b) (by rfl) (by rfl) (by rfl) (by rfl) (by rfl) ?_
    | refine O_callA [6, 3] (find_A s mg tm now g cc b) (by rfl) (by rfl) (by rfl) (by rfl) (by rfl) ?_
    | refine O_callA [6, 4] (find_A s mg tm now g cc b) (by rfl) (by rfl) (by rfl) (by rfl) (by rfl) ?_
    | refine O_callA [6, 5] (find_A s mg tm now g cc b) (by rfl) (by rfl) (by rfl) (by rfl) (by rfl) ?_
  rintro r' cs' ⟨rfl, rfl⟩
  repeat (first|refine sc rfl ?_|refine so rfl ?_|refine sb rfl ?_)
  refine C_false rfl rfl ?_
  repeat (first|refine sc rfl ?_|refine so rfl ?_|refine sb rfl ?_)
  first
    | refine O_loadP 0 (reads_box 4) rfl rfl rfl rfl rfl rfl ?_
    | refine O_loadP 1 (reads_box 4) rfl rfl rfl rfl rfl rfl ?_
    | refine O_loadP 2 (reads_box 4) rfl rfl rfl rfl rfl rfl ?_
    | refine O_loadP 3 (reads_box 4) rfl rfl rfl rfl rfl rfl ?_
    | refine O_loadP 4 (reads_box 4) rfl rfl rfl rfl rfl rfl ?_
  repeat (first|refine sc rfl ?_|refine so rfl ?_|refine sb rfl ?_)
  exact ⟨_, [_, _, _], _, rfl, pickA_perm (is := [0, 0, 0]) (As := [_, _, _]) rfl, rfl, rfl, rfl⟩
theorem deliver1_A (s mg tm : Nat) (now : Int) (g cc b : Nat) (rest x : List UInt8) (e own : Int) (h d : Nat) (hd : 1 ≤ d) : FnA Tryz.prog 138 [PT s 67, I64 0] [srvL s mg tm now (HD g 1 cc), lnsA (HD g 1 cc) b, lnA b rest e 2 own (HD h 1 d), outA (HD h 1 d) x] (fun r cs' => ∃ a c, r = .tup [.s x, B false, I64 0] ∧ cs' = [srvL s mg tm now (HD g 1 cc), lnsA (HD g 1 cc) b, lnA b rest e 2 own (.slice a 0 c)]) := by
  refine FnA.intro Tryz.tabOK Tryz.wide_ Tryz.func138 rfl (by decide) rfl (fun X => ?_)
  repeat (first|refine sc rfl ?_|refine so rfl ?_|refine sb rfl ?_)
  first
    | refine O_callA [0, 0] (find_A s mg tm now g cc b) (by rfl) (by rfl) (by rfl) (by rfl) (by rfl) ?_
    | refine O_callA [0, 1] (find_A s mg tm now g cc b) (by rfl) (by rfl) (by rfl) (by rfl) (by rfl) ?_
    | refine O_callA [0, 2] (find_A s mg tm now g cc b) (by rfl) (by rfl) (by rfl) (by rfl) (by rfl) ?_
    | refine O_callA [0, 3] (find_A s mg tm now g cc b) (by rfl) (by rfl) (by rfl) (by rfl) (by rfl) ?_
    | refine O_callA [0, 4] (find_A s mg tm now g cc b) (by rfl) (by rfl) (by rfl) (by rfl) (by rfl) ?_
    | refine O_callA [0, 5] (find_A s mg tm now g cc b) (by rfl) (by rfl) (by rfl) (by rfl) (by rfl) ?_
    | refine O_callA [1, 0] (find_A s mg tm now g cc b) (by rfl) (by rfl) (by rfl) (by rfl) (by rfl) ?_
    | refine O_callA [1, 1] (find_A s mg tm now g cc b) (by rfl) (by rfl) (by rfl) (by rfl) (by rfl) ?_
    | refine O_callA [1, 2] (find_A s mg tm now g cc b) (by rfl) (by rfl) (by rfl) (by rfl) (by rfl) ?_
    | refine O_callA [1, 3] (find_A s mg tm now g cc b) (by rfl) (by rfl) (by rfl) (by rfl) (by rfl) ?_
    | refine O_callA [1, 4] (find_A s mg tm now g cc b) (by rfl) (by rfl) (by rfl) (by rfl) (by rfl) ?_
    | refine O_callA [1, 5] (find_A s mg tm now g cc b) (by rfl) (by rfl) (by rfl) (by rfl) (by rfl) ?_
    | refine O_callA [2, 0] (find_A s mg tm now g cc b) (by rfl) (by rfl) (by rfl) (by rfl) (by rfl) ?_
    | refine O_callA [2, 1] (find_A s mg tm now g cc b) (by rfl) (by rfl) (by rfl) (by rfl) (by rfl) ?_
    | refine O_callA [2, 2] (find_A s mg tm now g cc b) (by rfl) (by rfl) (by rfl) (by rfl) (by rfl) ?_
    | refine O_callA [2, 3] (find_A s mg tm now g cc b) (by rfl) (by rfl) (by rfl) (by rfl) (by rfl) ?_
    | refine O_callA [2, 4] (find_A s mg tm now g cc b) (by rfl) (by rfl) (by rfl) (by rfl) (by rfl) ?_
    | refine O_callA [2, 5] (find_A s mg tm now g cc b) (by rfl) (by rfl) (by rfl) (by rfl) (by rfl) ?_
    | refine O_callA [3, 0] (find_A s mg tm now g cc b) (by rfl) (by rfl) (by rfl) (by rfl) (by rfl) ?_
    | refine O_callA [3, 1] (find_A s mg tm now g cc b) (by rfl) (by rfl) (by rfl) (by rfl) (by rfl) ?_
    | refine O_callA [3, 2] (find_A s mg tm now g cc b) (by rfl) (by rfl) (by rfl) (by rfl) (by rfl) ?_
    | refine O_callA [3, 3] (find_A s mg tm now g cc b) (by rfl) (by rfl) (by rfl) (by rfl) (by rfl) ?_
    | refine O_callA [3, 4] (find_A s mg tm now g cc b) (by rfl) (by rfl) (by rfl) (by rfl) (by rfl) ?_
    | refine O_callA [3, 5] (find_A s mg tm now g cc b) (by rfl) (by rfl) (by rfl) (by rfl) (by rfl) ?_
    | refine O_callA [4, 0] (find_A s mg tm now g cc b) (by rfl) (by rfl) (by rfl) (by rfl) (by rfl) ?_
    | refine O_callA [4, 1] (find_A s mg tm now g cc b) (by rfl) (by rfl) (by rfl) (by rfl) (by rfl) ?_
    | refine O_callA [4, 2] (find_A s mg tm now g cc b) (by rfl) (by rfl) (by rfl) (by rfl) (by rfl) ?_
    | refine O_callA [4, 3] (find_A s mg tm now g cc b) (by rfl) (by rfl) (by rfl) (by rfl) (by rfl) ?_
    | refine O_callA [4, 4] (find_A s mg tm now g cc b) (by rfl) (by rfl) (by rfl) (by rfl) (by rfl) ?_
    | refine O_callA [4, 5] (find_A s mg tm now g cc b) (by rfl) (by rfl) (by rfl) (by rfl) (by rfl) ?_
    | refine O_callA [5, 0] (find_A s mg tm now g cc b) (by rfl) (by rfl) (by rfl) (by rfl) (by rfl) ?_
    | refine O_callA [5, 1] (find_A s mg tm now g cc b) (by rfl) (by rfl) (by rfl) (by rfl) (by rfl) ?_
    | refine O_callA [5, 2] (find_A s mg tm now g cc b) (by rfl) (by rfl) (by rfl) (by rfl) (by rfl) ?_
    | refine O_callA [5, 3] (find_A s mg tm now g cc b) (by rfl) (by rfl) (by rfl) (by rfl) (by rfl) ?_
    | refine O_callA [5, 4] (find_A s mg tm now g cc b) (by rfl) (by rfl) (by rfl) (by rfl) (by rfl) ?_
    | refine O_callA [5, 5] (find_A s mg tm now g cc b) (by rfl) (by rfl) (by rfl) (by rfl) (by rfl) ?_
    | refine O_callA [6, 0] (find_A s mg tm now g cc b) (by rfl) (by rfl) (by rfl) (by rfl) (by rfl) ?_
    | refine O_callA [6, 1] (find_A s mg tm now g cc b) (by rfl) (by rfl) (by rfl) (by rfl) (by rfl) ?_
    | refine O_callA [6, 2] (find_A s mg tm now g cc b) (by rfl) (by rfl) (by rfl) (by rfl) (by rfl) ?_
    | refine O_callA [6, 3] (find_A s mg tm now g cc b) (by rfl) (by rfl) (by rfl) (by rfl) (by rfl) ?_
    | refine O_callA [6, 4] (find_A s mg tm now g cc b) (by rfl) (by rfl) (by rfl) (by rfl) (by rfl) ?_
    | refine O_callA [6, 5] (find_A s mg tm now g cc b) (by rfl) (by rfl) (by rfl) (by rfl) (by rfl) ?_
  rintro r' cs' ⟨rfl, rfl⟩
  repeat (first|refine sc rfl ?_|refine so rfl ?_|refine sb rfl ?_)
  refine C_false rfl rfl ?_
  repeat (first|refine sc rfl ?_|refine so rfl ?_|refine sb rfl ?_)
  first
    | refine O_loadP 0 (reads_box 2) rfl rfl rfl rfl rfl rfl ?_
    | refine O_loadP 1 (reads_box 2) rfl rfl rfl rfl rfl rfl ?_
    | refine O_loadP 2 (reads_box 2) rfl rfl rfl rfl rfl rfl ?_
    | refine O_loadP 3 (reads_box 2) rfl rfl rfl rfl rfl rfl ?_
    | refine O_loadP 4 (reads_box 2) rfl rfl rfl rfl rfl rfl ?_
  repeat (first|refine sc rfl ?_|refine so rfl ?_|refine sb rfl ?_)
  refine C_false rfl rfl ?_
  repeat (first|refine sc rfl ?_|refine so rfl ?_|refine sb rfl ?_)
  first
    | refine O_loadP 0 (reads_box 4) rfl rfl rfl rfl rfl rfl ?_
    | refine O_loadP 1 (reads_box 4) rfl rfl rfl rfl rfl rfl ?_
    | refine O_loadP 2 (reads_box 4) rfl rfl rfl rfl rfl rfl ?_
    | refine O_loadP 3 (reads_box 4) rfl rfl rfl rfl rfl rfl ?_
    | refine O_loadP 4 (reads_box 4) rfl rfl rfl rfl rfl rfl ?_
  repeat (first|refine sc rfl ?_|refine so rfl ?_|refine sb rfl ?_)
  refine C_true rfl (by decide) ?_
  repeat (first|refine sc rfl ?_|refine so rfl ?_|refine sb rfl ?_)
  first
    | refine O_loadP 0 (reads_box 4) rfl rfl rfl rfl rfl rfl ?_
    | refine O_loadP 1 (reads_box 4) rfl rfl rfl rfl rfl rfl ?_
    | refine O_loadP 2 (reads_box 4) rfl rfl rfl rfl rfl rfl ?_
    | refine O_loadP 3 (reads_box 4) rfl rfl rfl rfl rfl rfl ?_
    | refine O_loadP 4 (reads_box 4) rfl rfl rfl rfl rfl rfl ?_
  repeat (first|refine sc rfl ?_|refine so rfl ?_|refine sb rfl ?_)
  refine ⟨by decide, ?_⟩
  repeat (first|refine sc rfl ?_|refine so rfl ?_|refine sb rfl ?_)
  first
    | refine O_loadP 0 (reads_vec (q := 0) (j := 0) (by decide) rfl) rfl rfl rfl rfl rfl rfl ?_
    | refine O_loadP 1 (reads_vec (q := 0) (j := 0) (by decide) rfl) rfl rfl rfl rfl rfl rfl ?_
    | refine O_loadP 2 (reads_vec (q := 0) (j := 0) (by decide) rfl) rfl rfl rfl rfl rfl rfl ?_
    | refine O_loadP 3 (reads_vec (q := 0) (j := 0) (by decide) rfl) rfl rfl rfl rfl rfl rfl ?_
    | refine O_loadP 4 (reads_vec (q := 0) (j := 0) (by decide) rfl) rfl rfl rfl rfl rfl rfl ?_
  repeat (first|refine sc rfl ?_|refine so rfl ?_|refine sb rfl ?_)
  first
    | refine O_loadP 0 (reads_box 4) rfl rfl rfl rfl rfl rfl ?_
    | refine O_loadP 1 (reads_box 4) rfl rfl rfl rfl rfl rfl ?_
    | refine O_loadP 2 (reads_box 4) rfl rfl rfl rfl rfl rfl ?_
    | refine O_loadP 3 (reads_box 4) rfl rfl rfl rfl rfl rfl ?_
    | refine O_loadP 4 (reads_box 4) rfl rfl rfl rfl rfl rfl ?_
  repeat (first|refine sc rfl ?_|refine so rfl ?_|refine sb rfl ?_)
  refine O_Xd (X_sliceFrom (i := 1) (r := 0) rfl rfl rfl rfl rfl rfl (by decide) hd rfl) ?_
  repeat (first|refine sc rfl ?_|refine so rfl ?_|refine sb rfl ?_)
  first
    | refine O_Xn (X_storeP 0 (writes_box (by show 4 < 5; decide)) rfl rfl rfl rfl rfl rfl rfl) ?_
    | refine O_Xn (X_storeP 1 (writes_box (by show 4 < 5; decide)) rfl rfl rfl rfl rfl rfl rfl) ?_
    | refine O_Xn (X_storeP 2 (writes_box (by show 4 < 5; decide)) rfl rfl rfl rfl rfl rfl rfl) ?_
    | refine O_Xn (X_storeP 3 (writes_box (by show 4 < 5; decide)) rfl rfl rfl rfl rfl rfl rfl) ?_
    | refine O_Xn (X_storeP 4 (writes_box (by show 4 < 5; decide)) rfl rfl rfl rfl rfl rfl rfl) ?_
  repeat (first|refine sc rfl ?_|refine so rfl ?_|refine sb rfl ?_)
  first
    | exact ⟨_, [_, _, _], _, rfl, pickA_perm (is := [1, 1, 0]) (As := [_, _, _]) rfl, rfl, _, _, rfl, rfl⟩
    | exact ⟨_, [_, _, _], _, rfl, pickA_perm (is := [0, 0, 0]) (As := [_, _, _]) rfl, rfl, _, _, rfl, rfl⟩
end Go.Proofs

namespace Go.Proofs
open Go.Sy Go.Lib

abbrev rdr (g : Nat) (b : List UInt8) (at_ : Nat) (e : Int) : Abs := boxA g 298 [.s b, I64 (at_ : Nat), I64 e]
def rdAt (at_ k : Nat) (e e2 : Int) : Nat := if e ≠ 0 then at_ else if e2 ≠ 0 then at_ else at_ + k
def rdE (e e2 : Int) : Int := if e ≠ 0 then e else e2
def rdV {α : Type} (z x : α) (e e2 : Int) : α := if e ≠ 0 then z else if e2 ≠ 0 then z else x

theorem takeU_A (g : Nat) (b : List UInt8) (at_ : Nat) (e : Int) (fv : AV) (f : FuncId) (caps : List AV) (k : Nat) (e2 : Int) (x : Int) (hclo : IsClo fv f caps) (himm : fv.imm = true) (hat : at_ ≤ b.length) (hfv : fv = .p (cloRP f caps) ∨ ∃ v, fv = .v v)
    (hf : e = 0 → FnP Tryz.prog f ([.s (b.drop at_)] ++ caps) (· = .tup [U64 x, I64 (k : Nat), I64 e2])) (hk : e = 0 → e2 = 0 → at_ + k ≤ b.length) (hb : b.length ≤ 9223372036854775807) :
    FnA Tryz.prog 202 [PT g 0, fv] [rdr g b at_ e] (fun r cs' => r = U64 (rdV 0 x e e2) ∧ cs' = [rdr g b (rdAt at_ k e e2) (rdE e e2)]) := by
  rcases hfv with rfl | ⟨v, rfl⟩
  · refine FnA.intro Tryz.tabOK Tryz.wide_ Tryz.func202 rfl (by decide) rfl (fun X => ?_)
    repeat (first|refine sc rfl ?_|refine so rfl ?_|refine sb rfl ?_)
    refine O_Xd (X_ptrnil Tryz.underlying249 rfl rfl rfl) ?_
    repeat (first|refine sc rfl ?_|refine so rfl ?_|refine sb rfl ?_)
    first
      | refine O_loadP 0 (reads_box 2) rfl rfl rfl rfl rfl rfl ?_
      | refine O_loadP 1 (reads_box 2) rfl rfl rfl rfl rfl rfl ?_
      | refine O_loadP 2 (reads_box 2) rfl rfl rfl rfl rfl rfl ?_
      | refine O_loadP 3 (reads_box 2) rfl rfl rfl rfl rfl rfl ?_
      | refine O_loadP 4 (reads_box 2) rfl rfl rfl rfl rfl rfl ?_
    repeat (first|refine sc rfl ?_|refine so rfl ?_|refine sb rfl ?_)
    refine C_if rfl (fun h0 => ?_) (fun h0 => ?_) <;> simp only [pL] at h0
    · repeat (first|refine sc rfl ?_|refine so rfl ?_|refine sb rfl ?_)
      first
        | exact ⟨_, [_], _, rfl, pickA_perm (is := [0]) (As := [_]) rfl, rfl, by unfold rdV; rw [if_pos h0], by unfold rdAt rdE; rw [if_pos h0, if_pos h0]⟩
        | exact ⟨_, [_], _, rfl, pickA_perm (is := [1]) (As := [_]) rfl, rfl, by unfold rdV; rw [if_pos h0], by unfold rdAt rdE; rw [if_pos h0, if_pos h0]⟩
        | exact ⟨_, [_], _, rfl, pickA_perm (is := [2]) (As := [_]) rfl, rfl, by unfold rdV; rw [if_pos h0], by unfold rdAt rdE; rw [if_pos h0, if_pos h0]⟩
        | exact ⟨_, [_], _, rfl, pickA_perm (is := [3]) (As := [_]) rfl, rfl, by unfold rdV; rw [if_pos h0], by unfold rdAt rdE; rw [if_pos h0, if_pos h0]⟩
        | exact ⟨_, [_], _, rfl, pickA_perm (is := [4]) (As := [_]) rfl, rfl, by unfold rdV; rw [if_pos h0], by unfold rdAt rdE; rw [if_pos h0, if_pos h0]⟩
    subst h0
    repeat (first|refine sc rfl ?_|refine so rfl ?_|refine sb rfl ?_)
    refine C_drawD rfl (by kernel_rfl) ?_
    repeat (first|refine sd rfl ?_|refine sdb rfl ?_|refine sds rfl ?_)
    refine D_X (.s b) (X_loadP 0 (A := rdr g b at_ 0) (reads_box 0) rfl rfl rfl rfl rfl rfl) ?_
    repeat (first|refine sd rfl ?_|refine sdb rfl ?_|refine sds rfl ?_)
    refine D_X (I64 (at_ : Nat)) (X_loadP 0 (A := rdr g b at_ 0) (reads_box 1) rfl rfl rfl rfl rfl rfl) ?_
    repeat (first | refine sd rfl ?_ | refine ⟨by omega, ?_⟩)
    rw [Int.toNat_natCast]
    refine D_callV hclo himm (hf rfl) rfl rfl rfl rfl rfl ?_
    repeat (first|refine sd rfl ?_|refine sdb rfl ?_|refine sds rfl ?_)
    repeat (first|refine sc rfl ?_|refine so rfl ?_|refine sb rfl ?_)
    refine C_if rfl (fun h1 => ?_) (fun h1 => ?_) <;> simp only [pL] at h1
    · repeat (first|refine sc rfl ?_|refine so rfl ?_|refine sb rfl ?_)
      first
        | refine O_Xn (X_storeP 0 (writes_box (b := g) (t := 298) (cells := [.s b, I64 (at_ : Nat), I64 0]) (by simp)) rfl rfl rfl rfl rfl rfl rfl) ?_
        | refine O_Xn (X_storeP 1 (writes_box (b := g) (t := 298) (cells := [.s b, I64 (at_ : Nat), I64 0]) (by simp)) rfl rfl rfl rfl rfl rfl rfl) ?_
        | refine O_Xn (X_storeP 2 (writes_box (b := g) (t := 298) (cells := [.s b, I64 (at_ : Nat), I64 0]) (by simp)) rfl rfl rfl rfl rfl rfl rfl) ?_
        | refine O_Xn (X_storeP 3 (writes_box (b := g) (t := 298) (cells := [.s b, I64 (at_ : Nat), I64 0]) (by simp)) rfl rfl rfl rfl rfl rfl rfl) ?_
        | refine O_Xn (X_storeP 4 (writes_box (b := g) (t := 298) (cells := [.s b, I64 (at_ : Nat), I64 0]) (by simp)) rfl rfl rfl rfl rfl rfl rfl) ?_
      repeat (first|refine sc rfl ?_|refine so rfl ?_|refine sb rfl ?_)
      first
        | exact ⟨_, [_], _, rfl, pickA_perm (is := [0]) (As := [_]) rfl, rfl, by unfold rdV; rw [if_neg (by decide), if_pos h1], by unfold rdAt rdE; rw [if_neg (by decide), if_pos h1, if_neg (by decide)]; rfl⟩
        | exact ⟨_, [_], _, rfl, pickA_perm (is := [1]) (As := [_]) rfl, rfl, by unfold rdV; rw [if_neg (by decide), if_pos h1], by unfold rdAt rdE; rw [if_neg (by decide), if_pos h1, if_neg (by decide)]; rfl⟩
        | exact ⟨_, [_], _, rfl, pickA_perm (is := [2]) (As := [_]) rfl, rfl, by unfold rdV; rw [if_neg (by decide), if_pos h1], by unfold rdAt rdE; rw [if_neg (by decide), if_pos h1, if_neg (by decide)]; rfl⟩
        | exact ⟨_, [_], _, rfl, pickA_perm (is := [3]) (As := [_]) rfl, rfl, by unfold rdV; rw [if_neg (by decide), if_pos h1], by unfold rdAt rdE; rw [if_neg (by decide), if_pos h1, if_neg (by decide)]; rfl⟩
        | exact ⟨_, [_], _, rfl, pickA_perm (is := [4]) (As := [_]) rfl, rfl, by unfold rdV; rw [if_neg (by decide), if_pos h1], by unfold rdAt rdE; rw [if_neg (by decide), if_pos h1, if_neg (by decide)]; rfl⟩
    · subst h1
      have hk' := hk rfl rfl
      repeat (first|refine sc rfl ?_|refine so rfl ?_|refine sb rfl ?_)
      first
        | refine O_loadP 0 (reads_box 1) rfl rfl rfl rfl rfl rfl ?_
        | refine O_loadP 1 (reads_box 1) rfl rfl rfl rfl rfl rfl ?_
        | refine O_loadP 2 (reads_box 1) rfl rfl rfl rfl rfl rfl ?_
        | refine O_loadP 3 (reads_box 1) rfl rfl rfl rfl rfl rfl ?_
        | refine O_loadP 4 (reads_box 1) rfl rfl rfl rfl rfl rfl ?_
      repeat (first|refine sc rfl ?_|refine so rfl ?_|refine sb rfl ?_)
      rw [w64 (x := (at_ : Int) + (k : Int)) (by omega) (by omega)]
      first
        | refine O_Xn (X_storeP 0 (writes_box (b := g) (t := 298) (cells := [.s b, I64 (at_ : Nat), I64 0]) (by simp)) rfl rfl rfl rfl rfl rfl rfl) ?_
        | refine O_Xn (X_storeP 1 (writes_box (b := g) (t := 298) (cells := [.s b, I64 (at_ : Nat), I64 0]) (by simp)) rfl rfl rfl rfl rfl rfl rfl) ?_
        | refine O_Xn (X_storeP 2 (writes_box (b := g) (t := 298) (cells := [.s b, I64 (at_ : Nat), I64 0]) (by simp)) rfl rfl rfl rfl rfl rfl rfl) ?_
        | refine O_Xn (X_storeP 3 (writes_box (b := g) (t := 298) (cells := [.s b, I64 (at_ : Nat), I64 0]) (by simp)) rfl rfl rfl rfl rfl rfl rfl) ?_
        | refine O_Xn (X_storeP 4 (writes_box (b := g) (t := 298) (cells := [.s b, I64 (at_ : Nat), I64 0]) (by simp)) rfl rfl rfl rfl rfl rfl rfl) ?_
      repeat (first|refine sc rfl ?_|refine so rfl ?_|refine sb rfl ?_)
      first
        | exact ⟨_, [_], _, rfl, pickA_perm (is := [0]) (As := [_]) rfl, rfl, by unfold rdV; rw [if_neg (by decide), if_neg (by decide)], by unfold rdAt rdE; rw [if_neg (by decide), if_neg (by decide), if_neg (by decide)]; rfl⟩
        | exact ⟨_, [_], _, rfl, pickA_perm (is := [1]) (As := [_]) rfl, rfl, by unfold rdV; rw [if_neg (by decide), if_neg (by decide)], by unfold rdAt rdE; rw [if_neg (by decide), if_neg (by decide), if_neg (by decide)]; rfl⟩
        | exact ⟨_, [_], _, rfl, pickA_perm (is := [2]) (As := [_]) rfl, rfl, by unfold rdV; rw [if_neg (by decide), if_neg (by decide)], by unfold rdAt rdE; rw [if_neg (by decide), if_neg (by decide), if_neg (by decide)]; rfl⟩
        | exact ⟨_, [_], _, rfl, pickA_perm (is := [3]) (As := [_]) rfl, rfl, by unfold rdV; rw [if_neg (by decide), if_neg (by decide)], by unfold rdAt rdE; rw [if_neg (by decide), if_neg (by decide), if_neg (by decide)]; rfl⟩
        | exact ⟨_, [_], _, rfl, pickA_perm (is := [4]) (As := [_]) rfl, rfl, by unfold rdV; rw [if_neg (by decide), if_neg (by decide)], by unfold rdAt rdE; rw [if_neg (by decide), if_neg (by decide), if_neg (by decide)]; rfl⟩
  · refine FnA.intro Tryz.tabOK Tryz.wide_ Tryz.func202 rfl (by decide) rfl (fun X => ?_)
    repeat (first|refine sc rfl ?_|refine so rfl ?_|refine sb rfl ?_)
    refine O_Xd (X_ptrnil Tryz.underlying249 rfl rfl rfl) ?_
    repeat (first|refine sc rfl ?_|refine so rfl ?_|refine sb rfl ?_)
    first
      | refine O_loadP 0 (reads_box 2) rfl rfl rfl rfl rfl rfl ?_
      | refine O_loadP 1 (reads_box 2) rfl rfl rfl rfl rfl rfl ?_
      | refine O_loadP 2 (reads_box 2) rfl rfl rfl rfl rfl rfl ?_
      | refine O_loadP 3 (reads_box 2) rfl rfl rfl rfl rfl rfl ?_
      | refine O_loadP 4 (reads_box 2) rfl rfl rfl rfl rfl rfl ?_
    repeat (first|refine sc rfl ?_|refine so rfl ?_|refine sb rfl ?_)
    refine C_if rfl (fun h0 => ?_) (fun h0 => ?_) <;> simp only [pL] at h0
    · repeat (first|refine sc rfl ?_|refine so rfl ?_|refine sb rfl ?_)
      first
        | exact ⟨_, [_], _, rfl, pickA_perm (is := [0]) (As := [_]) rfl, rfl, by unfold rdV; rw [if_pos h0], by unfold rdAt rdE; rw [if_pos h0, if_pos h0]⟩
        | exact ⟨_, [_], _, rfl, pickA_perm (is := [1]) (As := [_]) rfl, rfl, by unfold rdV; rw [if_pos h0], by unfold rdAt rdE; rw [if_pos h0, if_pos h0]⟩
        | exact ⟨_, [_], _, rfl, pickA_perm (is := [2]) (As := [_]) rfl, rfl, by unfold rdV; rw [if_pos h0], by unfold rdAt rdE; rw [if_pos h0, if_pos h0]⟩
        | exact ⟨_, [_], _, rfl, pickA_perm (is := [3]) (As := [_]) rfl, rfl, by unfold rdV; rw [if_pos h0], by unfold rdAt rdE; rw [if_pos h0, if_pos h0]⟩
        | exact ⟨_, [_], _, rfl, pickA_perm (is := [4]) (As := [_]) rfl, rfl, by unfold rdV; rw [if_pos h0], by unfold rdAt rdE; rw [if_pos h0, if_pos h0]⟩
    subst h0
    repeat (first|refine sc rfl ?_|refine so rfl ?_|refine sb rfl ?_)
    refine C_drawD rfl (by kernel_rfl) ?_
    repeat (first|refine sd rfl ?_|refine sdb rfl ?_|refine sds rfl ?_)
    refine D_X (.s b) (X_loadP 0 (A := rdr g b at_ 0) (reads_box 0) rfl rfl rfl rfl rfl rfl) ?_
    repeat (first|refine sd rfl ?_|refine sdb rfl ?_|refine sds rfl ?_)
    refine D_X (I64 (at_ : Nat)) (X_loadP 0 (A := rdr g b at_ 0) (reads_box 1) rfl rfl rfl rfl rfl rfl) ?_
    repeat (first | refine sd rfl ?_ | refine ⟨by omega, ?_⟩)
    rw [Int.toNat_natCast]
    refine D_callV hclo himm (hf rfl) rfl rfl rfl rfl rfl ?_
    repeat (first|refine sd rfl ?_|refine sdb rfl ?_|refine sds rfl ?_)
    repeat (first|refine sc rfl ?_|refine so rfl ?_|refine sb rfl ?_)
    refine C_if rfl (fun h1 => ?_) (fun h1 => ?_) <;> simp only [pL] at h1
    · repeat (first|refine sc rfl ?_|refine so rfl ?_|refine sb rfl ?_)
      first
        | refine O_Xn (X_storeP 0 (writes_box (b := g) (t := 298) (cells := [.s b, I64 (at_ : Nat), I64 0]) (by simp)) rfl rfl rfl rfl rfl rfl rfl) ?_
        | refine O_Xn (X_storeP 1 (writes_box (b := g) (t := 298) (cells := [.s b, I64 (at_ : Nat), I64 0]) (by simp)) rfl rfl rfl rfl rfl rfl rfl) ?_
        | refine O_Xn (X_storeP 2 (writes_box (b := g) (t := 298) (cells := [.s b, I64 (at_ : Nat), I64 0]) (by simp)) rfl rfl rfl rfl rfl rfl rfl) ?_
        | refine O_Xn (X_storeP 3 (writes_box (b := g) (t := 298) (cells := [.s b, I64 (at_ : Nat), I64 0]) (by simp)) rfl rfl rfl rfl rfl rfl rfl) ?_
        | refine O_Xn (X_storeP 4 (writes_box (b := g) (t := 298) (cells := [.s b, I64 (at_ : Nat), I64 0]) (by simp)) rfl rfl rfl rfl rfl rfl rfl) ?_
      repeat (first|refine sc rfl ?_|refine so rfl ?_|refine sb rfl ?_)
      first
        | exact ⟨_, [_], _, rfl, pickA_perm (is := [0]) (As := [_]) rfl, rfl, by unfold rdV; rw [if_neg (by decide), if_pos h1], by unfold rdAt rdE; rw [if_neg (by decide), if_pos h1, if_neg (by decide)]; rfl⟩
        | exact ⟨_, [_], _, rfl, pickA_perm (is := [1]) (As := [_]) rfl, rfl, by unfold rdV; rw [if_neg (by decide), if_pos h1], by unfold rdAt rdE; rw [if_neg (by decide), if_pos h1, if_neg (by decide)]; rfl⟩
        | exact ⟨_, [_], _, rfl, pickA_perm (is := [2]) (As := [_]) rfl, rfl, by unfold rdV; rw [if_neg (by decide), if_pos h1], by unfold rdAt rdE; rw [if_neg (by decide), if_pos h1, if_neg (by decide)]; rfl⟩
        | exact ⟨_, [_], _, rfl, pickA_perm (is := [3]) (As := [_]) rfl, rfl, by unfold rdV; rw [if_neg (by decide), if_pos h1], by unfold rdAt rdE; rw [if_neg (by decide), if_pos h1, if_neg (by decide)]; rfl⟩
        | exact ⟨_, [_], _, rfl, pickA_perm (is := [4]) (As := [_]) rfl, rfl, by unfold rdV; rw [if_neg (by decide), if_pos h1], by unfold rdAt rdE; rw [if_neg (by decide), if_pos h1, if_neg (by decide)]; rfl⟩
    · subst h1
      have hk' := hk rfl rfl
      repeat (first|refine sc rfl ?_|refine so rfl ?_|refine sb rfl ?_)
      first
        | refine O_loadP 0 (reads_box 1) rfl rfl rfl rfl rfl rfl ?_
        | refine O_loadP 1 (reads_box 1) rfl rfl rfl rfl rfl rfl ?_
        | refine O_loadP 2 (reads_box 1) rfl rfl rfl rfl rfl rfl ?_
        | refine O_loadP 3 (reads_box 1) rfl rfl rfl rfl rfl rfl ?_
        | refine O_loadP 4 (reads_box 1) rfl rfl rfl rfl rfl rfl ?_
      repeat (first|refine sc rfl ?_|refine so rfl ?_|refine sb rfl ?_)
      rw [w64 (x := (at_ : Int) + (k : Int)) (by omega) (by omega)]
      first
        | refine O_Xn (X_storeP 0 (writes_box (b := g) (t := 298) (cells := [.s b, I64 (at_ : Nat), I64 0]) (by simp)) rfl rfl rfl rfl rfl rfl rfl) ?_
        | refine O_Xn (X_storeP 1 (writes_box (b := g) (t := 298) (cells := [.s b, I64 (at_ : Nat), I64 0]) (by simp)) rfl rfl rfl rfl rfl rfl rfl) ?_
        | refine O_Xn (X_storeP 2 (writes_box (b := g) (t := 298) (cells := [.s b, I64 (at_ : Nat), I64 0]) (by simp)) rfl rfl rfl rfl rfl rfl rfl) ?_
        | refine O_Xn (X_storeP 3 (writes_box (b := g) (t := 298) (cells := [.s b, I64 (at_ : Nat), I64 0]) (by simp)) rfl rfl rfl rfl rfl rfl rfl) ?_
        | refine O_Xn (X_storeP 4 (writes_box (b := g) (t := 298) (cells := [.s b, I64 (at_ : Nat), I64 0]) (by simp)) rfl rfl rfl rfl rfl rfl rfl) ?_
      repeat (first|refine sc rfl ?_|refine so rfl ?_|refine sb rfl ?_)
      first
        | exact ⟨_, [_], _, rfl, pickA_perm (is := [0]) (As := [_]) rfl, rfl, by unfold rdV; rw [if_neg (by decide), if_neg (by decide)], by unfold rdAt rdE; rw [if_neg (by decide), if_neg (by decide), if_neg (by decide)]; rfl⟩
        | exact ⟨_, [_], _, rfl, pickA_perm (is := [1]) (As := [_]) rfl, rfl, by unfold rdV; rw [if_neg (by decide), if_neg (by decide)], by unfold rdAt rdE; rw [if_neg (by decide), if_neg (by decide), if_neg (by decide)]; rfl⟩
        | exact ⟨_, [_], _, rfl, pickA_perm (is := [2]) (As := [_]) rfl, rfl, by unfold rdV; rw [if_neg (by decide), if_neg (by decide)], by unfold rdAt rdE; rw [if_neg (by decide), if_neg (by decide), if_neg (by decide)]; rfl⟩
        | exact ⟨_, [_], _, rfl, pickA_perm (is := [3]) (As := [_]) rfl, rfl, by unfold rdV; rw [if_neg (by decide), if_neg (by decide)], by unfold rdAt rdE; rw [if_neg (by decide), if_neg (by decide), if_neg (by decide)]; rfl⟩
        | exact ⟨_, [_], _, rfl, pickA_perm (is := [4]) (As := [_]) rfl, rfl, by unfold rdV; rw [if_neg (by decide), if_neg (by decide)], by unfold rdAt rdE; rw [if_neg (by decide), if_neg (by decide), if_neg (by decide)]; rfl⟩

theorem takeI_A (g : Nat) (b : List UInt8) (at_ : Nat) (e : Int) (fv : AV) (f : FuncId) (caps : List AV) (k : Nat) (e2 : Int) (x : Int) (hclo : IsClo fv f caps) (himm : fv.imm = true) (hat : at_ ≤ b.length) (hfv : fv = .p (cloRP f caps) ∨ ∃ v, fv = .v v)
    (hf : e = 0 → FnP Tryz.prog f ([.s (b.drop at_)] ++ caps) (· = .tup [I64 x, I64 (k : Nat), I64 e2])) (hk : e = 0 → e2 = 0 → at_ + k ≤ b.length) (hb : b.length ≤ 9223372036854775807) :
    FnA Tryz.prog 199 [PT g 0, fv] [rdr g b at_ e] (fun r cs' => r = I64 (rdV 0 x e e2) ∧ cs' = [rdr g b (rdAt at_ k e e2) (rdE e e2)]) := by
  rcases hfv with rfl | ⟨v, rfl⟩
  · refine FnA.intro Tryz.tabOK Tryz.wide_ Tryz.func199 rfl (by decide) rfl (fun X => ?_)
    repeat (first|refine sc rfl ?_|refine so rfl ?_|refine sb rfl ?_)
    refine O_Xd (X_ptrnil Tryz.underlying249 rfl rfl rfl) ?_
    repeat (first|refine sc rfl ?_|refine so rfl ?_|refine sb rfl ?_)
    first
      | refine O_loadP 0 (reads_box 2) rfl rfl rfl rfl rfl rfl ?_
      | refine O_loadP 1 (reads_box 2) rfl rfl rfl rfl rfl rfl ?_
      | refine O_loadP 2 (reads_box 2) rfl rfl rfl rfl rfl rfl ?_
      | refine O_loadP 3 (reads_box 2) rfl rfl rfl rfl rfl rfl ?_
      | refine O_loadP 4 (reads_box 2) rfl rfl rfl rfl rfl rfl ?_
    repeat (first|refine sc rfl ?_|refine so rfl ?_|refine sb rfl ?_)
    refine C_if rfl (fun h0 => ?_) (fun h0 => ?_) <;> simp only [pL] at h0
    · repeat (first|refine sc rfl ?_|refine so rfl ?_|refine sb rfl ?_)
      first
        | exact ⟨_, [_], _, rfl, pickA_perm (is := [0]) (As := [_]) rfl, rfl, by unfold rdV; rw [if_pos h0], by unfold rdAt rdE; rw [if_pos h0, if_pos h0]⟩
        | exact ⟨_, [_], _, rfl, pickA_perm (is := [1]) (As := [_]) rfl, rfl, by unfold rdV; rw [if_pos h0], by unfold rdAt rdE; rw [if_pos h0, if_pos h0]⟩
        | exact ⟨_, [_], _, rfl, pickA_perm (is := [2]) (As := [_]) rfl, rfl, by unfold rdV; rw [if_pos h0], by unfold rdAt rdE; rw [if_pos h0, if_pos h0]⟩
        | exact ⟨_, [_], _, rfl, pickA_perm (is := [3]) (As := [_]) rfl, rfl, by unfold rdV; rw [if_pos h0], by unfold rdAt rdE; rw [if_pos h0, if_pos h0]⟩
        | exact ⟨_, [_], _, rfl, pickA_perm (is := [4]) (As := [_]) rfl, rfl, by unfold rdV; rw [if_pos h0], by unfold rdAt rdE; rw [if_pos h0, if_pos h0]⟩
    subst h0
    repeat (first|refine sc rfl ?_|refine so rfl ?_|refine sb rfl ?_)
    refine C_drawD rfl (by kernel_rfl) ?_
    repeat (first|refine sd rfl ?_|refine sdb rfl ?_|refine sds rfl ?_)
    refine D_X (.s b) (X_loadP 0 (A := rdr g b at_ 0) (reads_box 0) rfl rfl rfl rfl rfl rfl) ?_
    repeat (first|refine sd rfl ?_|refine sdb rfl ?_|refine sds rfl ?_)
    refine D_X (I64 (at_ : Nat)) (X_loadP 0 (A := rdr g b at_ 0) (reads_box 1) rfl rfl rfl rfl rfl rfl) ?_
    repeat (first | refine sd rfl ?_ | refine ⟨by omega, ?_⟩)
    rw [Int.toNat_natCast]
    refine D_callV hclo himm (hf rfl) rfl rfl rfl rfl rfl ?_
    repeat (first|refine sd rfl ?_|refine sdb rfl ?_|refine sds rfl ?_)
    repeat (first|refine sc rfl ?_|refine so rfl ?_|refine sb rfl ?_)
    refine C_if rfl (fun h1 => ?_) (fun h1 => ?_) <;> simp only [pL] at h1
    · repeat (first|refine sc rfl ?_|refine so rfl ?_|refine sb rfl ?_)
      first
        | refine O_Xn (X_storeP 0 (writes_box (b := g) (t := 298) (cells := [.s b, I64 (at_ : Nat), I64 0]) (by simp)) rfl rfl rfl rfl rfl rfl rfl) ?_
        | refine O_Xn (X_storeP 1 (writes_box (b := g) (t := 298) (cells := [.s b, I64 (at_ : Nat), I64 0]) (by simp)) rfl rfl rfl rfl rfl rfl rfl) ?_
        | refine O_Xn (X_storeP 2 (writes_box (b := g) (t := 298) (cells := [.s b, I64 (at_ : Nat), I64 0]) (by simp)) rfl rfl rfl rfl rfl rfl rfl) ?_
        | refine O_Xn (X_storeP 3 (writes_box (b := g) (t := 298) (cells := [.s b, I64 (at_ : Nat), I64 0]) (by simp)) rfl rfl rfl rfl rfl rfl rfl) ?_
        | refine O_Xn (X_storeP 4 (writes_box (b := g) (t := 298) (cells := [.s b, I64 (at_ : Nat), I64 0]) (by simp)) rfl rfl rfl rfl rfl rfl rfl) ?_
      repeat (first|refine sc rfl ?_|refine so rfl ?_|refine sb rfl ?_)
      first
        | exact ⟨_, [_], _, rfl, pickA_perm (is := [0]) (As := [_]) rfl, rfl, by unfold rdV; rw [if_neg (by decide), if_pos h1], by unfold rdAt rdE; rw [if_neg (by decide), if_pos h1, if_neg (by decide)]; rfl⟩
        | exact ⟨_, [_], _, rfl, pickA_perm (is := [1]) (As := [_]) rfl, rfl, by unfold rdV; rw [if_neg (by decide), if_pos h1], by unfold rdAt rdE; rw [if_neg (by decide), if_pos h1, if_neg (by decide)]; rfl⟩
        | exact ⟨_, [_], _, rfl, pickA_perm (is := [2]) (As := [_]) rfl, rfl, by unfold rdV; rw [if_neg (by decide), if_pos h1], by unfold rdAt rdE; rw [if_neg (by decide), if_pos h1, if_neg (by decide)]; rfl⟩
        | exact ⟨_, [_], _, rfl, pickA_perm (is := [3]) (As := [_]) rfl, rfl, by unfold rdV; rw [if_neg (by decide), if_pos h1], by unfold rdAt rdE; rw [if_neg (by decide), if_pos h1, if_neg (by decide)]; rfl⟩
        | exact ⟨_, [_], _, rfl, pickA_perm (is := [4]) (As := [_]) rfl, rfl, by unfold rdV; rw [if_neg (by decide), if_pos h1], by unfold rdAt rdE; rw [if_neg (by decide), if_pos h1, if_neg (by decide)]; rfl⟩
    · subst h1
      have hk' := hk rfl rfl
      repeat (first|refine sc rfl ?_|refine so rfl ?_|refine sb rfl ?_)
      first
        | refine O_loadP 0 (reads_box 1) rfl rfl rfl rfl rfl rfl ?_
        | refine O_loadP 1 (reads_box 1) rfl rfl rfl rfl rfl rfl ?_
        | refine O_loadP 2 (reads_box 1) rfl rfl rfl rfl rfl rfl ?_
        | refine O_loadP 3 (reads_box 1) rfl rfl rfl rfl rfl rfl ?_
        | refine O_loadP 4 (reads_box 1) rfl rfl rfl rfl rfl rfl ?_
      repeat (first|refine sc rfl ?_|refine so rfl ?_|refine sb rfl ?_)
      rw [w64 (x := (at_ : Int) + (k : Int)) (by omega) (by omega)]
      first
        | refine O_Xn (X_storeP 0 (writes_box (b := g) (t := 298) (cells := [.s b, I64 (at_ : Nat), I64 0]) (by simp)) rfl rfl rfl rfl rfl rfl rfl) ?_
        | refine O_Xn (X_storeP 1 (writes_box (b := g) (t := 298) (cells := [.s b, I64 (at_ : Nat), I64 0]) (by simp)) rfl rfl rfl rfl rfl rfl rfl) ?_
        | refine O_Xn (X_storeP 2 (writes_box (b := g) (t := 298) (cells := [.s b, I64 (at_ : Nat), I64 0]) (by simp)) rfl rfl rfl rfl rfl rfl rfl) ?_
        | refine O_Xn (X_storeP 3 (writes_box (b := g) (t := 298) (cells := [.s b, I64 (at_ : Nat), I64 0]) (by simp)) rfl rfl rfl rfl rfl rfl rfl) ?_
        | refine O_Xn (X_storeP 4 (writes_box (b := g) (t := 298) (cells := [.s b, I64 (at_ : Nat), I64 0]) (by simp)) rfl rfl rfl rfl rfl rfl rfl) ?_
      repeat (first|refine sc rfl ?_|refine so rfl ?_|refine sb rfl ?_)
      first
        | exact ⟨_, [_], _, rfl, pickA_perm (is := [0]) (As := [_]) rfl, rfl, by unfold rdV; rw [if_neg (by decide), if_neg (by decide)], by unfold rdAt rdE; rw [if_neg (by decide), if_neg (by decide), if_neg (by decide)]; rfl⟩
        | exact ⟨_, [_], _, rfl, pickA_perm (is := [1]) (As := [_]) rfl, rfl, by unfold rdV; rw [if_neg (by decide), if_neg (by decide)], by unfold rdAt rdE; rw [if_neg (by decide), if_neg (by decide), if_neg (by decide)]; rfl⟩
        | exact ⟨_, [_], _, rfl, pickA_perm (is := [2]) (As := [_]) rfl, rfl, by unfold rdV; rw [if_neg (by decide), if_neg (by decide)], by unfold rdAt rdE; rw [if_neg (by decide), if_neg (by decide), if_neg (by decide)]; rfl⟩
        | exact ⟨_, [_], _, rfl, pickA_perm (is := [3]) (As := [_]) rfl, rfl, by unfold rdV; rw [if_neg (by decide), if_neg (by decide)], by unfold rdAt rdE; rw [if_neg (by decide), if_neg (by decide), if_neg (by decide)]; rfl⟩
        | exact ⟨_, [_], _, rfl, pickA_perm (is := [4]) (As := [_]) rfl, rfl, by unfold rdV; rw [if_neg (by decide), if_neg (by decide)], by unfold rdAt rdE; rw [if_neg (by decide), if_neg (by decide), if_neg (by decide)]; rfl⟩
  · refine FnA.intro Tryz.tabOK Tryz.wide_ Tryz.func199 rfl (by decide) rfl (fun X => ?_)
    repeat (first|refine sc rfl ?_|refine so rfl ?_|refine sb rfl ?_)
    refine O_Xd (X_ptrnil Tryz.underlying249 rfl rfl rfl) ?_
    repeat (first|refine sc rfl ?_|refine so rfl ?_|refine sb rfl ?_)
    first
      | refine O_loadP 0 (reads_box 2) rfl rfl rfl rfl rfl rfl ?_
      | refine O_loadP 1 (reads_box 2) rfl rfl rfl rfl rfl rfl ?_
      | refine O_loadP 2 (reads_box 2) rfl rfl rfl rfl rfl rfl ?_
      | refine O_loadP 3 (reads_box 2) rfl rfl rfl rfl rfl rfl ?_
      | refine O_loadP 4 (reads_box 2) rfl rfl rfl rfl rfl rfl ?_
    repeat (first|refine sc rfl ?_|refine so rfl ?_|refine sb rfl ?_)
    refine C_if rfl (fun h0 => ?_) (fun h0 => ?_) <;> simp only [pL] at h0
    · repeat (first|refine sc rfl ?_|refine so rfl ?_|refine sb rfl ?_)
      first
        | exact ⟨_, [_], _, rfl, pickA_perm (is := [0]) (As := [_]) rfl, rfl, by unfold rdV; rw [if_pos h0], by unfold rdAt rdE; rw [if_pos h0, if_pos h0]⟩
        | exact ⟨_, [_], _, rfl, pickA_perm (is := [1]) (As := [_]) rfl, rfl, by unfold rdV; rw [if_pos h0], by unfold rdAt rdE; rw [if_pos h0, if_pos h0]⟩
        | exact ⟨_, [_], _, rfl, pickA_perm (is := [2]) (As := [_]) rfl, rfl, by unfold rdV; rw [if_pos h0], by unfold rdAt rdE; rw [if_pos h0, if_pos h0]⟩
        | exact ⟨_, [_], _, rfl, pickA_perm (is := [3]) (As := [_]) rfl, rfl, by unfold rdV; rw [if_pos h0], by unfold rdAt rdE; rw [if_pos h0, if_pos h0]⟩
        | exact ⟨_, [_], _, rfl, pickA_perm (is := [4]) (As := [_]) rfl, rfl, by unfold rdV; rw [if_pos h0], by unfold rdAt rdE; rw [if_pos h0, if_pos h0]⟩
    subst h0
    repeat (first|refine sc rfl ?_|refine so rfl ?_|refine sb rfl ?_)
    refine C_drawD rfl (by kernel_rfl) ?_
    repeat (first|refine sd rfl ?_|refine sdb rfl ?_|refine sds rfl ?_)
    refine D_X (.s b) (X_loadP 0 (A := rdr g b at_ 0) (reads_box 0) rfl rfl rfl rfl rfl rfl) ?_
    repeat (first|refine sd rfl ?_|refine sdb rfl ?_|refine sds rfl ?_)
    refine D_X (I64 (at_ : Nat)) (X_loadP 0 (A := rdr g b at_ 0) (reads_box 1) rfl rfl rfl rfl rfl rfl) ?_
    repeat (first | refine sd rfl ?_ | refine ⟨by omega, ?_⟩)
    rw [Int.toNat_natCast]
    refine D_callV hclo himm (hf rfl) rfl rfl rfl rfl rfl ?_
    repeat (first|refine sd rfl ?_|refine sdb rfl ?_|refine sds rfl ?_)
    repeat (first|refine sc rfl ?_|refine so rfl ?_|refine sb rfl ?_)
    refine C_if rfl (fun h1 => ?_) (fun h1 => ?_) <;> simp only [pL] at h1
    · repeat (first|refine sc rfl ?_|refine so rfl ?_|refine sb rfl ?_)
      first
        | refine O_Xn (X_storeP 0 (writes_box (b := g) (t := 298) (cells := [.s b, I64 (at_ : Nat), I64 0]) (by simp)) rfl rfl rfl rfl rfl rfl rfl) ?_
        | refine O_Xn (X_storeP 1 (writes_box (b := g) (t := 298) (cells := [.s b, I64 (at_ : Nat), I64 0]) (by simp)) rfl rfl rfl rfl rfl rfl rfl) ?_
        | refine O_Xn (X_storeP 2 (writes_box (b := g) (t := 298) (cells := [.s b, I64 (at_ : Nat), I64 0]) (by simp)) rfl rfl rfl rfl rfl rfl rfl) ?_
        | refine O_Xn (X_storeP 3 (writes_box (b := g) (t := 298) (cells := [.s b, I64 (at_ : Nat), I64 0]) (by simp)) rfl rfl rfl rfl rfl rfl rfl) ?_
        | refine O_Xn (X_storeP 4 (writes_box (b := g) (t := 298) (cells := [.s b, I64 (at_ : Nat), I64 0]) (by simp)) rfl rfl rfl rfl rfl rfl rfl) ?_
      repeat (first|refine sc rfl ?_|refine so rfl ?_|refine sb rfl ?_)
      first
        | exact ⟨_, [_], _, rfl, pickA_perm (is := [0]) (As := [_]) rfl, rfl, by unfold rdV; rw [if_neg (by decide), if_pos h1], by unfold rdAt rdE; rw [if_neg (by decide), if_pos h1, if_neg (by decide)]; rfl⟩
        | exact ⟨_, [_], _, rfl, pickA_perm (is := [1]) (As := [_]) rfl, rfl, by unfold rdV; rw [if_neg (by decide), if_pos h1], by unfold rdAt rdE; rw [if_neg (by decide), if_pos h1, if_neg (by decide)]; rfl⟩
        | exact ⟨_, [_], _, rfl, pickA_perm (is := [2]) (As := [_]) rfl, rfl, by unfold rdV; rw [if_neg (by decide), if_pos h1], by unfold rdAt rdE; rw [if_neg (by decide), if_pos h1, if_neg (by decide)]; rfl⟩
        | exact ⟨_, [_], _, rfl, pickA_perm (is := [3]) (As := [_]) rfl, rfl, by unfold rdV; rw [if_neg (by decide), if_pos h1], by unfold rdAt rdE; rw [if_neg (by decide), if_pos h1, if_neg (by decide)]; rfl⟩
        | exact ⟨_, [_], _, rfl, pickA_perm (is := [4]) (As := [_]) rfl, rfl, by unfold rdV; rw [if_neg (by decide), if_pos h1], by unfold rdAt rdE; rw [if_neg (by decide), if_pos h1, if_neg (by decide)]; rfl⟩
    · subst h1
      have hk' := hk rfl rfl
      repeat (first|refine sc rfl ?_|refine so rfl ?_|refine sb rfl ?_)
      first
        | refine O_loadP 0 (reads_box 1) rfl rfl rfl rfl rfl rfl ?_
        | refine O_loadP 1 (reads_box 1) rfl rfl rfl rfl rfl rfl ?_
        | refine O_loadP 2 (reads_box 1) rfl rfl rfl rfl rfl rfl ?_
        | refine O_loadP 3 (reads_box 1) rfl rfl rfl rfl rfl rfl ?_
        | refine O_loadP 4 (reads_box 1) rfl rfl rfl rfl rfl rfl ?_
      repeat (first|refine sc rfl ?_|refine so rfl ?_|refine sb rfl ?_)
      rw [w64 (x := (at_ : Int) + (k : Int)) (by omega) (by omega)]
      first
        | refine O_Xn (X_storeP 0 (writes_box (b := g) (t := 298) (cells := [.s b, I64 (at_ : Nat), I64 0]) (by simp)) rfl rfl rfl rfl rfl rfl rfl) ?_
        | refine O_Xn (X_storeP 1 (writes_box (b := g) (t := 298) (cells := [.s b, I64 (at_ : Nat), I64 0]) (by simp)) rfl rfl rfl rfl rfl rfl rfl) ?_
        | refine O_Xn (X_storeP 2 (writes_box (b := g) (t := 298) (cells := [.s b, I64 (at_ : Nat), I64 0]) (by simp)) rfl rfl rfl rfl rfl rfl rfl) ?_
        | refine O_Xn (X_storeP 3 (writes_box (b := g) (t := 298) (cells := [.s b, I64 (at_ : Nat), I64 0]) (by simp)) rfl rfl rfl rfl rfl rfl rfl) ?_
        | refine O_Xn (X_storeP 4 (writes_box (b := g) (t := 298) (cells := [.s b, I64 (at_ : Nat), I64 0]) (by simp)) rfl rfl rfl rfl rfl rfl rfl) ?_
      repeat (first|refine sc rfl ?_|refine so rfl ?_|refine sb rfl ?_)
      first
        | exact ⟨_, [_], _, rfl, pickA_perm (is := [0]) (As := [_]) rfl, rfl, by unfold rdV; rw [if_neg (by decide), if_neg (by decide)], by unfold rdAt rdE; rw [if_neg (by decide), if_neg (by decide), if_neg (by decide)]; rfl⟩
        | exact ⟨_, [_], _, rfl, pickA_perm (is := [1]) (As := [_]) rfl, rfl, by unfold rdV; rw [if_neg (by decide), if_neg (by decide)], by unfold rdAt rdE; rw [if_neg (by decide), if_neg (by decide), if_neg (by decide)]; rfl⟩
        | exact ⟨_, [_], _, rfl, pickA_perm (is := [2]) (As := [_]) rfl, rfl, by unfold rdV; rw [if_neg (by decide), if_neg (by decide)], by unfold rdAt rdE; rw [if_neg (by decide), if_neg (by decide), if_neg (by decide)]; rfl⟩
        | exact ⟨_, [_], _, rfl, pickA_perm (is := [3]) (As := [_]) rfl, rfl, by unfold rdV; rw [if_neg (by decide), if_neg (by decide)], by unfold rdAt rdE; rw [if_neg (by decide), if_neg (by decide), if_neg (by decide)]; rfl⟩
        | exact ⟨_, [_], _, rfl, pickA_perm (is := [4]) (As := [_]) rfl, rfl, by unfold rdV; rw [if_neg (by decide), if_neg (by decide)], by unfold rdAt rdE; rw [if_neg (by decide), if_neg (by decide), if_neg (by decide)]; rfl⟩

theorem takeS_A (g : Nat) (b : List UInt8) (at_ : Nat) (e : Int) (fv : AV) (f : FuncId) (caps : List AV) (k : Nat) (e2 : Int) (x : List UInt8) (hclo : IsClo fv f caps) (himm : fv.imm = true) (hat : at_ ≤ b.length) (hfv : fv = .p (cloRP f caps) ∨ ∃ v, fv = .v v)
    (hf : e = 0 → FnP Tryz.prog f ([.s (b.drop at_)] ++ caps) (· = .tup [.s x, I64 (k : Nat), I64 e2])) (hk : e = 0 → e2 = 0 → at_ + k ≤ b.length) (hb : b.length ≤ 9223372036854775807) :
    FnA Tryz.prog 203 [PT g 0, fv] [rdr g b at_ e] (fun r cs' => r = .s (rdV [] x e e2) ∧ cs' = [rdr g b (rdAt at_ k e e2) (rdE e e2)]) := by
  rcases hfv with rfl | ⟨v, rfl⟩
  · refine FnA.intro Tryz.tabOK Tryz.wide_ Tryz.func203 rfl (by decide) rfl (fun X => ?_)
    repeat (first|refine sc rfl ?_|refine so rfl ?_|refine sb rfl ?_)
    refine O_Xd (X_ptrnil Tryz.underlying249 rfl rfl rfl) ?_
    repeat (first|refine sc rfl ?_|refine so rfl ?_|refine sb rfl ?_)
    first
      | refine O_loadP 0 (reads_box 2) rfl rfl rfl rfl rfl rfl ?_
      | refine O_loadP 1 (reads_box 2) rfl rfl rfl rfl rfl rfl ?_
      | refine O_loadP 2 (reads_box 2) rfl rfl rfl rfl rfl rfl ?_
      | refine O_loadP 3 (reads_box 2) rfl rfl rfl rfl rfl rfl ?_
      | refine O_loadP 4 (reads_box 2) rfl rfl rfl rfl rfl rfl ?_
    repeat (first|refine sc rfl ?_|refine so rfl ?_|refine sb rfl ?_)
    refine C_if rfl (fun h0 => ?_) (fun h0 => ?_) <;> simp only [pL] at h0
    · repeat (first|refine sc rfl ?_|refine so rfl ?_|refine sb rfl ?_)
      first
        | exact ⟨_, [_], _, rfl, pickA_perm (is := [0]) (As := [_]) rfl, rfl, by unfold rdV; rw [if_pos h0], by unfold rdAt rdE; rw [if_pos h0, if_pos h0]⟩
        | exact ⟨_, [_], _, rfl, pickA_perm (is := [1]) (As := [_]) rfl, rfl, by unfold rdV; rw [if_pos h0], by unfold rdAt rdE; rw [if_pos h0, if_pos h0]⟩
        | exact ⟨_, [_], _, rfl, pickA_perm (is := [2]) (As := [_]) rfl, rfl, by unfold rdV; rw [if_pos h0], by unfold rdAt rdE; rw [if_pos h0, if_pos h0]⟩
        | exact ⟨_, [_], _, rfl, pickA_perm (is := [3]) (As := [_]) rfl, rfl, by unfold rdV; rw [if_pos h0], by unfold rdAt rdE; rw [if_pos h0, if_pos h0]⟩
        | exact ⟨_, [_], _, rfl, pickA_perm (is := [4]) (As := [_]) rfl, rfl, by unfold rdV; rw [if_pos h0], by unfold rdAt rdE; rw [if_pos h0, if_pos h0]⟩
    subst h0
    repeat (first|refine sc rfl ?_|refine so rfl ?_|refine sb rfl ?_)
    refine C_drawD rfl (by kernel_rfl) ?_
    repeat (first|refine sd rfl ?_|refine sdb rfl ?_|refine sds rfl ?_)
    refine D_X (.s b) (X_loadP 0 (A := rdr g b at_ 0) (reads_box 0) rfl rfl rfl rfl rfl rfl) ?_
    repeat (first|refine sd rfl ?_|refine sdb rfl ?_|refine sds rfl ?_)
    refine D_X (I64 (at_ : Nat)) (X_loadP 0 (A := rdr g b at_ 0) (reads_box 1) rfl rfl rfl rfl rfl rfl) ?_
    repeat (first | refine sd rfl ?_ | refine ⟨by omega, ?_⟩)
    rw [Int.toNat_natCast]
    refine D_callV hclo himm (hf rfl) rfl rfl rfl rfl rfl ?_
    repeat (first|refine sd rfl ?_|refine sdb rfl ?_|refine sds rfl ?_)
    repeat (first|refine sc rfl ?_|refine so rfl ?_|refine sb rfl ?_)
    refine C_if rfl (fun h1 => ?_) (fun h1 => ?_) <;> simp only [pL] at h1
    · repeat (first|refine sc rfl ?_|refine so rfl ?_|refine sb rfl ?_)
      first
        | refine O_Xn (X_storeP 0 (writes_box (b := g) (t := 298) (cells := [.s b, I64 (at_ : Nat), I64 0]) (by simp)) rfl rfl rfl rfl rfl rfl rfl) ?_
        | refine O_Xn (X_storeP 1 (writes_box (b := g) (t := 298) (cells := [.s b, I64 (at_ : Nat), I64 0]) (by simp)) rfl rfl rfl rfl rfl rfl rfl) ?_
        | refine O_Xn (X_storeP 2 (writes_box (b := g) (t := 298) (cells := [.s b, I64 (at_ : Nat), I64 0]) (by simp)) rfl rfl rfl rfl rfl rfl rfl) ?_
        | refine O_Xn (X_storeP 3 (writes_box (b := g) (t := 298) (cells := [.s b, I64 (at_ : Nat), I64 0]) (by simp)) rfl rfl rfl rfl rfl rfl rfl) ?_
        | refine O_Xn (X_storeP 4 (writes_box (b := g) (t := 298) (cells := [.s b, I64 (at_ : Nat), I64 0]) (by simp)) rfl rfl rfl rfl rfl rfl rfl) ?_
      repeat (first|refine sc rfl ?_|refine so rfl ?_|refine sb rfl ?_)
      first
        | exact ⟨_, [_], _, rfl, pickA_perm (is := [0]) (As := [_]) rfl, rfl, by unfold rdV; rw [if_neg (by decide), if_pos h1], by unfold rdAt rdE; rw [if_neg (by decide), if_pos h1, if_neg (by decide)]; rfl⟩
        | exact ⟨_, [_], _, rfl, pickA_perm (is := [1]) (As := [_]) rfl, rfl, by unfold rdV; rw [if_neg (by decide), if_pos h1], by unfold rdAt rdE; rw [if_neg (by decide), if_pos h1, if_neg (by decide)]; rfl⟩
        | exact ⟨_, [_], _, rfl, pickA_perm (is := [2]) (As := [_]) rfl, rfl, by unfold rdV; rw [if_neg (by decide), if_pos h1], by unfold rdAt rdE; rw [if_neg (by decide), if_pos h1, if_neg (by decide)]; rfl⟩
        | exact ⟨_, [_], _, rfl, pickA_perm (is := [3]) (As := [_]) rfl, rfl, by unfold rdV; rw [if_neg (by decide), if_pos h1], by unfold rdAt rdE; rw [if_neg (by decide), if_pos h1, if_neg (by decide)]; rfl⟩
        | exact ⟨_, [_], _, rfl, pickA_perm (is := [4]) (As := [_]) rfl, rfl, by unfold rdV; rw [if_neg (by decide), if_pos h1], by unfold rdAt rdE; rw [if_neg (by decide), if_pos h1, if_neg (by decide)]; rfl⟩
    · subst h1
      have hk' := hk rfl rfl
      repeat (first|refine sc rfl ?_|refine so rfl ?_|refine sb rfl ?_)
      first
        | refine O_loadP 0 (reads_box 1) rfl rfl rfl rfl rfl rfl ?_
        | refine O_loadP 1 (reads_box 1) rfl rfl rfl rfl rfl rfl ?_
        | refine O_loadP 2 (reads_box 1) rfl rfl rfl rfl rfl rfl ?_
        | refine O_loadP 3 (reads_box 1) rfl rfl rfl rfl rfl rfl ?_
        | refine O_loadP 4 (reads_box 1) rfl rfl rfl rfl rfl rfl ?_
      repeat (first|refine sc rfl ?_|refine so rfl ?_|refine sb rfl ?_)
      rw [w64 (x := (at_ : Int) + (k : Int)) (by omega) (by omega)]
      first
        | refine O_Xn (X_storeP 0 (writes_box (b := g) (t := 298) (cells := [.s b, I64 (at_ : Nat), I64 0]) (by simp)) rfl rfl rfl rfl rfl rfl rfl) ?_
        | refine O_Xn (X_storeP 1 (writes_box (b := g) (t := 298) (cells := [.s b, I64 (at_ : Nat), I64 0]) (by simp)) rfl rfl rfl rfl rfl rfl rfl) ?_
        | refine O_Xn (X_storeP 2 (writes_box (b := g) (t := 298) (cells := [.s b, I64 (at_ : Nat), I64 0]) (by simp)) rfl rfl rfl rfl rfl rfl rfl) ?_
        | refine O_Xn (X_storeP 3 (writes_box (b := g) (t := 298) (cells := [.s b, I64 (at_ : Nat), I64 0]) (by simp)) rfl rfl rfl rfl rfl rfl rfl) ?_
        | refine O_Xn (X_storeP 4 (writes_box (b := g) (t := 298) (cells := [.s b, I64 (at_ : Nat), I64 0]) (by simp)) rfl rfl rfl rfl rfl rfl rfl) ?_
      repeat (first|refine sc rfl ?_|refine so rfl ?_|refine sb rfl ?_)
      first
        | exact ⟨_, [_], _, rfl, pickA_perm (is := [0]) (As := [_]) rfl, rfl, by unfold rdV; rw [if_neg (by decide), if_neg (by decide)], by unfold rdAt rdE; rw [if_neg (by decide), if_neg (by decide), if_neg (by decide)]; rfl⟩
        | exact ⟨_, [_], _, rfl, pickA_perm (is := [1]) (As := [_]) rfl, rfl, by unfold rdV; rw [if_neg (by decide), if_neg (by decide)], by unfold rdAt rdE; rw [if_neg (by decide), if_neg (by decide), if_neg (by decide)]; rfl⟩
        | exact ⟨_, [_], _, rfl, pickA_perm (is := [2]) (As := [_]) rfl, rfl, by unfold rdV; rw [if_neg (by decide), if_neg (by decide)], by unfold rdAt rdE; rw [if_neg (by decide), if_neg (by decide), if_neg (by decide)]; rfl⟩
        | exact ⟨_, [_], _, rfl, pickA_perm (is := [3]) (As := [_]) rfl, rfl, by unfold rdV; rw [if_neg (by decide), if_neg (by decide)], by unfold rdAt rdE; rw [if_neg (by decide), if_neg (by decide), if_neg (by decide)]; rfl⟩
        | exact ⟨_, [_], _, rfl, pickA_perm (is := [4]) (As := [_]) rfl, rfl, by unfold rdV; rw [if_neg (by decide), if_neg (by decide)], by unfold rdAt rdE; rw [if_neg (by decide), if_neg (by decide), if_neg (by decide)]; rfl⟩
  · refine FnA.intro Tryz.tabOK Tryz.wide_ Tryz.func203 rfl (by decide) rfl (fun X => ?_)
    repeat (first|refine sc rfl ?_|refine so rfl ?_|refine sb rfl ?_)
    refine O_Xd (X_ptrnil Tryz.underlying249 rfl rfl rfl) ?_
    repeat (first|refine sc rfl ?_|refine so rfl ?_|refine sb rfl ?_)
    first
      | refine O_loadP 0 (reads_box 2) rfl rfl rfl rfl rfl rfl ?_
      | refine O_loadP 1 (reads_box 2) rfl rfl rfl rfl rfl rfl ?_
      | refine O_loadP 2 (reads_box 2) rfl rfl rfl rfl rfl rfl ?_
      | refine O_loadP 3 (reads_box 2) rfl rfl rfl rfl rfl rfl ?_
      | refine O_loadP 4 (reads_box 2) rfl rfl rfl rfl rfl rfl ?_
    repeat (first|refine sc rfl ?_|refine so rfl ?_|refine sb rfl ?_)
    refine C_if rfl (fun h0 => ?_) (fun h0 => ?_) <;> simp only [pL] at h0
    · repeat (first|refine sc rfl ?_|refine so rfl ?_|refine sb rfl ?_)
      first
        | exact ⟨_, [_], _, rfl, pickA_perm (is := [0]) (As := [_]) rfl, rfl, by unfold rdV; rw [if_pos h0], by unfold rdAt rdE; rw [if_pos h0, if_pos h0]⟩
        | exact ⟨_, [_], _, rfl, pickA_perm (is := [1]) (As := [_]) rfl, rfl, by unfold rdV; rw [if_pos h0], by unfold rdAt rdE; rw [if_pos h0, if_pos h0]⟩
        | exact ⟨_, [_], _, rfl, pickA_perm (is := [2]) (As := [_]) rfl, rfl, by unfold rdV; rw [if_pos h0], by unfold rdAt rdE; rw [if_pos h0, if_pos h0]⟩
        | exact ⟨_, [_], _, rfl, pickA_perm (is := [3]) (As := [_]) rfl, rfl, by unfold rdV; rw [if_pos h0], by unfold rdAt rdE; rw [if_pos h0, if_pos h0]⟩
        | exact ⟨_, [_], _, rfl, pickA_perm (is := [4]) (As := [_]) rfl, rfl, by unfold rdV; rw [if_pos h0], by unfold rdAt rdE; rw [if_pos h0, if_pos h0]⟩
    subst h0
    repeat (first|refine sc rfl ?_|refine so rfl ?_|refine sb rfl ?_)
    refine C_drawD rfl (by kernel_rfl) ?_
    repeat (first|refine sd rfl ?_|refine sdb rfl ?_|refine sds rfl ?_)
    refine D_X (.s b) (X_loadP 0 (A := rdr g b at_ 0) (reads_box 0) rfl rfl rfl rfl rfl rfl) ?_
    repeat (first|refine sd rfl ?_|refine sdb rfl ?_|refine sds rfl ?_)
    refine D_X (I64 (at_ : Nat)) (X_loadP 0 (A := rdr g b at_ 0) (reads_box 1) rfl rfl rfl rfl rfl rfl) ?_
    repeat (first | refine sd rfl ?_ | refine ⟨by omega, ?_⟩)
    rw [Int.toNat_natCast]
    refine D_callV hclo himm (hf rfl) rfl rfl rfl rfl rfl ?_
    repeat (first|refine sd rfl ?_|refine sdb rfl ?_|refine sds rfl ?_)
    repeat (first|refine sc rfl ?_|refine so rfl ?_|refine sb rfl ?_)
    refine C_if rfl (fun h1 => ?_) (fun h1 => ?_) <;> simp only [pL] at h1
    · repeat (first|refine sc rfl ?_|refine so rfl ?_|refine sb rfl ?_)
      first
        | refine O_Xn (X_storeP 0 (writes_box (b := g) (t := 298) (cells := [.s b, I64 (at_ : Nat), I64 0]) (by simp)) rfl rfl rfl rfl rfl rfl rfl) ?_
        | refine O_Xn (X_storeP 1 (writes_box (b := g) (t := 298) (cells := [.s b, I64 (at_ : Nat), I64 0]) (by simp)) rfl rfl rfl rfl rfl rfl rfl) ?_
        | refine O_Xn (X_storeP 2 (writes_box (b := g) (t := 298) (cells := [.s b, I64 (at_ : Nat), I64 0]) (by simp)) rfl rfl rfl rfl rfl rfl rfl) ?_
        | refine O_Xn (X_storeP 3 (writes_box (b := g) (t := 298) (cells := [.s b, I64 (at_ : Nat), I64 0]) (by simp)) rfl rfl rfl rfl rfl rfl rfl) ?_
        | refine O_Xn (X_storeP 4 (writes_box (b := g) (t := 298) (cells := [.s b, I64 (at_ : Nat), I64 0]) (by simp)) rfl rfl rfl rfl rfl rfl rfl) ?_
      repeat (first|refine sc rfl ?_|refine so rfl ?_|refine sb rfl ?_)
      first
        | exact ⟨_, [_], _, rfl, pickA_perm (is := [0]) (As := [_]) rfl, rfl, by unfold rdV; rw [if_neg (by decide), if_pos h1], by unfold rdAt rdE; rw [if_neg (by decide), if_pos h1, if_neg (by decide)]; rfl⟩
        | exact ⟨_, [_], _, rfl, pickA_perm (is := [1]) (As := [_]) rfl, rfl, by unfold rdV; rw [if_neg (by decide), if_pos h1], by unfold rdAt rdE; rw [if_neg (by decide), if_pos h1, if_neg (by decide)]; rfl⟩
        | exact ⟨_, [_], _, rfl, pickA_perm (is := [2]) (As := [_]) rfl, rfl, by unfold rdV; rw [if_neg (by decide), if_pos h1], by unfold rdAt rdE; rw [if_neg (by decide), if_pos h1, if_neg (by decide)]; rfl⟩
        | exact ⟨_, [_], _, rfl, pickA_perm (is := [3]) (As := [_]) rfl, rfl, by unfold rdV; rw [if_neg (by decide), if_pos h1], by unfold rdAt rdE; rw [if_neg (by decide), if_pos h1, if_neg (by decide)]; rfl⟩
        | exact ⟨_, [_], _, rfl, pickA_perm (is := [4]) (As := [_]) rfl, rfl, by unfold rdV; rw [if_neg (by decide), if_pos h1], by unfold rdAt rdE; rw [if_neg (by decide), if_pos h1, if_neg (by decide)]; rfl⟩
    · subst h1
      have hk' := hk rfl rfl
      repeat (first|refine sc rfl ?_|refine so rfl ?_|refine sb rfl ?_)
      first
        | refine O_loadP 0 (reads_box 1) rfl rfl rfl rfl rfl rfl ?_
        | refine O_loadP 1 (reads_box 1) rfl rfl rfl rfl rfl rfl ?_
        | refine O_loadP 2 (reads_box 1) rfl rfl rfl rfl rfl rfl ?_
        | refine O_loadP 3 (reads_box 1) rfl rfl rfl rfl rfl rfl ?_
        | refine O_loadP 4 (reads_box 1) rfl rfl rfl rfl rfl rfl ?_
      repeat (first|refine sc rfl ?_|refine so rfl ?_|refine sb rfl ?_)
      rw [w64 (x := (at_ : Int) + (k : Int)) (by omega) (by omega)]
      first
        | refine O_Xn (X_storeP 0 (writes_box (b := g) (t := 298) (cells := [.s b, I64 (at_ : Nat), I64 0]) (by simp)) rfl rfl rfl rfl rfl rfl rfl) ?_
        | refine O_Xn (X_storeP 1 (writes_box (b := g) (t := 298) (cells := [.s b, I64 (at_ : Nat), I64 0]) (by simp)) rfl rfl rfl rfl rfl rfl rfl) ?_
        | refine O_Xn (X_storeP 2 (writes_box (b := g) (t := 298) (cells := [.s b, I64 (at_ : Nat), I64 0]) (by simp)) rfl rfl rfl rfl rfl rfl rfl) ?_
        | refine O_Xn (X_storeP 3 (writes_box (b := g) (t := 298) (cells := [.s b, I64 (at_ : Nat), I64 0]) (by simp)) rfl rfl rfl rfl rfl rfl rfl) ?_
        | refine O_Xn (X_storeP 4 (writes_box (b := g) (t := 298) (cells := [.s b, I64 (at_ : Nat), I64 0]) (by simp)) rfl rfl rfl rfl rfl rfl rfl) ?_
      repeat (first|refine sc rfl ?_|refine so rfl ?_|refine sb rfl ?_)
      first
        | exact ⟨_, [_], _, rfl, pickA_perm (is := [0]) (As := [_]) rfl, rfl, by unfold rdV; rw [if_neg (by decide), if_neg (by decide)], by unfold rdAt rdE; rw [if_neg (by decide), if_neg (by decide), if_neg (by decide)]; rfl⟩
        | exact ⟨_, [_], _, rfl, pickA_perm (is := [1]) (As := [_]) rfl, rfl, by unfold rdV; rw [if_neg (by decide), if_neg (by decide)], by unfold rdAt rdE; rw [if_neg (by decide), if_neg (by decide), if_neg (by decide)]; rfl⟩
        | exact ⟨_, [_], _, rfl, pickA_perm (is := [2]) (As := [_]) rfl, rfl, by unfold rdV; rw [if_neg (by decide), if_neg (by decide)], by unfold rdAt rdE; rw [if_neg (by decide), if_neg (by decide), if_neg (by decide)]; rfl⟩
        | exact ⟨_, [_], _, rfl, pickA_perm (is := [3]) (As := [_]) rfl, rfl, by unfold rdV; rw [if_neg (by decide), if_neg (by decide)], by unfold rdAt rdE; rw [if_neg (by decide), if_neg (by decide), if_neg (by decide)]; rfl⟩
        | exact ⟨_, [_], _, rfl, pickA_perm (is := [4]) (As := [_]) rfl, rfl, by unfold rdV; rw [if_neg (by decide), if_neg (by decide)], by unfold rdAt rdE; rw [if_neg (by decide), if_neg (by decide), if_neg (by decide)]; rfl⟩
end Go.Proofs

namespace Go.Proofs
open Go.Sy Go.Lib

def intT (m : Nat) (l : List UInt8) : Int × Nat × Int := (IntKind.i64.wrap ((tk l).1 : Nat), (tk l).2.1, if (tk l).2.2 = 0 ∧ m < (tk l).1 then 3 else (tk l).2.2)

theorem IntF_p (m : Nat) (hm : m ≤ 9223372036854775807) (l : List UInt8) (hl : l.length ≤ 9223372036854775807) : FnP Tryz.prog 200 [.s l, .cp [I64 (m : Nat)]]
    (· = .tup [I64 (intT m l).1, I64 (((intT m l).2.1 : Nat) : Int), I64 (intT m l).2.2]) := by
  refine FnP.intro Tryz.tabOK Tryz.wide_ Tryz.func200 rfl (by decide) rfl (fun X => ?_)
  unfold intT
  repeat (first|refine sc rfl ?_|refine so rfl ?_|refine sb rfl ?_)
  refine O_call (vTake_p l hl) (by rfl) (by rfl) (by rfl) (by rfl) (fun r hr => ?_)
  subst hr
  obtain ⟨n, k, e, ht⟩ : ∃ n k e, tk l = (n, k, e) := ⟨_, _, _, rfl⟩
  rw [ht]
  simp only []
  repeat (first|refine sc rfl ?_|refine so rfl ?_|refine sb rfl ?_)
  refine O_join ⟨[(6, U64 (n : Nat)), (7, I64 (k : Nat)), (8, I64 e), (23, B (decide (e = 0 ∧ m < n)))], []⟩ ?_ (fun s h => C_le _ h ?_)
  · have fin2 : ∀ x : Bool, x = decide (e = 0 ∧ m < n) → some (B x) = some (B (decide (e = 0 ∧ m < n))) := fun x hb => by rw [hb]
    refine O_case 17 rfl (fun h5 => ?_) (fun h5 => ?_) <;> simp at h5 <;> repeat (first|refine sc rfl ?_|refine so rfl ?_|refine sb rfl ?_)
    · rw [show max (m : Int) 0 = (m : Int) by omega, u64wrap (x := (m : Int)) (by omega) (by omega)]
      refine Le.sub [] ⟨rfl, rfl, rfl, fin2 _ ?_, trivial⟩ rfl
      rw [Bool.eq_iff_iff, decide_eq_true_eq, decide_eq_true_eq]
      omega
    · exact Le.sub [] ⟨rfl, rfl, rfl, fin2 _ (by rw [Bool.eq_iff_iff]; simp; omega), trivial⟩ rfl
  refine C_ifJ ⟨[(6, U64 (n : Nat)), (7, I64 (k : Nat)), (8, I64 (if e = 0 ∧ m < n then 3 else e))], []⟩ rfl (fun h1 => ?_) (fun h1 => ?_) (fun s h => C_le _ h ?_)
  · rw [if_pos (of_decide_eq_true h1)]
    repeat (first|refine sc rfl ?_|refine so rfl ?_|refine sb rfl ?_)
    exact Le.sub [] ⟨rfl, rfl, rfl, trivial⟩ rfl
  · rw [if_neg (of_decide_eq_false h1)]
    repeat (first|refine sc rfl ?_|refine so rfl ?_|refine sb rfl ?_)
    exact Le.sub [] ⟨rfl, rfl, rfl, trivial⟩ rfl
  repeat (first|refine sc rfl ?_|refine so rfl ?_|refine sb rfl ?_)
  exact ⟨_, rfl, rfl, rfl⟩

theorem Read_A0 (b : List UInt8) : FnA Tryz.prog 141 [.s b] [] (fun r cs' => ∃ g, r = PT g 0 ∧ cs' = [rdr g b 0 0]) := by
  refine FnA.intro Tryz.tabOK Tryz.wide_ Tryz.func141 rfl (by decide) rfl (fun X => ?_)
  iterate 11 (first|refine sc rfl ?_|refine so rfl ?_|refine sb rfl ?_)
  refine C_absb 2 rfl rfl rfl (fun g => ?_)
  repeat (first|refine sc rfl ?_|refine so rfl ?_|refine sb rfl ?_)
  first
    | exact ⟨_, [_], _, rfl, pickA_perm (is := [0]) (As := [_]) rfl, rfl, g, rfl, rfl⟩
    | exact ⟨_, [_], _, rfl, pickA_perm (is := [1]) (As := [_]) rfl, rfl, g, rfl, rfl⟩

theorem tk_end {l : List UInt8} (h : (tk l).2.2 = 0) : (tk l).2.1 ≤ l.length := by
  obtain ⟨n, k, e, ht⟩ : ∃ n k e, tk l = (n, k, e) := ⟨_, _, _, rfl⟩
  rw [ht] at h ⊢
  simp only [] at h
  subst h
  exact (tk_take ht).2.2.1

theorem Num_A (g : Nat) (b : List UInt8) (at_ : Nat) (e : Int) (hat : at_ ≤ b.length) (hb : b.length ≤ 9223372036854775807) :
    FnA Tryz.prog 143 [PT g 0] [rdr g b at_ e] (fun r cs' => r = U64 (rdV 0 ((tk (b.drop at_)).1 : Nat) e (tk (b.drop at_)).2.2) ∧ cs' = [rdr g b (rdAt at_ (tk (b.drop at_)).2.1 e (tk (b.drop at_)).2.2) (rdE e (tk (b.drop at_)).2.2)]) := by
  refine FnA.intro Tryz.tabOK Tryz.wide_ Tryz.func143 rfl (by decide) rfl (fun X => ?_)
  repeat (first|refine sc rfl ?_|refine so rfl ?_|refine sb rfl ?_)
  first
    | refine O_callA [0] (takeU_A g b at_ e (.v (.func (.func 201) #[] #[])) 201 [] (tk (b.drop at_)).2.1 (tk (b.drop at_)).2.2 ((tk (b.drop at_)).1 : Nat) (isClo_func 201) rfl hat (.inr ⟨_, rfl⟩) (fun _ => vTake_p (b.drop at_) (by simp; omega)) (fun _ h => by have := tk_end h; simp at this; omega) hb) (by rfl) (by rfl) (by rfl) (by rfl) (by rfl) ?_
    | refine O_callA [1] (takeU_A g b at_ e (.v (.func (.func 201) #[] #[])) 201 [] (tk (b.drop at_)).2.1 (tk (b.drop at_)).2.2 ((tk (b.drop at_)).1 : Nat) (isClo_func 201) rfl hat (.inr ⟨_, rfl⟩) (fun _ => vTake_p (b.drop at_) (by simp; omega)) (fun _ h => by have := tk_end h; simp at this; omega) hb) (by rfl) (by rfl) (by rfl) (by rfl) (by rfl) ?_
    | refine O_callA [2] (takeU_A g b at_ e (.v (.func (.func 201) #[] #[])) 201 [] (tk (b.drop at_)).2.1 (tk (b.drop at_)).2.2 ((tk (b.drop at_)).1 : Nat) (isClo_func 201) rfl hat (.inr ⟨_, rfl⟩) (fun _ => vTake_p (b.drop at_) (by simp; omega)) (fun _ h => by have := tk_end h; simp at this; omega) hb) (by rfl) (by rfl) (by rfl) (by rfl) (by rfl) ?_
    | refine O_callA [3] (takeU_A g b at_ e (.v (.func (.func 201) #[] #[])) 201 [] (tk (b.drop at_)).2.1 (tk (b.drop at_)).2.2 ((tk (b.drop at_)).1 : Nat) (isClo_func 201) rfl hat (.inr ⟨_, rfl⟩) (fun _ => vTake_p (b.drop at_) (by simp; omega)) (fun _ h => by have := tk_end h; simp at this; omega) hb) (by rfl) (by rfl) (by rfl) (by rfl) (by rfl) ?_
    | refine O_callA [4] (takeU_A g b at_ e (.v (.func (.func 201) #[] #[])) 201 [] (tk (b.drop at_)).2.1 (tk (b.drop at_)).2.2 ((tk (b.drop at_)).1 : Nat) (isClo_func 201) rfl hat (.inr ⟨_, rfl⟩) (fun _ => vTake_p (b.drop at_) (by simp; omega)) (fun _ h => by have := tk_end h; simp at this; omega) hb) (by rfl) (by rfl) (by rfl) (by rfl) (by rfl) ?_
  rintro r cs' ⟨rfl, rfl⟩
  repeat (first|refine sc rfl ?_|refine so rfl ?_|refine sb rfl ?_)
  first
    | exact ⟨_, [_], _, rfl, pickA_perm (is := [0]) (As := [_]) rfl, rfl, rfl, rfl⟩
    | exact ⟨_, [_], _, rfl, pickA_perm (is := [1]) (As := [_]) rfl, rfl, rfl, rfl⟩
    | exact ⟨_, [_], _, rfl, pickA_perm (is := [2]) (As := [_]) rfl, rfl, rfl, rfl⟩
    | exact ⟨_, [_], _, rfl, pickA_perm (is := [3]) (As := [_]) rfl, rfl, rfl, rfl⟩
    | exact ⟨_, [_], _, rfl, pickA_perm (is := [4]) (As := [_]) rfl, rfl, rfl, rfl⟩

theorem intT_end {m : Nat} {l : List UInt8} (h : (intT m l).2.2 = 0) : (intT m l).2.1 ≤ l.length := by
  unfold intT at h ⊢
  simp only [] at h ⊢
  split at h
  · cases h
  · exact tk_end h

theorem Int_A (g : Nat) (b : List UInt8) (at_ : Nat) (e : Int) (m : Nat) (hm : m ≤ 9223372036854775807) (hat : at_ ≤ b.length) (hb : b.length ≤ 9223372036854775807) :
    FnA Tryz.prog 142 [PT g 0, I64 (m : Nat)] [rdr g b at_ e] (fun r cs' => r = I64 (rdV 0 (intT m (b.drop at_)).1 e (intT m (b.drop at_)).2.2) ∧ cs' = [rdr g b (rdAt at_ (intT m (b.drop at_)).2.1 e (intT m (b.drop at_)).2.2) (rdE e (intT m (b.drop at_)).2.2)]) := by
  refine FnA.intro Tryz.tabOK Tryz.wide_ Tryz.func142 rfl (by decide) rfl (fun X => ?_)
  repeat (first|refine sc rfl ?_|refine so rfl ?_|refine sb rfl ?_)
  refine O_le _ (Le.freezebox 3 rfl rfl rfl) ?_
  repeat (first|refine sc rfl ?_|refine so rfl ?_|refine sb rfl ?_)
  refine O_makeFunc rfl rfl rfl rfl ?_
  repeat (first|refine sc rfl ?_|refine so rfl ?_|refine sb rfl ?_)
  first
    | refine O_callA [0] (takeI_A g b at_ e (.p (cloRP 200 [.cp [I64 (m : Nat)]])) 200 [.cp [I64 (m : Nat)]] (intT m (b.drop at_)).2.1 (intT m (b.drop at_)).2.2 (intT m (b.drop at_)).1 (isClo_p _ _) rfl hat (.inl rfl) (fun _ => IntF_p m hm (b.drop at_) (by simp; omega)) (fun _ h => by have := intT_end h; simp at this; omega) hb) (by rfl) (by rfl) (by rfl) (by rfl) (by rfl) ?_
    | refine O_callA [1] (takeI_A g b at_ e (.p (cloRP 200 [.cp [I64 (m : Nat)]])) 200 [.cp [I64 (m : Nat)]] (intT m (b.drop at_)).2.1 (intT m (b.drop at_)).2.2 (intT m (b.drop at_)).1 (isClo_p _ _) rfl hat (.inl rfl) (fun _ => IntF_p m hm (b.drop at_) (by simp; omega)) (fun _ h => by have := intT_end h; simp at this; omega) hb) (by rfl) (by rfl) (by rfl) (by rfl) (by rfl) ?_
    | refine O_callA [2] (takeI_A g b at_ e (.p (cloRP 200 [.cp [I64 (m : Nat)]])) 200 [.cp [I64 (m : Nat)]] (intT m (b.drop at_)).2.1 (intT m (b.drop at_)).2.2 (intT m (b.drop at_)).1 (isClo_p _ _) rfl hat (.inl rfl) (fun _ => IntF_p m hm (b.drop at_) (by simp; omega)) (fun _ h => by have := intT_end h; simp at this; omega) hb) (by rfl) (by rfl) (by rfl) (by rfl) (by rfl) ?_
    | refine O_callA [3] (takeI_A g b at_ e (.p (cloRP 200 [.cp [I64 (m : Nat)]])) 200 [.cp [I64 (m : Nat)]] (intT m (b.drop at_)).2.1 (intT m (b.drop at_)).2.2 (intT m (b.drop at_)).1 (isClo_p _ _) rfl hat (.inl rfl) (fun _ => IntF_p m hm (b.drop at_) (by simp; omega)) (fun _ h => by have := intT_end h; simp at this; omega) hb) (by rfl) (by rfl) (by rfl) (by rfl) (by rfl) ?_
    | refine O_callA [4] (takeI_A g b at_ e (.p (cloRP 200 [.cp [I64 (m : Nat)]])) 200 [.cp [I64 (m : Nat)]] (intT m (b.drop at_)).2.1 (intT m (b.drop at_)).2.2 (intT m (b.drop at_)).1 (isClo_p _ _) rfl hat (.inl rfl) (fun _ => IntF_p m hm (b.drop at_) (by simp; omega)) (fun _ h => by have := intT_end h; simp at this; omega) hb) (by rfl) (by rfl) (by rfl) (by rfl) (by rfl) ?_
  rintro r cs' ⟨rfl, rfl⟩
  repeat (first|refine sc rfl ?_|refine so rfl ?_|refine sb rfl ?_)
  first
    | exact ⟨_, [_], _, rfl, pickA_perm (is := [0]) (As := [_]) rfl, rfl, rfl, rfl⟩
    | exact ⟨_, [_], _, rfl, pickA_perm (is := [1]) (As := [_]) rfl, rfl, rfl, rfl⟩
    | exact ⟨_, [_], _, rfl, pickA_perm (is := [2]) (As := [_]) rfl, rfl, rfl, rfl⟩
    | exact ⟨_, [_], _, rfl, pickA_perm (is := [3]) (As := [_]) rfl, rfl, rfl, rfl⟩
    | exact ⟨_, [_], _, rfl, pickA_perm (is := [4]) (As := [_]) rfl, rfl, rfl, rfl⟩

theorem RestF_c (b : List UInt8) : FnP Tryz.prog 204 [.s b] (· = .tup [.s b, I64 (b.length : Nat), I64 0]) := by
  refine FnP.intro Tryz.tabOK Tryz.wide_ Tryz.func204 rfl (by decide) rfl (fun X => ?_)
  repeat (first|refine sc rfl ?_|refine so rfl ?_|refine sb rfl ?_)
  exact ⟨_, rfl, rfl, rfl⟩

theorem Rest_A (g : Nat) (b : List UInt8) (at_ : Nat) (e : Int) (hat : at_ ≤ b.length) (hb : b.length ≤ 9223372036854775807) :
    FnA Tryz.prog 144 [PT g 0] [rdr g b at_ e] (fun r cs' => r = .s (rdV [] (b.drop at_) e 0) ∧ cs' = [rdr g b (rdAt at_ (b.length - at_) e 0) (rdE e 0)]) := by
  refine FnA.intro Tryz.tabOK Tryz.wide_ Tryz.func144 rfl (by decide) rfl (fun X => ?_)
  repeat (first|refine sc rfl ?_|refine so rfl ?_|refine sb rfl ?_)
  first
    | refine O_callA [0] (takeS_A g b at_ e (.v (.func (.func 204) #[] #[])) 204 [] (b.length - at_) 0 (b.drop at_) (isClo_func 204) rfl hat (.inr ⟨_, rfl⟩) (fun _ => by have h := RestF_c (b.drop at_); rw [List.length_drop] at h; exact h) (fun _ _ => by omega) hb) (by rfl) (by rfl) (by rfl) (by rfl) (by rfl) ?_
    | refine O_callA [1] (takeS_A g b at_ e (.v (.func (.func 204) #[] #[])) 204 [] (b.length - at_) 0 (b.drop at_) (isClo_func 204) rfl hat (.inr ⟨_, rfl⟩) (fun _ => by have h := RestF_c (b.drop at_); rw [List.length_drop] at h; exact h) (fun _ _ => by omega) hb) (by rfl) (by rfl) (by rfl) (by rfl) (by rfl) ?_
    | refine O_callA [2] (takeS_A g b at_ e (.v (.func (.func 204) #[] #[])) 204 [] (b.length - at_) 0 (b.drop at_) (isClo_func 204) rfl hat (.inr ⟨_, rfl⟩) (fun _ => by have h := RestF_c (b.drop at_); rw [List.length_drop] at h; exact h) (fun _ _ => by omega) hb) (by rfl) (by rfl) (by rfl) (by rfl) (by rfl) ?_
    | refine O_callA [3] (takeS_A g b at_ e (.v (.func (.func 204) #[] #[])) 204 [] (b.length - at_) 0 (b.drop at_) (isClo_func 204) rfl hat (.inr ⟨_, rfl⟩) (fun _ => by have h := RestF_c (b.drop at_); rw [List.length_drop] at h; exact h) (fun _ _ => by omega) hb) (by rfl) (by rfl) (by rfl) (by rfl) (by rfl) ?_
    | refine O_callA [4] (takeS_A g b at_ e (.v (.func (.func 204) #[] #[])) 204 [] (b.length - at_) 0 (b.drop at_) (isClo_func 204) rfl hat (.inr ⟨_, rfl⟩) (fun _ => by have h := RestF_c (b.drop at_); rw [List.length_drop] at h; exact h) (fun _ _ => by omega) hb) (by rfl) (by rfl) (by rfl) (by rfl) (by rfl) ?_
  rintro r cs' ⟨rfl, rfl⟩
  repeat (first|refine sc rfl ?_|refine so rfl ?_|refine sb rfl ?_)
  first
    | exact ⟨_, [_], _, rfl, pickA_perm (is := [0]) (As := [_]) rfl, rfl, rfl, rfl⟩
    | exact ⟨_, [_], _, rfl, pickA_perm (is := [1]) (As := [_]) rfl, rfl, rfl, rfl⟩
    | exact ⟨_, [_], _, rfl, pickA_perm (is := [2]) (As := [_]) rfl, rfl, rfl, rfl⟩
    | exact ⟨_, [_], _, rfl, pickA_perm (is := [3]) (As := [_]) rfl, rfl, rfl, rfl⟩
    | exact ⟨_, [_], _, rfl, pickA_perm (is := [4]) (As := [_]) rfl, rfl, rfl, rfl⟩

def rdDone (b : List UInt8) (at_ : Nat) (e : Int) : Int := if e ≠ 0 then e else if at_ < b.length then 1 else 0
theorem Done_A (g : Nat) (b : List UInt8) (at_ : Nat) (e : Int) : FnA Tryz.prog 145 [PT g 0] [rdr g b at_ e] (fun r cs' => r = I64 (rdDone b at_ e) ∧ cs' = [rdr g b at_ e]) := by
  refine FnA.intro Tryz.tabOK Tryz.wide_ Tryz.func145 rfl (by decide) rfl (fun X => ?_)
  unfold rdDone
  repeat (first|refine sc rfl ?_|refine so rfl ?_|refine sb rfl ?_)
  refine O_Xd (X_ptrnil Tryz.underlying249 rfl rfl rfl) ?_
  repeat (first|refine sc rfl ?_|refine so rfl ?_|refine sb rfl ?_)
  refine C_false rfl rfl ?_
  repeat (first|refine sc rfl ?_|refine so rfl ?_|refine sb rfl ?_)
  first
    | refine O_loadP 0 (reads_box 2) rfl rfl rfl rfl rfl rfl ?_
    | refine O_loadP 1 (reads_box 2) rfl rfl rfl rfl rfl rfl ?_
    | refine O_loadP 2 (reads_box 2) rfl rfl rfl rfl rfl rfl ?_
    | refine O_loadP 3 (reads_box 2) rfl rfl rfl rfl rfl rfl ?_
    | refine O_loadP 4 (reads_box 2) rfl rfl rfl rfl rfl rfl ?_
  repeat (first|refine sc rfl ?_|refine so rfl ?_|refine sb rfl ?_)
  refine C_if rfl (fun h0 => ?_) (fun h0 => ?_) <;> simp only [pL] at h0
  · repeat (first|refine sc rfl ?_|refine so rfl ?_|refine sb rfl ?_)
    first
      | refine O_loadP 0 (reads_box 2) rfl rfl rfl rfl rfl rfl ?_
      | refine O_loadP 1 (reads_box 2) rfl rfl rfl rfl rfl rfl ?_
      | refine O_loadP 2 (reads_box 2) rfl rfl rfl rfl rfl rfl ?_
      | refine O_loadP 3 (reads_box 2) rfl rfl rfl rfl rfl rfl ?_
      | refine O_loadP 4 (reads_box 2) rfl rfl rfl rfl rfl rfl ?_
    repeat (first|refine sc rfl ?_|refine so rfl ?_|refine sb rfl ?_)
    first
      | exact ⟨_, [_], _, rfl, pickA_perm (is := [0]) (As := [_]) rfl, rfl, by rw [if_pos h0], rfl⟩
      | exact ⟨_, [_], _, rfl, pickA_perm (is := [1]) (As := [_]) rfl, rfl, by rw [if_pos h0], rfl⟩
      | exact ⟨_, [_], _, rfl, pickA_perm (is := [2]) (As := [_]) rfl, rfl, by rw [if_pos h0], rfl⟩
      | exact ⟨_, [_], _, rfl, pickA_perm (is := [3]) (As := [_]) rfl, rfl, by rw [if_pos h0], rfl⟩
      | exact ⟨_, [_], _, rfl, pickA_perm (is := [4]) (As := [_]) rfl, rfl, by rw [if_pos h0], rfl⟩
  subst h0
  rw [if_neg (by decide)]
  repeat (first|refine sc rfl ?_|refine so rfl ?_|refine sb rfl ?_)
  refine C_drawD rfl (by kernel_rfl) ?_
  repeat (first|refine sd rfl ?_|refine sdb rfl ?_|refine sds rfl ?_)
  refine D_X (I64 (at_ : Nat)) (X_loadP 0 (A := rdr g b at_ 0) (reads_box 1) rfl rfl rfl rfl rfl rfl) ?_
  repeat (first|refine sd rfl ?_|refine sdb rfl ?_|refine sds rfl ?_)
  refine D_X (.s b) (X_loadP 0 (A := rdr g b at_ 0) (reads_box 0) rfl rfl rfl rfl rfl rfl) ?_
  repeat (first|refine sd rfl ?_|refine sdb rfl ?_|refine sds rfl ?_)
  repeat (first|refine sc rfl ?_|refine so rfl ?_|refine sb rfl ?_)
  refine C_if rfl (fun h1 => ?_) (fun h1 => ?_) <;> simp only [pL] at h1
  · rw [if_pos (by omega)]
    repeat (first|refine sc rfl ?_|refine so rfl ?_|refine sb rfl ?_)
    first
      | exact ⟨_, [_], _, rfl, pickA_perm (is := [0]) (As := [_]) rfl, rfl, rfl, rfl⟩
      | exact ⟨_, [_], _, rfl, pickA_perm (is := [1]) (As := [_]) rfl, rfl, rfl, rfl⟩
      | exact ⟨_, [_], _, rfl, pickA_perm (is := [2]) (As := [_]) rfl, rfl, rfl, rfl⟩
      | exact ⟨_, [_], _, rfl, pickA_perm (is := [3]) (As := [_]) rfl, rfl, rfl, rfl⟩
      | exact ⟨_, [_], _, rfl, pickA_perm (is := [4]) (As := [_]) rfl, rfl, rfl, rfl⟩
  · rw [if_neg (by omega)]
    repeat (first|refine sc rfl ?_|refine so rfl ?_|refine sb rfl ?_)
    first
      | exact ⟨_, [_], _, rfl, pickA_perm (is := [0]) (As := [_]) rfl, rfl, rfl, rfl⟩
      | exact ⟨_, [_], _, rfl, pickA_perm (is := [1]) (As := [_]) rfl, rfl, rfl, rfl⟩
      | exact ⟨_, [_], _, rfl, pickA_perm (is := [2]) (As := [_]) rfl, rfl, rfl, rfl⟩
      | exact ⟨_, [_], _, rfl, pickA_perm (is := [3]) (As := [_]) rfl, rfl, rfl, rfl⟩
      | exact ⟨_, [_], _, rfl, pickA_perm (is := [4]) (As := [_]) rfl, rfl, rfl, rfl⟩
end Go.Proofs

namespace Go.Sy
open Go.RowKit

def bndRP (f : FuncId) (fs : List AV) : RP :=
  { R := fun G y => ∃ vs : Array Value, y = .func (.func f) vs #[] ∧ RepIT G fs vs.toList
    mono := by
      rintro G H h v ⟨vs, e, r⟩
      exact ⟨vs, e, RepIT.mono h fs r⟩
    one := by
      rintro G v ⟨vs, e, r⟩
      subst e; rfl }

section
variable {P : Program} {T : Tab} {X : Ctx P T} {n : Nat} {e : Env} {st : St} {a : Act} {w : World} {ops : Array Oper} {K : St → Prop}

theorem O_makeBound {f : FuncId} {fs : Array Operand} {favs : List AV} {d : Nat} {ty : TypeId} {pos : String} {aft : Array Edge} {gd : Option (Nat × Bool)} {rest : List Oper} {s : List (Nat × AV)} {c : List Ch}
    (hg : guardA ops ⟨s, c⟩ ⟨some d, .makeFunc (.func f) fs #[], ty, pos, aft, gd⟩ = some true) (ha : opds s fs.toList = some favs) (himm : AV.imm.immL favs = true) (hd : Nat.blt d n = true)
    (kk : SymO X n ops rest ⟨(d, .p (bndRP f favs)) :: s, c⟩ K) : SymO X n ops (⟨some d, .makeFunc (.func f) fs #[], ty, pos, aft, gd⟩ :: rest) ⟨s, c⟩ K := by
  intro e a w Q r hq
  unfold wpList
  rw [if_pos (guardA_sound r hg)]
  refine .inl ?_
  have h1 := RepT.toI favs himm (opds_sound r ha)
  have hrun : (execOp a.eval ⟨some d, .makeFunc (.func f) fs #[], ty, pos, aft, gd⟩).run P w = .ok (.value (.func (.func f) (fs.map a.eval) #[])) w := by
    simp [execOp, Instr.makeFunc]
  unfold Oper.wp
  rw [hrun]
  exact kk _ _ _ Q (r.put hd (by simp only [Rep]; exact ⟨_, rfl, by rw [map_eval]; exact h1⟩)) hq

theorem run_callBound {f : FuncId} (hc : Callable P f) {dst : Option Tmp} {x : Operand} {args : Array Operand} {tys : Array TypeId} {ty : TypeId} {pos : String} {aft : Array Edge} {gd : Option (Nat × Bool)} (ρ : Operand → Value)
    {vs : Array Value} (hρ : ρ x = .func (.func f) vs #[]) (w : World) :
    (execOp ρ ⟨dst, .call ⟨.value x, args, tys⟩, ty, pos, aft, gd⟩).run P w = .ok (.enter f (vs ++ args.map ρ)) w := by
  obtain ⟨fn, h1, h2, h3⟩ := hc
  simp only [execOp, resolve, hρ, Deferred.ofValue, Sem.run_bind, Sem.run_pure, Result.andThen_ok, invoke]
  have h4 : ¬ fn.body = none := by intro h; simp [h] at h2
  have h5 : ¬ fn.name = "runtime.NumGoroutine" := by simpa using h3
  simp [callFunc, h1, h4, h5]

theorem O_callBound (is : List Nat) {f : FuncId} {xo : Operand} {fs : List AV} {dst : Nat} {args : Array Operand} {tys : Array TypeId} {ty : TypeId} {pos : String} {aft : Array Edge} {gd : Option (Nat × Bool)} {rest : List Oper} {avs : List AV} {cs : List Abs} {cr : List Ch} {post : AV → List Abs → Prop}
    {s : List (Nat × AV)} {c : List Ch} (hf : FnA P f (fs ++ avs) cs post) (hxo : opd s xo = some (.p (bndRP f fs)))
    (hg : guardA ops ⟨s, c⟩ ⟨some dst, .call ⟨.value xo, args, tys⟩, ty, pos, aft, gd⟩ = some true) (ha : opds s args.toList = some avs) (himm : AV.imm.immL avs = true)
    (hp : pickA is c = some (cs, cr)) (hd : Nat.blt dst n = true)
    (k : ∀ r cs', post r cs' → SymO X n ops rest ⟨(dst, r) :: s, cs'.map Ch.abs ++ cr⟩ K) :
    SymO X n ops (⟨some dst, .call ⟨.value xo, args, tys⟩, ty, pos, aft, gd⟩ :: rest) ⟨s, c⟩ K := by
  intro e a w Q r hq
  unfold wpList
  rw [if_pos (guardA_sound r hg)]
  refine .inl ?_
  unfold Oper.wp
  have hx := Rep.toI (.p (bndRP f fs)) rfl (opd_sound r hxo)
  simp only [RepI] at hx
  obtain ⟨vs, hfv, hvs⟩ := hx
  rw [run_callBound hf.1 a.eval hfv w, Oper.upon_enter]
  have h1 := RepIT.app hvs (RepT.toI avs himm (opds_sound r ha))
  have harr : vs ++ args.map a.eval = (vs.toList ++ args.toList.map a.eval).toArray := by
    apply Array.ext'; simp
  rw [harr]
  refine (call_after (ops := ops) (Q := Q) hf r h1 (pickA_perm hp) hd k hq).mono ?_
  rintro en w' ⟨cv, rfl, h⟩
  exact h
end
end Go.Sy

namespace Go.Sy
open Go.RowKit
section
variable {P : Program} {T : Tab} {X : Ctx P T} {n : Nat} {e : Env} {st : St} {a : Act} {w : World} {ops : Array Oper} {K : St → Prop}

end
end Go.Sy
