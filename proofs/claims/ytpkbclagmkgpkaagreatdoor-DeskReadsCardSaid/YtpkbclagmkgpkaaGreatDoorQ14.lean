/- A server's first frame. -/
import Derived.Test.YtpkbclagmkgpkaaGreatDoorQ13
import Derived.Test.YtpkbclagmkgpkaaGreatDoorQ9
import Derived.Test.YtpkbclagmkgpkaaGreatDoorQ8
import Derived.Test.YtpkbclagmkgpkaaGreatDoorQ12
set_option linter.unusedSimpArgs false
set_option linter.unusedVariables false
set_option maxRecDepth 100000
namespace Go.Proofs
open Go.Sy Go.Lib

abbrev srvL3 (s mg tm : Nat) (now : Int) (g cc b : Nat) (st own : Int) (out : Value) : List Abs := [srvL s mg tm now (HD g 1 cc), lnsA (HD g 1 cc) b, lnA b [] 0 st own out]
theorem cPush_A (s mg tm : Nat) (now : Int) (g cc b : Nat) : FnA Tryz.prog 132 [PT s 67, I64 0, .s [5, 0, 0, 0]] (srvL3 s mg tm now g cc b 0 (-1) (.slice none 0 0)) (fun r cs' => r = .tup [SL 3 Frm.c [⟨5, 0, []⟩], I64 0] ∧ cs' = srvL3 s mg tm now g cc b 0 (-1) (.slice none 0 0)) := by
  refine FnA.intro Tryz.tabOK Tryz.wide_ Tryz.func132 rfl (by decide) rfl (fun X => ?_)
  repeat (first | refine sc rfl ?_ | refine so rfl ?_)
  refine O_callA [0, 0] (find_A s mg tm now g cc b) (by rfl) (by rfl) (by rfl) (by rfl) (by rfl) ?_
  rintro r' cs' ⟨rfl, rfl⟩
  repeat (first | refine sc rfl ?_ | refine so rfl ?_)
  refine C_false rfl rfl ?_
  repeat (first | refine sc rfl ?_ | refine so rfl ?_)
  refine O_callA [2] (takes_A b [] 0 0 (-1) (.slice none 0 0)) (by rfl) (by rfl) (by rfl) (by rfl) (by rfl) ?_
  rintro r' cs' ⟨rfl, rfl⟩
  repeat refine so rfl ?_
  refine C_false rfl rfl ?_
  repeat (first | refine sc rfl ?_ | refine so rfl ?_)
  refine O_callA [0] (fPush_A b 0 (-1) (.slice none 0 0)) (by rfl) (by rfl) (by rfl) (by rfl) (by rfl) ?_
  rintro r' cs' ⟨rfl, rfl⟩
  repeat (first | refine sc rfl ?_ | refine so rfl ?_)
  exact ⟨_, [_, _, _], _, rfl, pickA_perm (is := [1, 1, 0]) (As := [_, _, _]) rfl, rfl, rfl, rfl⟩
theorem cTakes_A (s mg tm : Nat) (now : Int) (g cc b : Nat) (st own : Int) (out : Value) : FnA Tryz.prog 133 [PT s 67, I64 0] (srvL3 s mg tm now g cc b st own out) (fun r cs' => r = B (decide (st < 2)) ∧ cs' = srvL3 s mg tm now g cc b st own out) := by
  refine FnA.intro Tryz.tabOK Tryz.wide_ Tryz.func133 rfl (by decide) rfl (fun X => ?_)
  repeat (first | refine sc rfl ?_ | refine so rfl ?_)
  refine O_callA [0, 0] (find_A s mg tm now g cc b) (by rfl) (by rfl) (by rfl) (by rfl) (by rfl) ?_
  rintro r' cs' ⟨rfl, rfl⟩
  repeat (first | refine sc rfl ?_ | refine so rfl ?_)
  refine O_callA [2] (takes_A b [] 0 st own out) (by rfl) (by rfl) (by rfl) (by rfl) (by rfl) ?_
  rintro r' cs' ⟨rfl, rfl⟩
  repeat (first | refine sc rfl ?_ | refine so rfl ?_)
  exact ⟨_, [_, _, _], _, rfl, pickA_perm (is := [1, 1, 0]) (As := [_, _, _]) rfl, rfl, rfl, rfl⟩
theorem fBroken_A (b : Nat) (st own : Int) (out : Value) : FnA Tryz.prog 195 [PT b 0] [lnA b [] 0 st own out] (fun r cs' => r = I64 0 ∧ cs' = [lnA b [] 0 st own out]) := by
  refine FnA.intro Tryz.tabOK Tryz.wide_ Tryz.func195 rfl (by decide) rfl (fun X => ?_)
  repeat (first | refine sc rfl ?_ | refine so rfl ?_)
  refine O_Xd (X_ptrnil Tryz.underlying370 rfl rfl rfl) ?_
  repeat refine so rfl ?_
  refine C_false rfl rfl ?_
  repeat (first | refine sc rfl ?_ | refine so rfl ?_)
  refine O_loadP 0 (reads_box 1) rfl rfl rfl rfl rfl rfl ?_
  repeat (first | refine sc rfl ?_ | refine so rfl ?_)
  exact ⟨_, [_], _, rfl, pickA_perm (is := [0]) (As := [_]) rfl, rfl, rfl, rfl⟩
theorem cBroken_A (s mg tm : Nat) (now : Int) (g cc b : Nat) (st own : Int) (out : Value) : FnA Tryz.prog 135 [PT s 67, I64 0] (srvL3 s mg tm now g cc b st own out) (fun r cs' => r = I64 0 ∧ cs' = srvL3 s mg tm now g cc b st own out) := by
  refine FnA.intro Tryz.tabOK Tryz.wide_ Tryz.func135 rfl (by decide) rfl (fun X => ?_)
  repeat (first | refine sc rfl ?_ | refine so rfl ?_)
  refine O_callA [0, 0] (find_A s mg tm now g cc b) (by rfl) (by rfl) (by rfl) (by rfl) (by rfl) ?_
  rintro r' cs' ⟨rfl, rfl⟩
  repeat (first | refine sc rfl ?_ | refine so rfl ?_)
  refine C_false rfl rfl ?_
  repeat (first | refine sc rfl ?_ | refine so rfl ?_)
  refine O_callA [2] (fBroken_A b st own out) (by rfl) (by rfl) (by rfl) (by rfl) (by rfl) ?_
  rintro r' cs' ⟨rfl, rfl⟩
  repeat (first | refine sc rfl ?_ | refine so rfl ?_)
  exact ⟨_, [_, _, _], _, rfl, pickA_perm (is := [1, 1, 0]) (As := [_, _, _]) rfl, rfl, rfl, rfl⟩
theorem greet_A (s mg tm : Nat) (now : Int) (g cc b : Nat) : FnA Tryz.prog 193 [PT s 0, I64 0, .agg [I64 5, I64 0, .s []]] (srvL3 s mg tm now g cc b 0 (-1) (.slice none 0 0)) (fun r cs' => ∃ h d, 1 ≤ d ∧ r = .tup [I64 (-1), I64 16] ∧ cs' = srvL3 s mg tm now g cc b 2 (-1) (HD h 1 d) ++ [outA (HD h 1 d) (rfail 0 16)]) := by
  refine FnA.intro Tryz.tabOK Tryz.wide_ Tryz.func193 rfl (by decide) rfl (fun X => ?_)
  repeat (first | refine sc rfl ?_ | refine so rfl ?_)
  refine C_le _ (Le.freezebox 5 rfl rfl rfl) ?_
  refine C_drawD rfl (by kernel_rfl) ?_
  repeat refine sd rfl ?_
  refine D_X (PT mg 0) (X_loadP 0 (reads_box 0) rfl rfl rfl rfl rfl rfl) ?_
  repeat refine sd rfl ?_
  refine D_call (verify0_c mg) rfl rfl rfl rfl ?_
  repeat refine sd rfl ?_
  repeat (first | refine sc rfl ?_ | refine so rfl ?_)
  refine C_false rfl rfl ?_
  repeat refine sc rfl ?_
  refine C_drawU 20 5 rfl (by kernel_rfl) (by kernel_rfl) (by kernel_rfl) ?_
  repeat refine sd rfl ?_
  refine D_call (rFail_p 0 16 (by decide)) rfl rfl rfl rfl ?_
  refine O_callA [0, 0, 0] (send_A s mg tm now g cc b [] (rfail 0 16) 0 (-1)) (by rfl) (by rfl) (by rfl) (by rfl) (by rfl) ?_
  rintro r' cs' ⟨h, d, hd, rfl, rfl⟩
  repeat (first | refine sc rfl ?_ | refine so rfl ?_)
  refine O_callA [0, 0, 0] (shut_A s mg tm now g cc b [] 0 (-1) (HD h 1 d)) (by rfl) (by rfl) (by rfl) (by rfl) (by rfl) ?_
  rintro r' cs' ⟨rfl, rfl⟩
  repeat (first | refine sc rfl ?_ | refine so rfl ?_)
  exact ⟨_, [_, _, _, _], _, rfl, pickA_perm (is := [0, 0, 0, 0]) (As := [_, _, _, _]) rfl, rfl, h, d, hd, rfl, rfl⟩
def PQ1 : Pl := ⟨[[], [], [], [], [], [], [], [], [], [], [], [], [11]], [11], [(11, 7)], []⟩
def CQ1 (s mg tm : Nat) (now : Int) (g cc b : Nat) (x : Bool) : List Ch := .abs (srvL s mg tm now (HD g 1 cc)) :: .abs (lnsA (HD g 1 cc) b) :: .abs (lnA b [] 0 0 (-1) (.slice none 0 0)) ::
  (match x with
   | true => [.box 7 125 [I64 0, I64 0, I64 0, .s [], I64 0, .s []], .box 6 125 [I64 0, I64 0, I64 0, .s [], I64 0, .s []]]
   | false => [.box 6 125 [I64 0, I64 0, I64 0, .s [], I64 0, .s []]])
theorem come_A (s mg tm : Nat) (now : Int) (g cc b : Nat) : FnA Tryz.prog 134 [PT s 0, I64 0, .agg [I64 5, I64 0, .s []]] (srvL3 s mg tm now g cc b 0 (-1) (.slice none 0 0)) (fun r cs' => ∃ h d, 1 ≤ d ∧ r = .agg (Nte.c ⟨0, -1, 5, [], 16, []⟩) ∧ cs' = srvL3 s mg tm now g cc b 2 (-1) (HD h 1 d) ++ [outA (HD h 1 d) (rfail 0 16)]) := by
  refine FnA.intro Tryz.tabOK Tryz.wide_ Tryz.func134 rfl (by decide) rfl (fun X => ?_)
  repeat (first | refine sc rfl ?_ | refine so rfl ?_)
  refine C_le _ (Le.freezebox 5 rfl rfl rfl) ?_
  refine C_le ⟨[(5, .cp [I64 5, I64 0, .s []]), (6, .bp 6 0), (0, PT s 0), (1, I64 0)], CQ1 s mg tm now g cc b false⟩ (Le.pick [1, 1, 1, 0] ⟨rfl, rfl, rfl, rfl, trivial⟩ rfl) ?_
  refine C_drawMT PQ1 20 12 (fun L => CQ1 s mg tm now g cc b (L 11)) rfl (by kernel_rfl) (by kernel_rfl) (by kernel_rfl) (by kernel_rfl) (fun L L' h => by show CQ1 s mg tm now g cc b (L 11) = CQ1 s mg tm now g cc b (L' 11); rw [h 11 (by decide)]) rfl ?_
  repeat (refine sm rfl ⟨trivial, ?_⟩)
  refine SM (I64 (-1)) rfl (fun L h1 h2 h3 => ?_) ?_
  · show StepX _ _ _ _ _ (CQ1 s mg tm now g cc b (L 11)) (CQ1 s mg tm now g cc b (L 11)) _ _ _
    cases L 11 <;> exact X_callA [0, 0, 0] (owner_A s mg tm now g cc b [] 0 0 (-1) (.slice none 0 0)) rfl rfl rfl rfl rfl
  repeat (refine sm rfl ⟨trivial, ?_⟩)
  refine SM (.bp 7 0) rfl (fun L h1 h2 h3 => ?_) ?_
  · show StepX _ _ _ _ _ (CQ1 s mg tm now g cc b (L 11)) (CQ1 s mg tm now g cc b true) _ _ _
    rw [show L 11 = false from h3]
    exact (X_alloc rfl rfl rfl rfl (show ((11, 7) : Nat × Nat) ∈ PQ1.cre by decide) rfl rfl rfl).perm (List.perm_middle (l₁ := [Ch.abs (srvL s mg tm now (HD g 1 cc)), Ch.abs (lnsA (HD g 1 cc) b), Ch.abs (lnA b [] 0 0 (-1) (.slice none 0 0))])).symm
  refine sm rfl ?_
  refine O_le ⟨[(7, .bp 7 0), (18, .agg [I64 0, I64 (-1), I64 5, .s [], I64 0, .s []]), (5, .cp [I64 5, I64 0, .s []]), (6, .bp 6 0), (0, PT s 0), (1, I64 0)], CQ1 s mg tm now g cc b true⟩ (Le.pick [0, 0, 0, 0, 0] ⟨rfl, rfl, rfl, rfl, rfl, rfl, trivial⟩ rfl) ?_
  unfold CQ1
  repeat (first | refine sc rfl ?_ | refine so rfl ?_)
  refine C_true rfl (by decide) ?_
  repeat (first | refine sc rfl ?_ | refine so rfl ?_)
  refine O_callA [1, 1, 1] (greet_A s mg tm now g cc b) (by rfl) (by rfl) (by rfl) (by rfl) (by rfl) ?_
  rintro r' cs' ⟨h, d, hd, rfl, rfl⟩
  repeat (first | refine sc rfl ?_ | refine so rfl ?_)
  exact ⟨_, [_, _, _, _], _, rfl, pickA_perm (is := [2, 2, 2, 2]) (As := [_, _, _, _]) rfl, rfl, h, d, hd, rfl, rfl⟩
theorem recv_A (s mg tm : Nat) (now : Int) (g cc b : Nat) : FnA Tryz.prog 85 [PT s 0, I64 0, .s [5, 0, 0, 0]] (srvL3 s mg tm now g cc b 0 (-1) (.slice none 0 0)) (fun r cs' => ∃ h d, 1 ≤ d ∧ r = .tup [SL 6 Nte.c [⟨0, -1, 5, [], 16, []⟩], I64 0] ∧ cs' = srvL3 s mg tm now g cc b 2 (-1) (HD h 1 d) ++ [outA (HD h 1 d) (rfail 0 16)]) := by
  refine FnA.intro Tryz.tabOK Tryz.wide_ Tryz.func85 rfl (by decide) rfl (fun X => ?_)
  repeat (first | refine sc rfl ?_ | refine so rfl ?_)
  refine O_Xd (X_ptrnil Tryz.underlying61 rfl rfl rfl) ?_
  repeat refine so rfl ?_
  refine C_false rfl rfl ?_
  repeat (first | refine sc rfl ?_ | refine so rfl ?_)
  refine O_callA [0, 0, 0] (cPush_A s mg tm now g cc b) (by rfl) (by rfl) (by rfl) (by rfl) (by rfl) ?_
  rintro r' cs' ⟨rfl, rfl⟩
  repeat (first | refine sc rfl ?_ | refine so rfl ?_)
  refine C_false rfl rfl ?_
  repeat (first | refine sc rfl ?_ | refine so rfl ?_)
  refine C_le _ (Le.nilvec Nte.c 10 45 125 6 rfl rfl rfl) ?_
  refine C_loop (fun x : Option (Nat × Nat) => match x with
    | none => ⟨[(0, PT s 0), (1, I64 0), (10, .own 45), (27, SL 3 Frm.c [⟨5, 0, []⟩]), (28, I64 1), (29, I64 0)], VEC 45 125 6 Nte.c [] :: List.map Ch.abs (srvL3 s mg tm now g cc b 0 (-1) (.slice none 0 0))⟩
    | some hd => ⟨[(0, PT s 0), (1, I64 0), (10, .own 45), (27, SL 3 Frm.c [⟨5, 0, []⟩]), (28, I64 1), (29, I64 1)], VEC 45 125 6 Nte.c [⟨0, -1, 5, [], 16, []⟩] :: List.map Ch.abs (srvL3 s mg tm now g cc b 2 (-1) (HD hd.1 1 hd.2) ++ [outA (HD hd.1 1 hd.2) (rfail 0 16)])⟩)
    (fun x => match x with | none => True | some hd => 1 ≤ hd.2) (fun x => match x with | none => 1 | some _ => 0) none trivial (Le.pick [0, 0, 0, 0] ⟨rfl, rfl, rfl, rfl, rfl, rfl, trivial⟩ rfl) ?_
  rintro (_ | ⟨h, d⟩) hI
  · show SymC _ _ _ ⟨[(0, PT s 0), (1, I64 0), (10, .own 45), (27, SL 3 Frm.c [⟨5, 0, []⟩]), (28, I64 1), (29, I64 0)], VEC 45 125 6 Nte.c [] :: List.map Ch.abs (srvL3 s mg tm now g cc b 0 (-1) (.slice none 0 0))⟩ _
    repeat (first | refine sc rfl ?_ | refine so rfl ?_)
    refine C_true rfl (by decide) ?_
    repeat (first | refine sc rfl ?_ | refine so rfl ?_)
    refine ⟨by decide, ?_⟩
    repeat (first | refine sc rfl ?_ | refine so rfl ?_)
    refine O_callA [2, 2, 2] (cTakes_A s mg tm now g cc b 0 (-1) (.slice none 0 0)) (by rfl) (by rfl) (by rfl) (by rfl) (by rfl) ?_
    rintro r' cs' ⟨rfl, rfl⟩
    repeat refine so rfl ?_
    refine C_false rfl (by decide) ?_
    repeat (first | refine sc rfl ?_ | refine so rfl ?_)
    refine O_callA [0, 0, 0] (come_A s mg tm now g cc b) (by rfl) (by rfl) (by rfl) (by rfl) (by rfl) ?_
    rintro r' cs' ⟨h, d, hd, rfl, rfl⟩
    repeat refine sb rfl ?_
    refine O_push Nte.c [] ⟨0, -1, 5, [], 16, []⟩ [(0, PT s 0), (1, I64 0), (27, SL 3 Frm.c [⟨5, 0, []⟩]), (28, I64 1), (29, I64 0)] rfl rfl rfl rfl rfl rfl rfl rfl rfl rfl ⟨rfl, rfl, rfl, rfl, rfl, trivial⟩ rfl rfl (by decide) (by decide) ?_
    repeat (first | refine sc rfl ?_ | refine so rfl ?_)
    refine ⟨some (h, d), hd, by show (0 : Nat) < 1; decide, ?_⟩
    exact Le.pick [0, 1, 1, 1, 1] ⟨rfl, rfl, rfl, rfl, rfl, rfl, trivial⟩ rfl
  · show SymC _ _ _ ⟨[(0, PT s 0), (1, I64 0), (10, .own 45), (27, SL 3 Frm.c [⟨5, 0, []⟩]), (28, I64 1), (29, I64 1)], VEC 45 125 6 Nte.c [⟨0, -1, 5, [], 16, []⟩] :: List.map Ch.abs (srvL3 s mg tm now g cc b 2 (-1) (HD h 1 d) ++ [outA (HD h 1 d) (rfail 0 16)])⟩ _
    refine C_le _ (Le.freezeL (l := [(⟨0, -1, 5, [], 16, []⟩ : Nte)]) (cells := Nte.c) 10 rfl rfl) ?_
    repeat (first | refine sc rfl ?_ | refine so rfl ?_)
    refine C_false rfl (by decide) ?_
    repeat (first | refine sc rfl ?_ | refine so rfl ?_)
    refine O_callA [0, 0, 0] (cBroken_A s mg tm now g cc b 2 (-1) (HD h 1 d)) (by rfl) (by rfl) (by rfl) (by rfl) (by rfl) ?_
    rintro r' cs' ⟨rfl, rfl⟩
    repeat refine so rfl ?_
    refine C_false rfl rfl ?_
    repeat (first | refine sc rfl ?_ | refine so rfl ?_)
    exact ⟨_, [_, _, _, _], _, rfl, pickA_perm (is := [0, 0, 0, 0]) (As := [_, _, _, _]) rfl, rfl, h, d, hI, rfl, rfl⟩
theorem paid_A (s mg tm : Nat) (now : Int) (g cc b h2 : Nat) (st : Int) (out : Value) (k : Nat) (hk : k ≤ 1) : FnA Tryz.prog 99 [PT s 0, I64 0, I64 (k : Nat)] (srvL3 s mg tm now g cc b st (-1) out ++ [tenM tm h2]) (fun r cs' => r = .tup [] ∧ cs' = srvL3 s mg tm now g cc b st (-1) out ++ [tenM tm h2]) := by
  refine FnA.intro Tryz.tabOK Tryz.wide_ Tryz.func99 rfl (by decide) rfl (fun X => ?_)
  repeat refine sc rfl ?_
  refine C_drawD rfl (by kernel_rfl) ?_
  repeat refine sd rfl ?_
  refine D_X (.v (.map (some tm))) (X_loadP 0 (reads_box 80) rfl rfl rfl rfl rfl rfl) ?_
  repeat refine sd rfl ?_
  refine D_callA [0, 0, 0] (owner_A s mg tm now g cc b [] 0 st (-1) out) rfl rfl rfl rfl rfl ?_
  repeat refine sd rfl ?_
  refine D_X (lookAV false (lookE (-1) [((0 : Int), PT h2 0)]) (.v (.pointer none))) (X_look 3 (es := [((0 : Int), PT h2 0)]) (z := .v (.pointer none)) iKz Tryz.underlying96 rfl rfl rep_np rfl rfl rfl rfl rfl rfl) ?_
  rw [show lookAV false (lookE (-1) [((0 : Int), PT h2 0)]) (.v (.pointer none)) = .v (.pointer none) from rfl]
  repeat refine sd rfl ?_
  repeat (first | refine sc rfl ?_ | refine so rfl ?_)
  refine C_loop (fun i : Nat => ⟨[(6, .v (.pointer none)), (17, I64 (k : Nat)), (18, I64 (i : Nat))], List.map Ch.abs (srvL3 s mg tm now g cc b st (-1) out ++ [tenM tm h2])⟩) (fun i => i ≤ k) (fun i => k - i) 0 (Nat.zero_le _) (Le.pick [0, 0, 0, 0] ⟨rfl, rfl, rfl, trivial⟩ rfl) ?_
  intro i hi
  repeat (first | refine sc rfl ?_ | refine so rfl ?_)
  refine C_if rfl (fun k1 => ?_) (fun k1 => ?_) <;> simp only [pL] at k1
  · repeat (first | refine sc rfl ?_ | refine so rfl ?_)
    refine O_Xd (X_ptrnnil Tryz.underlying87 rfl rfl rfl) ?_
    repeat refine so rfl ?_
    refine C_false rfl rfl ?_
    repeat (first | refine sc rfl ?_ | refine so rfl ?_)
    rw [w64 (x := (i : Int) + 1) (by omega) (by omega)]
    exact ⟨i + 1, by omega, by omega, Le.pick [0, 0, 0, 0] ⟨rfl, rfl, rfl, trivial⟩ rfl⟩
  · repeat refine sc rfl ?_
    exact ⟨_, [_, _, _, _], _, rfl, pickA_perm (is := [0, 0, 0, 0]) (As := [_, _, _, _]) rfl, rfl, rfl, rfl⟩
end Go.Proofs

namespace Go.Proofs
open Go.Sy Go.Lib

theorem sOpen_A (s mg tm : Nat) (now : Int) : FnA Tryz.prog 50 [PT s 0] [srvL s mg tm now (.slice none 0 0)] (fun r cs' => ∃ g cc b, r = .tup [I64 0, I64 0] ∧ cs' = srvL3 s mg tm now g cc b 0 (-1) (.slice none 0 0)) := by
  refine FnA.intro Tryz.tabOK Tryz.wide_ Tryz.func50 rfl (by decide) rfl (fun X => ?_)
  repeat (first | refine sc rfl ?_ | refine so rfl ?_)
  refine O_Xd (X_ptrnil Tryz.underlying61 rfl rfl rfl) ?_
  repeat refine so rfl ?_
  refine C_false rfl rfl ?_
  repeat (first | refine sc rfl ?_ | refine so rfl ?_)
  first
    | refine O_callA [0] (open_A s mg tm now) (by rfl) (by rfl) (by rfl) (by rfl) (by rfl) ?_
    | refine O_callA [1] (open_A s mg tm now) (by rfl) (by rfl) (by rfl) (by rfl) (by rfl) ?_
    | refine O_callA [2] (open_A s mg tm now) (by rfl) (by rfl) (by rfl) (by rfl) (by rfl) ?_
    | refine O_callA [3] (open_A s mg tm now) (by rfl) (by rfl) (by rfl) (by rfl) (by rfl) ?_
    | refine O_callA [4] (open_A s mg tm now) (by rfl) (by rfl) (by rfl) (by rfl) (by rfl) ?_
  rintro r' cs' ⟨g, cc, b, rfl, rfl⟩
  repeat (first | refine sc rfl ?_ | refine so rfl ?_)
  exact ⟨_, [_, _, _], _, rfl, pickA_perm (is := [0, 0, 0]) (As := [_, _, _]) rfl, rfl, g, cc, b, rfl, rfl⟩
theorem sDel1_A (s mg tm : Nat) (now : Int) (g cc b h2 h d : Nat) (hd : 1 ≤ d) (x : List UInt8) : FnA Tryz.prog 86 [PT s 0, I64 0] (srvL3 s mg tm now g cc b 2 (-1) (HD h 1 d) ++ [outA (HD h 1 d) x, tenM tm h2]) (fun r cs' => ∃ a c, r = .tup [.s x, B false, I64 0] ∧ cs' = srvL3 s mg tm now g cc b 2 (-1) (.slice a 0 c) ++ [tenM tm h2]) := by
  refine FnA.intro Tryz.tabOK Tryz.wide_ Tryz.func86 rfl (by decide) rfl (fun X => ?_)
  repeat (first | refine sc rfl ?_ | refine so rfl ?_)
  refine O_Xd (X_ptrnil Tryz.underlying61 rfl rfl rfl) ?_
  repeat refine so rfl ?_
  refine C_false rfl rfl ?_
  repeat (first | refine sc rfl ?_ | refine so rfl ?_)
  refine O_callA [0, 0, 0] (waits_A s mg tm now g cc b [] 0 2 (-1) (some ⟨h, 0, none⟩) 1 d) (by rfl) (by rfl) (by rfl) (by rfl) (by rfl) ?_
  rintro r' cs' ⟨rfl, rfl⟩
  repeat (first | refine sc rfl ?_ | refine so rfl ?_)
  refine O_callA [0, 0, 0, 0] (deliver1_A s mg tm now g cc b [] x 0 (-1) h d hd) (by rfl) (by rfl) (by rfl) (by rfl) (by rfl) ?_
  rintro r' cs' ⟨a, c, rfl, rfl⟩
  repeat (first | refine sc rfl ?_ | refine so rfl ?_)
  refine O_callA [0, 0, 0] (waits_A s mg tm now g cc b [] 0 2 (-1) a 0 c) (by rfl) (by rfl) (by rfl) (by rfl) (by rfl) ?_
  rintro r' cs' ⟨rfl, rfl⟩
  repeat refine so rfl ?_
  refine O_callA [0, 0, 0, 0] (paid_A s mg tm now g cc b h2 2 (.slice a 0 c) 1 (Nat.le_refl _)) (by rfl) (by rfl) (by rfl) (by rfl) (by rfl) ?_
  rintro r' cs' ⟨rfl, rfl⟩
  repeat (first | refine sc rfl ?_ | refine so rfl ?_)
  exact ⟨_, [_, _, _, _], _, rfl, pickA_perm (is := [0, 0, 0, 0]) (As := [_, _, _, _]) rfl, rfl, a, c, rfl, rfl⟩
end Go.Proofs

namespace Go.Proofs
open Go.Sy Go.Lib

def pb : List UInt8 := [0, 2, 16, 0, 0, 0, 0, 0, 0, 0, 0, 0, 0, 0, 0, 0, 0, 0, 0, 0, 0, 0, 0, 0, 0, 0, 0, 0, 0, 0, 0, 0]
def rb : List UInt8 := 9 :: 0 :: 0 :: 32 :: pb
theorem rb_eq : rfail 0 16 = rb := by
  have h : rp 0 16 [] = [16, 0] := by
    unfold rp
    rw [show Int.toNat 16 = 16 from rfl, vput_lt (n := 16) (by decide), vput_lt (n := 0) (by decide)]
    rfl
  show (if clsE (((rp 0 16 []).length : Nat) : Int) = 0 then fputL 9 0 (padL (rp 0 16 [])) else []) = rb
  rw [h]
  rfl
theorem head9_c : FnP Tryz.prog 196 [.s rb] (· = .tup [I64 9, I64 0, I64 32, I64 0]) := by
  refine FnP.intro Tryz.tabOK Tryz.wide_ Tryz.func196 rfl (by decide) rfl (fun X => ?_)
  repeat (first | refine sc rfl ?_ | refine so rfl ?_)
  refine C_false rfl (by decide) ?_
  repeat refine sc rfl ?_
  refine C_drawD rfl (by kernel_rfl) ?_
  repeat (first | refine sd rfl ?_ | refine sdb rfl ?_ | refine sds rfl ?_ | refine ⟨by decide, ?_⟩)
  repeat (first | refine sc rfl ?_ | refine so rfl ?_)
  refine O_call (known_p _) (by rfl) (by rfl) (by rfl) (by rfl) (fun r hr => ?_)
  subst hr
  repeat refine so rfl ?_
  refine C_false rfl (by decide) ?_
  repeat (first | refine sc rfl ?_ | refine so rfl ?_)
  refine C_false rfl (by decide) ?_
  repeat refine sc rfl ?_
  refine C_drawD rfl (by kernel_rfl) ?_
  repeat (first | refine sd rfl ?_ | refine sdb rfl ?_ | refine sds rfl ?_ | refine ⟨by decide, ?_⟩)
  repeat refine sc rfl ?_
  exact ⟨_, rfl, rfl, rfl⟩
theorem fTake9_c : FnP Tryz.prog 139 [.s rb] (· = .tup [.agg [I64 9, I64 0, .s pb], I64 36, I64 0]) := by
  refine FnP.intro Tryz.tabOK Tryz.wide_ Tryz.func139 rfl (by decide) rfl (fun X => ?_)
  repeat (first | refine sc rfl ?_ | refine so rfl ?_)
  refine O_call head9_c (by rfl) (by rfl) (by rfl) (by rfl) (fun r hr => ?_)
  subst hr
  repeat (first | refine sc rfl ?_ | refine so rfl ?_)
  refine C_false rfl rfl ?_
  repeat (first | refine sc rfl ?_ | refine so rfl ?_)
  refine C_false rfl (by decide) ?_
  repeat (first | refine sc rfl ?_ | refine so rfl ?_)
  refine ⟨by decide, ?_⟩
  repeat (first | refine sc rfl ?_ | refine so rfl ?_)
  exact ⟨_, rfl, rfl, rfl⟩
theorem Trim_p (l : List UInt8) (hl : l.length ≤ 9223372036854775807) : FnP Tryz.prog 198 [.s l, .s [0]] (· = .s (Lib.trimB l 0)) := by
  refine FnP.ofCalls (vs := [S l, S [0]]) (v := S (Lib.trimB l 0)) ⟨_, Tryz.func198, rfl, by decide⟩ rfl rfl (fun G => by simp only [RepI]) (fun w => ?_)
  refine (Tryz.strings_Trim_one ⟨l.toArray⟩ 0 (by decide) w (by rw [Go.Sy.len_S]; exact hl)).mono ?_
  rintro e w' ⟨rfl, rfl | rfl⟩
  · exact ⟨rfl, ⟨rfl, rfl, rfl, Nat.le_refl _, fun _ _ => rfl⟩⟩
  · exact ⟨rfl, ⟨rfl, rfl, rfl, Nat.le_refl _, fun _ _ => rfl⟩⟩
theorem unpad9_c : FnP Tryz.prog 140 [.s pb] (· = .tup [.s [16, 0], I64 0]) := by
  refine FnP.intro Tryz.tabOK Tryz.wide_ Tryz.func140 rfl (by decide) rfl (fun X => ?_)
  repeat (first | refine sc rfl ?_ | refine so rfl ?_)
  refine C_false rfl (by decide) ?_
  repeat refine sc rfl ?_
  refine C_drawD rfl (by kernel_rfl) ?_
  repeat (first | refine sd rfl ?_ | refine sdb rfl ?_ | refine sds rfl ?_ | refine ⟨by decide, ?_⟩)
  repeat (first | refine sc rfl ?_ | refine so rfl ?_)
  refine O_call (Class_p 2) (by rfl) (by rfl) (by rfl) (by rfl) (fun r hr => ?_)
  subst hr
  repeat (first | refine sc rfl ?_ | refine so rfl ?_)
  repeat (first | refine sc rfl ?_ | refine so rfl ?_ | refine sb rfl ?_ | refine ⟨by decide, ?_⟩)
  refine O_call (Trim_p [0, 0, 0, 0, 0, 0, 0, 0, 0, 0, 0, 0, 0, 0, 0, 0, 0, 0, 0, 0, 0, 0, 0, 0, 0, 0, 0, 0] (by decide)) (by rfl) (by rfl) (by rfl) (by rfl) (fun r hr => ?_)
  subst hr
  rw [show Lib.trimB [0, 0, 0, 0, 0, 0, 0, 0, 0, 0, 0, 0, 0, 0, 0, 0, 0, 0, 0, 0, 0, 0, 0, 0, 0, 0, 0, 0] 0 = [] by decide]
  repeat refine so rfl ?_
  refine C_false rfl (by decide) ?_
  repeat (first | refine sc rfl ?_ | refine so rfl ?_ | refine sb rfl ?_ | refine ⟨by decide, ?_⟩)
  exact ⟨_, rfl, rfl, rfl⟩
abbrev rdr2 (g : Nat) (at_ : Nat) (e : Int) : Abs := rdr g [16, 0] at_ e
theorem rTake9_A : FnA Tryz.prog 87 [.s rb] [] (fun r cs' => r = .tup [.agg [U64 0, I64 16, .s []], I64 0] ∧ cs' = []) := by
  refine FnA.intro Tryz.tabOK Tryz.wide_ Tryz.func87 rfl (by decide) rfl (fun X => ?_)
  repeat (first | refine sc rfl ?_ | refine so rfl ?_)
  refine O_call fTake9_c (by rfl) (by rfl) (by rfl) (by rfl) (fun r hr => ?_)
  subst hr
  repeat (first | refine sc rfl ?_ | refine so rfl ?_)
  refine C_false rfl (by decide) ?_
  repeat (first | refine sc rfl ?_ | refine so rfl ?_)
  refine O_call unpad9_c (by rfl) (by rfl) (by rfl) (by rfl) (fun r hr => ?_)
  subst hr
  repeat (first | refine sc rfl ?_ | refine so rfl ?_)
  refine C_false rfl (by decide) ?_
  repeat (first | refine sc rfl ?_ | refine so rfl ?_)
  refine O_callA [] (Read_A0 [16, 0]) (by rfl) (by rfl) (by rfl) (by rfl) (by rfl) ?_
  rintro r' cs' ⟨g, rfl, rfl⟩
  repeat (first | refine sc rfl ?_ | refine so rfl ?_)
  have t1 : intT 1048576 [16, 0] = (16, 1, 0) := by decide
  have t2 : tk [0] = (0, 1, 0) := by decide
  first
    | refine O_callA [0] (Int_A g [16, 0] 0 0 1048576 (by decide) (by decide) (by decide)) (by rfl) (by rfl) (by rfl) (by rfl) (by rfl) ?_
    | refine O_callA [1] (Int_A g [16, 0] 0 0 1048576 (by decide) (by decide) (by decide)) (by rfl) (by rfl) (by rfl) (by rfl) (by rfl) ?_
    | refine O_callA [2] (Int_A g [16, 0] 0 0 1048576 (by decide) (by decide) (by decide)) (by rfl) (by rfl) (by rfl) (by rfl) (by rfl) ?_
    | refine O_callA [3] (Int_A g [16, 0] 0 0 1048576 (by decide) (by decide) (by decide)) (by rfl) (by rfl) (by rfl) (by rfl) (by rfl) ?_
    | refine O_callA [4] (Int_A g [16, 0] 0 0 1048576 (by decide) (by decide) (by decide)) (by rfl) (by rfl) (by rfl) (by rfl) (by rfl) ?_
  rw [List.drop_zero, t1]
  rintro r' cs' ⟨rfl, rfl⟩
  repeat (first | refine sc rfl ?_ | refine so rfl ?_)
  first
    | refine O_callA [0] (Num_A g [16, 0] 1 0 (by decide) (by decide)) (by rfl) (by rfl) (by rfl) (by rfl) (by rfl) ?_
    | refine O_callA [1] (Num_A g [16, 0] 1 0 (by decide) (by decide)) (by rfl) (by rfl) (by rfl) (by rfl) (by rfl) ?_
    | refine O_callA [2] (Num_A g [16, 0] 1 0 (by decide) (by decide)) (by rfl) (by rfl) (by rfl) (by rfl) (by rfl) ?_
    | refine O_callA [3] (Num_A g [16, 0] 1 0 (by decide) (by decide)) (by rfl) (by rfl) (by rfl) (by rfl) (by rfl) ?_
    | refine O_callA [4] (Num_A g [16, 0] 1 0 (by decide) (by decide)) (by rfl) (by rfl) (by rfl) (by rfl) (by rfl) ?_
  rw [show List.drop 1 ([16, 0] : List UInt8) = [0] from rfl, t2]
  rintro r' cs' ⟨rfl, rfl⟩
  repeat (first | refine sc rfl ?_ | refine so rfl ?_)
  first
    | refine O_callA [0] (Rest_A g [16, 0] 2 0 (by decide) (by decide)) (by rfl) (by rfl) (by rfl) (by rfl) (by rfl) ?_
    | refine O_callA [1] (Rest_A g [16, 0] 2 0 (by decide) (by decide)) (by rfl) (by rfl) (by rfl) (by rfl) (by rfl) ?_
    | refine O_callA [2] (Rest_A g [16, 0] 2 0 (by decide) (by decide)) (by rfl) (by rfl) (by rfl) (by rfl) (by rfl) ?_
    | refine O_callA [3] (Rest_A g [16, 0] 2 0 (by decide) (by decide)) (by rfl) (by rfl) (by rfl) (by rfl) (by rfl) ?_
    | refine O_callA [4] (Rest_A g [16, 0] 2 0 (by decide) (by decide)) (by rfl) (by rfl) (by rfl) (by rfl) (by rfl) ?_
  rintro r' cs' ⟨rfl, rfl⟩
  repeat (first | refine sc rfl ?_ | refine so rfl ?_)
  first
    | refine O_callA [0] (Done_A g [16, 0] 2 0) (by rfl) (by rfl) (by rfl) (by rfl) (by rfl) ?_
    | refine O_callA [1] (Done_A g [16, 0] 2 0) (by rfl) (by rfl) (by rfl) (by rfl) (by rfl) ?_
    | refine O_callA [2] (Done_A g [16, 0] 2 0) (by rfl) (by rfl) (by rfl) (by rfl) (by rfl) ?_
    | refine O_callA [3] (Done_A g [16, 0] 2 0) (by rfl) (by rfl) (by rfl) (by rfl) (by rfl) ?_
    | refine O_callA [4] (Done_A g [16, 0] 2 0) (by rfl) (by rfl) (by rfl) (by rfl) (by rfl) ?_
  rintro r' cs' ⟨rfl, rfl⟩
  repeat refine so rfl ?_
  refine C_false rfl (by decide) ?_
  repeat (first | refine sc rfl ?_ | refine so rfl ?_)
  exact ⟨_, [], _, rfl, pickA_perm (is := []) (As := []) rfl, rfl, rfl, rfl⟩
end Go.Proofs

namespace Go.Proofs
open Go.Sy Go.Lib

def moreL (k : Int) : List UInt8 :=
  if k = 11 then [116, 101, 120, 116] else if k = 12 then [110, 111, 110, 101] else if k = 13 then [102, 117, 108, 108] else if k = 14 then [113, 117, 111, 116, 97] else if k = 15 then [98, 117, 115, 121] else if k = 16 then [97, 117, 116, 104] else if k = 17 then [115, 116, 97, 116, 101] else if k = 18 then [108, 97, 116, 101] else if k = 19 then [103, 111, 110, 101] else if k = 20 then [114, 101, 115, 116] else [111, 116, 104, 101, 114]
def errL (k : Int) : List UInt8 :=
  if k = 0 then [111, 107] else if k = 1 then [102, 111, 114, 109] else if k = 2 then [115, 104, 111, 114, 116] else if k = 3 then [108, 111, 110, 103] else if k = 4 then [107, 105, 110, 100] else if k = 5 then [116, 111, 107, 101, 110] else if k = 6 then [110, 97, 109, 101] else if k = 7 then [116, 119, 105, 99, 101] else if k = 8 then [116, 121, 112, 101] else if k = 9 then [116, 97, 103] else if k = 10 then [100, 101, 101, 112] else moreL k
theorem more_c (k : Int) : FnP Tryz.prog 39 [I64 k] (· = .s (moreL k)) := by
  refine FnP.intro Tryz.tabOK Tryz.wide_ Tryz.func39 rfl (by decide) rfl (fun X => ?_)
  unfold moreL
  iterate 10
    repeat (first | refine sc rfl ?_ | refine so rfl ?_)
    refine C_if rfl (fun h => ?_) (fun h => ?_) <;> simp only [pL] at h
    · rw [if_pos h]
      repeat (first | refine sc rfl ?_ | refine so rfl ?_)
      exact ⟨_, rfl, rfl, rfl⟩
    rw [if_neg h]
  repeat (first | refine sc rfl ?_ | refine so rfl ?_)
  exact ⟨_, rfl, rfl, rfl⟩
theorem error_c (k : Int) : FnP Tryz.prog 22 [I64 k] (· = .s (errL k)) := by
  refine FnP.intro Tryz.tabOK Tryz.wide_ Tryz.func22 rfl (by decide) rfl (fun X => ?_)
  unfold errL
  iterate 11
    repeat (first | refine sc rfl ?_ | refine so rfl ?_)
    refine C_if rfl (fun h => ?_) (fun h => ?_) <;> simp only [pL] at h
    · rw [if_pos h]
      repeat (first | refine sc rfl ?_ | refine so rfl ?_)
      exact ⟨_, rfl, rfl, rfl⟩
    rw [if_neg h]
  repeat (first | refine sc rfl ?_ | refine so rfl ?_)
  refine O_call (more_c k) (by rfl) (by rfl) (by rfl) (by rfl) (fun r hr => ?_)
  subst hr
  repeat (first | refine sc rfl ?_ | refine so rfl ?_)
  exact ⟨_, rfl, rfl, rfl⟩
theorem ite_len {c : Prop} [Decidable c] {a b : List UInt8} {n : Nat} (ha : a.length ≤ n) (hb : b.length ≤ n) : (if c then a else b).length ≤ n := by
  split
  · exact ha
  · exact hb
theorem wordL_len (k : Int) : (wordL k).length ≤ 6 := by
  unfold wordL
  repeat (refine ite_len (by decide) ?_)
  decide
theorem errL_len (k : Int) : (errL k).length ≤ 5 := by
  unfold errL moreL
  repeat (refine ite_len (by decide) ?_)
  decide
def catL (F : Nat → List UInt8) : Nat → List UInt8
  | 0 => []
  | n + 1 => catL F n ++ F n
theorem catL_len {F : Nat → List UInt8} {m : Nat} : ∀ n, (∀ i, i < n → (F i).length ≤ m) → (catL F n).length ≤ n * m
  | 0, _ => by simp [catL]
  | n + 1, h => by
    have := catL_len n (fun i hi => h i (by omega))
    have := h n (by omega)
    rw [catL, List.length_append, Nat.succ_mul]; omega
abbrev wCame : List UInt8 := [99, 97, 109, 101]
abbrev wRef : List UInt8 := [114, 101, 102, 117, 115, 101, 100]
abbrev wSer : List UInt8 := [115, 101, 114, 118, 101, 100]
def FC (f : Nat → Int) (i : Nat) : List UInt8 := lineF (f (i + 1)) (Lib.join [wCame, wordL ((i + 1 : Nat) : Int)] [32])
def FR (f : Nat → Int) (i : Nat) : List UInt8 := lineF (f (10 + (i + 1))) (Lib.join [wRef, errL ((i + 1 : Nat) : Int)] [32])
def FS (f : Nat → Int) (i : Nat) : List UInt8 := lineF (f (31 + i)) (Lib.join [wSer, Lib.itoa ((i : Nat) : Int)] [32])
def FT (f : Nat → Int) : List UInt8 := lineF (f 40) (Lib.join [[105, 100, 108, 101]] [32]) ++ lineF (f 41) (Lib.join [[116, 105, 99, 107, 115]] [32]) ++ lineF (f 42) (Lib.join [[98, 121, 116, 101, 115]] [32]) ++ lineF (f 43) (Lib.join [[115, 104, 117, 116]] [32])
def TX (f : Nat → Int) : List UInt8 := catL (FC f) 9 ++ catL (FR f) 20 ++ catL (FS f) 9 ++ FT f
abbrev ok8 (x : Int) : Prop := -9223372036854775808 ≤ x ∧ x ≤ 9223372036854775807
theorem join2_len (a b : List UInt8) : (Lib.join [a, b] [32]).length = a.length + b.length + 1 := by
  simp [Lib.join]; omega
theorem text_G (pv : Value) (A : Abs) (f : Nat → Int) (hf : ∀ i, ok8 (f i))
    (hC : ∀ k, FnA Tryz.prog 61 [.v pv, I64 k] [A] (fun r cs' => r = I64 (if 1 ≤ k ∧ k ≤ 9 then f (0 + k.toNat) else 0) ∧ cs' = [A]))
    (hR : ∀ k, FnA Tryz.prog 63 [.v pv, I64 k] [A] (fun r cs' => r = I64 (if 1 ≤ k ∧ k ≤ 20 then f (10 + k.toNat) else 0) ∧ cs' = [A]))
    (hS : ∀ k, FnA Tryz.prog 64 [.v pv, I64 k] [A] (fun r cs' => r = I64 (if 0 ≤ k ∧ k ≤ 8 then f (31 + k.toNat) else 0) ∧ cs' = [A]))
    (hT : FnA Tryz.prog 65 [.v pv] [A] (fun r cs' => r = .tup [I64 (f 40), I64 (f 41), I64 (f 42), I64 (f 43)] ∧ cs' = [A])) :
    FnK 28 [.v pv] [A] (fun r cs' => r = .s (TX f) ∧ cs' = [A]) := by
  refine FnW.intro Tryz.tabOK Tryz.wide_ Tryz.func28 rfl (by decide) rfl (fun X hK => ?_)
  have lFC : ∀ i, (FC f i).length ≤ 64 := fun i => by
    have h1 := lineF_len (w := Lib.join [wCame, wordL ((i + 1 : Nat) : Int)] [32]) (hf (i + 1)).1 (hf (i + 1)).2
    have h2 := wordL_len ((i + 1 : Nat) : Int)
    rw [join2_len] at h1
    have : wCame.length = 4 := rfl
    unfold FC; omega
  have lFR : ∀ i, (FR f i).length ≤ 64 := fun i => by
    have h1 := lineF_len (w := Lib.join [wRef, errL ((i + 1 : Nat) : Int)] [32]) (hf (10 + (i + 1))).1 (hf (10 + (i + 1))).2
    have h2 := errL_len ((i + 1 : Nat) : Int)
    rw [join2_len] at h1
    have : wRef.length = 7 := rfl
    unfold FR; omega
  have lFS : ∀ i, i < 9 → (FS f i).length ≤ 64 := fun i hi => by
    have h1 := lineF_len (w := Lib.join [wSer, Lib.itoa ((i : Nat) : Int)] [32]) (hf (31 + i)).1 (hf (31 + i)).2
    have h2 := Lib.itoa_length_le ((i : Nat) : Int) (by omega) (by omega)
    rw [join2_len] at h1
    have : wSer.length = 6 := rfl
    unfold FS; omega
  repeat (first | refine sc rfl ?_ | refine so rfl ?_)
  refine C_absb 3 rfl rfl rfl (fun b => ?_)
  refine C_le _ (Le.addAbs (bufA (.slice none 0 0) 5 []) rfl (fun _ _ => ⟨rfl, .inl ⟨rfl, rfl⟩⟩)) ?_
  refine C_loop (fun q : Nat × Bool × Value => ⟨[(0, .v pv), (3, PT b 0), (4, I64 ((q.1 + 1 : Nat) : Int))], [.abs (bldC b q.2.1 q.2.2), .abs (bufA q.2.2 5 (catL (FC f) q.1)), .abs A]⟩) (fun q => q.1 ≤ 9 ∧ HdB q.2.2 (catL (FC f) q.1)) (fun q => 9 - q.1) (0, false, .slice none 0 0) ⟨Nat.zero_le _, .inl ⟨rfl, rfl⟩⟩ (Le.pick [1, 0, 0] ⟨rfl, rfl, rfl, trivial⟩ rfl) ?_
  rintro ⟨i, u, h⟩ ⟨hi, hH⟩
  simp only [] at hi hH ⊢
  have l1 := catL_len i (fun j _ => lFC j)
  repeat (first | refine sc rfl ?_ | refine so rfl ?_)
  refine C_if rfl (fun k1 => ?_) (fun k1 => ?_) <;> simp only [pL] at k1
  · repeat (first | refine sc rfl ?_ | refine so rfl ?_)
    refine O_callA [2] (hC ((i + 1 : Nat) : Int)) (by rfl) (by rfl) (by rfl) (by rfl) (by rfl) ?_
    rintro r' cs' ⟨rfl, rfl⟩
    rw [if_pos ⟨by omega, by omega⟩, show 0 + ((i + 1 : Nat) : Int).toNat = i + 1 by omega]
    repeat refine so rfl ?_
    refine O_call (word_c ((i + 1 : Nat) : Int)) (by rfl) (by rfl) (by rfl) (by rfl) (fun r hr => ?_)
    subst hr
    repeat refine sb rfl ?_
    refine O_le _ (Le.vecrow (k := 20) 2 (fun j => WDc ([wCame, wordL ((i + 1 : Nat) : Int)].getD j default)) rfl rfl (fun j hj => ?_)) ?_
    · have hj' : j < 2 := hj
      have : j = 0 ∨ j = 1 := by omega
      rcases this with rfl | rfl <;> rfl
    refine O_le _ (Le.freezeL (l := [wCame, wordL ((i + 1 : Nat) : Int)]) (cells := WDc) 20 rfl rfl) ?_
    refine O_callW hK [] (line_W (f (i + 1)) (hf _).1 (hf _).2 [wCame, wordL ((i + 1 : Nat) : Int)] (by simp) (by simp) (by rw [join2_len]; have := wordL_len ((i + 1 : Nat) : Int); have : wCame.length = 4 := rfl; omega)) (by rfl) (by rfl) (by rfl) (by rfl) (by rfl) ?_
    rintro r' cs' ⟨rfl, rfl⟩
    repeat refine sc rfl ?_
    refine O_callA [1, 1] (WriteString_A b u h (catL (FC f) i) (FC f i) hH (by have := lFC i; omega)) (by rfl) (by rfl) (by rfl) (by rfl) (by rfl) ?_
    rintro r' cs' ⟨rfl, h', hH', rfl⟩
    repeat (first | refine sc rfl ?_ | refine so rfl ?_)
    rw [w64 (x := ((i + 1 : Nat) : Int) + 1) (by omega) (by omega)]
    refine ⟨(i + 1, true, h'), ⟨by simp only []; omega, hH'⟩, by simp only []; omega, ?_⟩
    exact Le.pick [0, 0, 0] ⟨rfl, rfl, rfl, trivial⟩ rfl
  · obtain rfl : i = 9 := by omega
    repeat (first | refine sc rfl ?_ | refine so rfl ?_)
    refine C_loop (fun q : Nat × Bool × Value => ⟨[(0, .v pv), (3, PT b 0), (5, I64 ((q.1 + 1 : Nat) : Int))], [.abs (bldC b q.2.1 q.2.2), .abs (bufA q.2.2 5 (catL (FC f) 9 ++ catL (FR f) q.1)), .abs A]⟩) (fun q => q.1 ≤ 20 ∧ HdB q.2.2 (catL (FC f) 9 ++ catL (FR f) q.1)) (fun q => 20 - q.1) (0, u, h) ⟨Nat.zero_le _, by rw [catL, List.append_nil]; exact hH⟩ ?_ ?_
    · show Le _ _ _ ⟨_, [.abs (bldC b u h), .abs (bufA h 5 (catL (FC f) 9 ++ catL (FR f) 0)), .abs A]⟩
      rw [show catL (FR f) 0 = [] from rfl, List.append_nil]
      exact Le.pick [0, 0, 0] ⟨rfl, rfl, rfl, trivial⟩ rfl
    rintro ⟨i, u, h⟩ ⟨hi, hH⟩
    simp only [] at hi hH ⊢
    have l2 := catL_len i (fun j _ => lFR j)
    repeat (first | refine sc rfl ?_ | refine so rfl ?_)
    refine C_if rfl (fun k1 => ?_) (fun k1 => ?_) <;> simp only [pL] at k1
    · repeat (first | refine sc rfl ?_ | refine so rfl ?_)
      refine O_callA [2] (hR ((i + 1 : Nat) : Int)) (by rfl) (by rfl) (by rfl) (by rfl) (by rfl) ?_
      rintro r' cs' ⟨rfl, rfl⟩
      rw [if_pos ⟨by omega, by omega⟩, show 10 + ((i + 1 : Nat) : Int).toNat = 10 + (i + 1) by omega]
      repeat refine so rfl ?_
      refine O_call (error_c ((i + 1 : Nat) : Int)) (by rfl) (by rfl) (by rfl) (by rfl) (fun r hr => ?_)
      subst hr
      repeat refine sb rfl ?_
      refine O_le _ (Le.vecrow (k := 32) 2 (fun j => WDc ([wRef, errL ((i + 1 : Nat) : Int)].getD j default)) rfl rfl (fun j hj => ?_)) ?_
      · have hj' : j < 2 := hj
        have : j = 0 ∨ j = 1 := by omega
        rcases this with rfl | rfl <;> rfl
      refine O_le _ (Le.freezeL (l := [wRef, errL ((i + 1 : Nat) : Int)]) (cells := WDc) 32 rfl rfl) ?_
      refine O_callW hK [] (line_W (f (10 + (i + 1))) (hf _).1 (hf _).2 [wRef, errL ((i + 1 : Nat) : Int)] (by simp) (by simp) (by rw [join2_len]; have := errL_len ((i + 1 : Nat) : Int); have : wRef.length = 7 := rfl; omega)) (by rfl) (by rfl) (by rfl) (by rfl) (by rfl) ?_
      rintro r' cs' ⟨rfl, rfl⟩
      repeat refine sc rfl ?_
      refine O_callA [1, 1] (WriteString_A b u h (catL (FC f) 9 ++ catL (FR f) i) (FR f i) hH (by have := lFR i; rw [List.length_append]; omega)) (by rfl) (by rfl) (by rfl) (by rfl) (by rfl) ?_
      rintro r' cs' ⟨rfl, h', hH', rfl⟩
      rw [List.append_assoc] at hH' ⊢
      repeat (first | refine sc rfl ?_ | refine so rfl ?_)
      rw [w64 (x := ((i + 1 : Nat) : Int) + 1) (by omega) (by omega)]
      refine ⟨(i + 1, true, h'), ⟨by simp only []; omega, hH'⟩, by simp only []; omega, ?_⟩
      exact Le.pick [0, 0, 0] ⟨rfl, rfl, rfl, trivial⟩ rfl
    · obtain rfl : i = 20 := by omega
      repeat (first | refine sc rfl ?_ | refine so rfl ?_)
      refine C_loop (fun q : Nat × Bool × Value => ⟨[(0, .v pv), (3, PT b 0), (35, I64 (q.1 : Nat))], [.abs (bldC b q.2.1 q.2.2), .abs (bufA q.2.2 5 (catL (FC f) 9 ++ catL (FR f) 20 ++ catL (FS f) q.1)), .abs A]⟩) (fun q => q.1 ≤ 9 ∧ HdB q.2.2 (catL (FC f) 9 ++ catL (FR f) 20 ++ catL (FS f) q.1)) (fun q => 9 - q.1) (0, u, h) ⟨Nat.zero_le _, by rw [show catL (FS f) 0 = [] from rfl, List.append_nil]; exact hH⟩ ?_ ?_
      · show Le _ _ _ ⟨_, [.abs (bldC b u h), .abs (bufA h 5 (catL (FC f) 9 ++ catL (FR f) 20 ++ catL (FS f) 0)), .abs A]⟩
        rw [show catL (FS f) 0 = [] from rfl, List.append_nil]
        exact Le.pick [0, 0, 0] ⟨rfl, rfl, rfl, trivial⟩ rfl
      rintro ⟨i, u, h⟩ ⟨hi, hH⟩
      simp only [] at hi hH ⊢
      have l3 := catL_len i (fun j hj => lFS j (by omega))
      repeat (first | refine sc rfl ?_ | refine so rfl ?_)
      refine C_if rfl (fun k1 => ?_) (fun k1 => ?_) <;> simp only [pL] at k1
      · repeat (first | refine sc rfl ?_ | refine so rfl ?_)
        refine O_callA [2] (hS ((i : Nat) : Int)) (by rfl) (by rfl) (by rfl) (by rfl) (by rfl) ?_
        rintro r' cs' ⟨rfl, rfl⟩
        rw [if_pos ⟨by omega, by omega⟩, show 31 + ((i : Nat) : Int).toNat = 31 + i by omega]
        repeat refine so rfl ?_
        refine O_callW hK [] (itoa_W ((i : Nat) : Int) (by omega) (by omega)) (by rfl) (by rfl) (by rfl) (by rfl) (by rfl) ?_
        rintro r' cs' ⟨rfl, rfl⟩
        repeat refine sb rfl ?_
        refine O_le _ (Le.vecrow (k := 43) 2 (fun j => WDc ([wSer, Lib.itoa ((i : Nat) : Int)].getD j default)) rfl rfl (fun j hj => ?_)) ?_
        · have hj' : j < 2 := hj
          have : j = 0 ∨ j = 1 := by omega
          rcases this with rfl | rfl <;> rfl
        refine O_le _ (Le.freezeL (l := [wSer, Lib.itoa ((i : Nat) : Int)]) (cells := WDc) 43 rfl rfl) ?_
        refine O_callW hK [] (line_W (f (31 + i)) (hf _).1 (hf _).2 [wSer, Lib.itoa ((i : Nat) : Int)] (by simp) (by simp) (by rw [join2_len]; have := Lib.itoa_length_le ((i : Nat) : Int) (by omega) (by omega); have : wSer.length = 6 := rfl; omega)) (by rfl) (by rfl) (by rfl) (by rfl) (by rfl) ?_
        rintro r' cs' ⟨rfl, rfl⟩
        repeat refine sc rfl ?_
        refine O_callA [1, 1] (WriteString_A b u h (catL (FC f) 9 ++ catL (FR f) 20 ++ catL (FS f) i) (FS f i) hH (by have := lFS i (by omega); rw [List.length_append, List.length_append]; omega)) (by rfl) (by rfl) (by rfl) (by rfl) (by rfl) ?_
        rintro r' cs' ⟨rfl, h', hH', rfl⟩
        rw [List.append_assoc] at hH' ⊢
        repeat (first | refine sc rfl ?_ | refine so rfl ?_)
        rw [w64 (x := ((i : Nat) : Int) + 1) (by omega) (by omega)]
        refine ⟨(i + 1, true, h'), ⟨by simp only []; omega, hH'⟩, by simp only []; omega, ?_⟩
        exact Le.pick [0, 0, 0] ⟨rfl, rfl, rfl, trivial⟩ rfl
      obtain rfl : i = 9 := by omega
      repeat (first | refine sc rfl ?_ | refine so rfl ?_)
      refine O_callA [2] (hT) (by rfl) (by rfl) (by rfl) (by rfl) (by rfl) ?_
      rintro r' cs' ⟨rfl, rfl⟩
      repeat (first|refine sc rfl ?_|refine so rfl ?_|refine sb rfl ?_)
      have q0 := lineF_len (w := Lib.join [[105, 100, 108, 101]] [32]) (hf 40).1 (hf 40).2
      have q1 := lineF_len (w := Lib.join [[116, 105, 99, 107, 115]] [32]) (hf 41).1 (hf 41).2
      have q2 := lineF_len (w := Lib.join [[98, 121, 116, 101, 115]] [32]) (hf 42).1 (hf 42).2
      have q3 := lineF_len (w := Lib.join [[115, 104, 117, 116]] [32]) (hf 43).1 (hf 43).2
      rw [show (Lib.join [[105, 100, 108, 101]] [32]).length = 4 from rfl] at q0
      rw [show (Lib.join [[116, 105, 99, 107, 115]] [32]).length = 5 from rfl] at q1
      rw [show (Lib.join [[98, 121, 116, 101, 115]] [32]).length = 5 from rfl] at q2
      rw [show (Lib.join [[115, 104, 117, 116]] [32]).length = 4 from rfl] at q3
      refine O_le _ (Le.vecrow (k := 55) 1 (fun j => WDc ([([105, 100, 108, 101] : List UInt8)].getD j default)) rfl rfl (fun j hj => ?_)) ?_
      · have hj' : j < 1 := hj
        obtain rfl : j = 0 := by omega
        rfl
      refine O_le _ (Le.freezeL (l := [([105, 100, 108, 101] : List UInt8)]) (cells := WDc) 55 rfl rfl) ?_
      refine O_callW hK [] (line_W (f 40) (hf _).1 (hf _).2 [[105, 100, 108, 101]] (by simp) (by simp) (by decide)) (by rfl) (by rfl) (by rfl) (by rfl) (by rfl) ?_
      rintro r' cs' ⟨rfl, rfl⟩
      repeat (first|refine so rfl ?_|refine sb rfl ?_)
      refine O_le _ (Le.vecrow (k := 58) 1 (fun j => WDc ([([116, 105, 99, 107, 115] : List UInt8)].getD j default)) rfl rfl (fun j hj => ?_)) ?_
      · have hj' : j < 1 := hj
        obtain rfl : j = 0 := by omega
        rfl
      refine O_le _ (Le.freezeL (l := [([116, 105, 99, 107, 115] : List UInt8)]) (cells := WDc) 58 rfl rfl) ?_
      refine O_callW hK [] (line_W (f 41) (hf _).1 (hf _).2 [[116, 105, 99, 107, 115]] (by simp) (by simp) (by decide)) (by rfl) (by rfl) (by rfl) (by rfl) (by rfl) ?_
      rintro r' cs' ⟨rfl, rfl⟩
      repeat refine so rfl ?_
      refine ⟨by (try simp only [List.length_append]); omega, ?_⟩
      repeat (first|refine so rfl ?_|refine sb rfl ?_)
      refine O_le _ (Le.vecrow (k := 62) 1 (fun j => WDc ([([98, 121, 116, 101, 115] : List UInt8)].getD j default)) rfl rfl (fun j hj => ?_)) ?_
      · have hj' : j < 1 := hj
        obtain rfl : j = 0 := by omega
        rfl
      refine O_le _ (Le.freezeL (l := [([98, 121, 116, 101, 115] : List UInt8)]) (cells := WDc) 62 rfl rfl) ?_
      refine O_callW hK [] (line_W (f 42) (hf _).1 (hf _).2 [[98, 121, 116, 101, 115]] (by simp) (by simp) (by decide)) (by rfl) (by rfl) (by rfl) (by rfl) (by rfl) ?_
      rintro r' cs' ⟨rfl, rfl⟩
      repeat refine so rfl ?_
      refine ⟨by (try simp only [List.length_append]); omega, ?_⟩
      repeat (first|refine so rfl ?_|refine sb rfl ?_)
      refine O_le _ (Le.vecrow (k := 66) 1 (fun j => WDc ([([115, 104, 117, 116] : List UInt8)].getD j default)) rfl rfl (fun j hj => ?_)) ?_
      · have hj' : j < 1 := hj
        obtain rfl : j = 0 := by omega
        rfl
      refine O_le _ (Le.freezeL (l := [([115, 104, 117, 116] : List UInt8)]) (cells := WDc) 66 rfl rfl) ?_
      refine O_callW hK [] (line_W (f 43) (hf _).1 (hf _).2 [[115, 104, 117, 116]] (by simp) (by simp) (by decide)) (by rfl) (by rfl) (by rfl) (by rfl) (by rfl) ?_
      rintro r' cs' ⟨rfl, rfl⟩
      repeat refine so rfl ?_
      refine ⟨by (try simp only [List.length_append]); omega, ?_⟩
      repeat refine sc rfl ?_
      refine O_callA [1, 1] (WriteString_A b u h (catL (FC f) 9 ++ catL (FR f) 20 ++ catL (FS f) 9) (FT f) hH (by unfold FT; simp only [List.length_append]; omega)) (by rfl) (by rfl) (by rfl) (by rfl) (by rfl) ?_
      rintro r' cs' ⟨rfl, h', hH', rfl⟩
      repeat (first | refine sc rfl ?_ | refine so rfl ?_)
      refine O_callA [0, 0] (String_A b true h' (catL (FC f) 9 ++ catL (FR f) 20 ++ catL (FS f) 9 ++ FT f) hH') (by rfl) (by rfl) (by rfl) (by rfl) (by rfl) ?_
      rintro r' cs' ⟨rfl, rfl⟩
      repeat (first | refine sc rfl ?_ | refine so rfl ?_)
      exact ⟨_, [_], _, rfl, pickA_perm (is := [0]) (As := [_]) rfl, rfl, rfl, rfl⟩
theorem text_W (t : Nat) (f : Nat → Int) (hf : ∀ i, ok8 (f i)) : FnK 28 [PT t 0] [tlA t f] (fun r cs' => r = .s (TX f) ∧ cs' = [tlA t f]) :=
  text_G _ _ f hf (came_A t f) (refd_A t f) (servd_A t f) (rest_A t f)
end Go.Proofs

namespace Go.Sy
open Go.RowKit
section
variable {P : Program} {T : Tab} {X : Ctx P T} {n : Nat} {ops : Array Oper} {K : St → Prop} {g : Nat} {tab : Array Value} {tt : TypeId}
theorem D_callW (hK : KnowsB X g tab tt) {base : List (Nat × AV)} {c : List Ch} {done : Done} {f : FuncId} {dst : Nat} {args : Array Operand} {tys : Array TypeId} {ty : TypeId} {pos : String} {aft : Array Edge} {gd : Option (Nat × Bool)} {rest : List Oper} {avs : List AV} {x : AV}
    (hf : FnW g tab tt P f avs [] (fun r cs' => r = x ∧ cs' = [])) (hg : guardA ops ⟨availL done aft.toList base, c⟩ ⟨some dst, .call ⟨.value (.func f), args, tys⟩, ty, pos, aft, gd⟩ = some true) (ha : opds (availL done aft.toList base) args.toList = some avs) (himm : AV.imm.immL avs = true) (hd : Nat.blt dst n = true)
    (k : SymD X n ops base c K rest (done ++ [(some dst, x)])) :
    SymD X n ops base c K (⟨some dst, .call ⟨.value (.func f), args, tys⟩, ty, pos, aft, gd⟩ :: rest) done := by
  refine ⟨x, fun e a w S K' Q r hS hk => ?_, k⟩
  have r0 : Rel X n e ⟨availL done aft.toList base, c⟩ a w := r.less hS id
  rw [if_pos (guardA_sound r0 hg)]
  refine .inl ?_
  unfold Oper.wp
  rw [run_call hf.1 a.eval rfl w, Oper.upon_enter]
  have h1 := RepT.toI avs himm (opds_sound r0 ha)
  obtain ⟨n1, n2⟩ := hK.now r
  have h2 := hf.2 e.G w _ n1 (by simp [blocks]) n2 ⟨r.im, r.mz⟩ h1 ⟨by simp, by simp [blocks], by simp [blocks]⟩
  have harr : args.map a.eval = (args.toList.map a.eval).toArray := by
    apply Array.ext'; simp
  rw [harr]
  refine h2.mono ?_
  rintro en w' ⟨rv, cv, cs', G', ⟨rfl, rfl⟩, rfl, g1, g2, g3, g4, g5, g6, o1, o2, o3, o4, o5⟩
  have r' : Rel X n ⟨G', e.μ, e.hd⟩ ⟨S, c⟩ a w' := by
    have := r.swapAbs (As := []) (As' := []) (c := c) (by simp) g2 g4 g3 g5 g6 ⟨o1, o2, o3⟩ o4 o5
    simpa using this
  exact hk _ _ _ (r'.put (x := rv) (v := cv) hd (RepI.toRep (e := ⟨G', e.μ, e.hd⟩) rv g1))
end
end Go.Sy

namespace Go.Proofs
open Go.Sy Go.Lib

theorem chunk_lit : ∀ (ws : List (List UInt8)) (i : Nat), i < ws.length → chunkRow 1 (ws.map AV.s) i = wc1 (ws.getD i default)
  | [], i, h => absurd h (Nat.not_lt_zero _)
  | w :: ws, 0, _ => by simp [chunkRow]
  | w :: ws, i + 1, h => by
    have := chunk_lit ws i (by simpa using h)
    simp [chunkRow] at this ⊢
    exact this
theorem Le.litS {X : Ctx Tryz.prog Tryz.tab} {n : Nat} {s : List (Nat × AV)} {c rest : List Ch} (i : Nat) {k : Nat} {t : TypeId} (ws : List (List UInt8)) (hi : get s i = some (.own k)) (hk : takeCh k c = some (.vec k t 1 ws.length (chunkRow 1 (ws.map AV.s)), rest)) :
    Le X n ⟨s, c⟩ ⟨(i, SL 1 wc1 ws) :: (i, .sl ws.length 1 (chunkRow 1 (ws.map AV.s))) :: s, rest⟩ :=
  Le.trans (Le.freeze i hi hk) (Le.one i (SL 1 wc1 ws) (by rw [get_cons, if_pos rfl]) (.row (fun j hj => chunk_lit ws j hj)))
theorem itoa_d (n : Nat) (h : n < 10) : Lib.itoa (n : Int) = [UInt8.ofNat (48 + n)] := by
  unfold Lib.itoa
  rw [if_neg (by omega), Lib.decDigits, dif_pos (by omega)]
  simp
theorem itoa_n1 : Lib.itoa (-1) = [45, 49] := by
  unfold Lib.itoa
  rw [if_pos (by decide), Lib.decDigits, dif_pos (by decide)]
  rfl
theorem itoaE (n : Int) (l : List UInt8) (h : Lib.itoa n = l) (h0 : -9223372036854775808 ≤ n) (h1 : n ≤ 9223372036854775807) : FnK 21 [I64 n] [] (fun r cs' => r = .s l ∧ cs' = []) := by
  rw [← h]; exact itoa_W n h0 h1
theorem small0_c : FnP Tryz.prog 126 [I64 0] (· = .s [48]) := by
  refine FnP.intro Tryz.tabOK Tryz.wide_ Tryz.func126 rfl (by decide) rfl (fun X => ?_)
  repeat (first | refine sc rfl ?_ | refine so rfl ?_)
  refine C_true rfl (by decide) ?_
  repeat (first | refine sc rfl ?_ | refine so rfl ?_ | refine sb rfl ?_ | refine ⟨by decide, ?_⟩)
  exact ⟨_, rfl, rfl, rfl⟩
theorem fuint0_c : FnP Tryz.prog 146 [U64 0, I64 10] (· = .s [48]) := by
  refine FnP.intro Tryz.tabOK Tryz.wide_ Tryz.func146 rfl (by decide) rfl (fun X => ?_)
  repeat (first | refine sc rfl ?_ | refine so rfl ?_)
  refine C_true rfl (by decide) ?_
  repeat (first | refine sc rfl ?_ | refine so rfl ?_)
  refine C_true rfl (by decide) ?_
  repeat (first | refine sc rfl ?_ | refine so rfl ?_)
  refine O_call small0_c (by rfl) (by rfl) (by rfl) (by rfl) (fun r hr => ?_)
  subst hr
  repeat (first | refine sc rfl ?_ | refine so rfl ?_)
  exact ⟨_, rfl, rfl, rfl⟩
theorem fuint_c : FnP Tryz.prog 88 [U64 0, I64 10] (· = .s [48]) := by
  refine FnP.intro Tryz.tabOK Tryz.wide_ Tryz.func88 rfl (by decide) rfl (fun X => ?_)
  repeat (first | refine sc rfl ?_ | refine so rfl ?_)
  refine O_call fuint0_c (by rfl) (by rfl) (by rfl) (by rfl) (fun r hr => ?_)
  subst hr
  repeat (first | refine sc rfl ?_ | refine so rfl ?_)
  exact ⟨_, rfl, rfl, rfl⟩
abbrev lnE1 : List UInt8 := [49, 32, 111, 112, 101, 110, 32, 48, 10]
theorem evOpen_W (s mg tm : Nat) (now : Int) : FnK 25 [PT s 0, .s [49], .agg (Evt.c ⟨1, 0, 0, []⟩)] [srvL s mg tm now (.slice none 0 0)] (fun r cs' => ∃ g cc b, r = .s lnE1 ∧ cs' = srvL3 s mg tm now g cc b 0 (-1) (.slice none 0 0)) := by
  refine FnW.intro Tryz.tabOK Tryz.wide_ Tryz.func25 rfl (by decide) rfl (fun X hK => ?_)
  repeat (first | refine sc rfl ?_ | refine so rfl ?_)
  refine C_false rfl (by decide) ?_
  repeat (first | refine sc rfl ?_ | refine so rfl ?_)
  refine C_false rfl (by decide) ?_
  repeat (first | refine sc rfl ?_ | refine so rfl ?_)
  refine C_false rfl (by decide) ?_
  repeat (first | refine sc rfl ?_ | refine so rfl ?_)
  refine C_true rfl (by decide) ?_
  repeat (first | refine sc rfl ?_ | refine so rfl ?_)
  refine O_callA [1] (sOpen_A s mg tm now) (by rfl) (by rfl) (by rfl) (by rfl) (by rfl) ?_
  rintro r' cs' ⟨g, cc, b, rfl, rfl⟩
  repeat (first | refine sc rfl ?_ | refine so rfl ?_)
  refine C_true rfl (by decide) ?_
  repeat (first | refine sc rfl ?_ | refine so rfl ?_)
  refine O_callW hK [] (itoaE 0 [48] (itoa_d 0 (by decide)) (by decide) (by decide)) (by rfl) (by rfl) (by rfl) (by rfl) (by rfl) ?_
  rintro r' cs' ⟨rfl, rfl⟩
  repeat refine sb rfl ?_
  refine O_le _ (Le.litS 43 [[49], [111, 112, 101, 110], [48]] rfl rfl) ?_
  refine O_call (tell_c [[49], [111, 112, 101, 110], [48]] (by decide) (by decide)) (by rfl) (by rfl) (by rfl) (by rfl) (fun r hr => ?_)
  subst hr
  repeat (first | refine sc rfl ?_ | refine so rfl ?_)
  exact ⟨_, [_, _, _], _, rfl, pickA_perm (is := [0, 0, 0]) (As := [_, _, _]) rfl, rfl, g, cc, b, rfl, rfl⟩
abbrev lnE2 : List UInt8 := [50, 32, 99, 97, 109, 101, 32, 112, 105, 110, 103, 32, 45, 49, 32, 97, 117, 116, 104, 10]
def nteP : Nte := ⟨0, -1, 5, [], 16, []⟩
theorem recvD_W (s mg tm : Nat) (now : Int) (g cc b : Nat) : FnK 47 [PT s 0, .s [50], .agg (Evt.c ⟨2, 0, 0, [5, 0, 0, 0]⟩)] (srvL3 s mg tm now g cc b 0 (-1) (.slice none 0 0)) (fun r cs' => ∃ h d, 1 ≤ d ∧ r = .s lnE2 ∧ cs' = srvL3 s mg tm now g cc b 2 (-1) (HD h 1 d) ++ [outA (HD h 1 d) (rfail 0 16)]) := by
  refine FnW.intro Tryz.tabOK Tryz.wide_ Tryz.func47 rfl (by decide) rfl (fun X hK => ?_)
  repeat (first | refine sc rfl ?_ | refine so rfl ?_)
  refine O_callA [1, 1, 1] (recv_A s mg tm now g cc b) (by rfl) (by rfl) (by rfl) (by rfl) (by rfl) ?_
  rintro r' cs' ⟨h, d, hd, rfl, rfl⟩
  repeat (first | refine sc rfl ?_ | refine so rfl ?_)
  refine C_false rfl (by decide) ?_
  repeat (first | refine sc rfl ?_ | refine so rfl ?_)
  refine C_absb 9 rfl rfl rfl (fun B => ?_)
  refine C_le _ (Le.addAbs (bufA (.slice none 0 0) 5 []) rfl (fun _ _ => ⟨rfl, .inl ⟨rfl, rfl⟩⟩)) ?_
  repeat refine sc rfl ?_
  refine C_loop (fun q : Nat × Bool × Value => ⟨[(1, .s [50]), (9, PT B 0), (28, SL 6 Nte.c [nteP]), (29, I64 1), (30, I64 (q.1 : Nat))], .abs (bldC B q.2.1 q.2.2) :: .abs (bufA q.2.2 5 (if q.1 = 0 then [] else lnE2)) :: (srvL3 s mg tm now g cc b 2 (-1) (HD h 1 d) ++ [outA (HD h 1 d) (rfail 0 16)]).map Ch.abs⟩) (fun q => q.1 ≤ 1 ∧ HdB q.2.2 (if q.1 = 0 then [] else lnE2)) (fun q => 1 - q.1) (0, false, .slice none 0 0) ⟨Nat.zero_le _, .inl ⟨rfl, rfl⟩⟩ ?_ ?_
  · exact Le.pick [1, 0, 0, 0, 0, 0] ⟨rfl, rfl, rfl, rfl, rfl, trivial⟩ rfl
  rintro ⟨i, u, hv⟩ ⟨hi, hH⟩
  simp only [] at hi hH ⊢
  repeat (first | refine sc rfl ?_ | refine so rfl ?_)
  refine C_if rfl (fun k1 => ?_) (fun k1 => ?_) <;> simp only [pL] at k1
  · obtain rfl : i = 0 := by omega
    rw [if_pos rfl] at hH ⊢
    repeat (first | refine sc rfl ?_ | refine so rfl ?_)
    refine ⟨by decide, ?_⟩
    repeat refine so rfl ?_
    refine C_drawU 20 10 rfl (by kernel_rfl) (by kernel_rfl) (by kernel_rfl) ?_
    repeat refine sd rfl ?_
    refine D_call kindWord5_c rfl rfl rfl rfl ?_
    repeat refine sd rfl ?_
    refine D_callW hK (itoaE (-1) [45, 49] itoa_n1 (by decide) (by decide)) rfl rfl rfl rfl ?_
    repeat refine sd rfl ?_
    refine D_call (error_c 16) rfl rfl rfl rfl ?_
    repeat refine sd rfl ?_
    repeat refine sb rfl ?_
    refine O_le _ (Le.litS 44 [[50], [99, 97, 109, 101], [112, 105, 110, 103], [45, 49], [97, 117, 116, 104]] rfl rfl) ?_
    refine O_call (tell_c [[50], [99, 97, 109, 101], [112, 105, 110, 103], [45, 49], [97, 117, 116, 104]] (by decide) (by decide)) (by rfl) (by rfl) (by rfl) (by rfl) (fun r hr => ?_)
    subst hr
    repeat refine sc rfl ?_
    refine O_callA [1, 1] (WriteString_A B u hv [] lnE2 hH (by decide)) (by rfl) (by rfl) (by rfl) (by rfl) (by rfl) ?_
    rintro r' cs' ⟨rfl, h', hH', rfl⟩
    repeat (first | refine sc rfl ?_ | refine so rfl ?_)
    refine ⟨(1, true, h'), ⟨Nat.le_refl _, hH'⟩, by show 1 - 1 < 1 - 0; decide, ?_⟩
    exact Le.pick [0, 0, 1, 1, 1, 1] ⟨rfl, rfl, rfl, rfl, rfl, trivial⟩ rfl
  · obtain rfl : i = 1 := by omega
    rw [if_neg (by decide)] at hH ⊢
    repeat refine sc rfl ?_
    refine O_callA [0, 0] (String_A B u hv _ hH) (by rfl) (by rfl) (by rfl) (by rfl) (by rfl) ?_
    rintro r' cs' ⟨rfl, rfl⟩
    repeat (first | refine sc rfl ?_ | refine so rfl ?_)
    exact ⟨_, [_, _, _, _], _, rfl, pickA_perm (is := [0, 0, 0, 0]) (As := [_, _, _, _]) rfl, rfl, h, d, hd, rfl, rfl⟩
theorem evRecv_W (s mg tm : Nat) (now : Int) (g cc b : Nat) : FnK 25 [PT s 0, .s [50], .agg (Evt.c ⟨2, 0, 0, [5, 0, 0, 0]⟩)] (srvL3 s mg tm now g cc b 0 (-1) (.slice none 0 0)) (fun r cs' => ∃ h d, 1 ≤ d ∧ r = .s lnE2 ∧ cs' = srvL3 s mg tm now g cc b 2 (-1) (HD h 1 d) ++ [outA (HD h 1 d) (rfail 0 16)]) := by
  refine FnW.intro Tryz.tabOK Tryz.wide_ Tryz.func25 rfl (by decide) rfl (fun X hK => ?_)
  repeat (first | refine sc rfl ?_ | refine so rfl ?_)
  refine C_true rfl (by decide) ?_
  repeat (first | refine sc rfl ?_ | refine so rfl ?_)
  refine O_callW hK [1, 1, 1] (recvD_W s mg tm now g cc b) (by rfl) (by rfl) (by rfl) (by rfl) (by rfl) ?_
  rintro r' cs' ⟨h, d, hd, rfl, rfl⟩
  repeat (first | refine sc rfl ?_ | refine so rfl ?_)
  exact ⟨_, [_, _, _, _], _, rfl, pickA_perm (is := [0, 0, 0, 0]) (As := [_, _, _, _]) rfl, rfl, h, d, hd, rfl, rfl⟩
abbrev lnE3 : List UInt8 := [51, 32, 111, 117, 116, 32, 48, 32, 48, 32, 97, 117, 116, 104, 32, 45, 10]
theorem delivD_W (s mg tm : Nat) (now : Int) (g cc b h2 h d : Nat) (hd : 1 ≤ d) : FnK 48 [PT s 0, .s [51], I64 0] (srvL3 s mg tm now g cc b 2 (-1) (HD h 1 d) ++ [outA (HD h 1 d) rb, tenM tm h2]) (fun r cs' => r = .s lnE3 ∧ cs' = []) := by
  refine FnW.intro Tryz.tabOK Tryz.wide_ Tryz.func48 rfl (by decide) rfl (fun X hK => ?_)
  repeat (first | refine sc rfl ?_ | refine so rfl ?_)
  refine O_callA [0, 0, 0, 0, 0] (sDel1_A s mg tm now g cc b h2 h d hd rb) (by rfl) (by rfl) (by rfl) (by rfl) (by rfl) ?_
  rintro r' cs' ⟨a, c, rfl, rfl⟩
  repeat (first | refine sc rfl ?_ | refine so rfl ?_)
  refine O_callW hK [] (itoaE 0 [48] (itoa_d 0 (by decide)) (by decide) (by decide)) (by rfl) (by rfl) (by rfl) (by rfl) (by rfl) ?_
  rintro r' cs' ⟨rfl, rfl⟩
  repeat (first | refine sc rfl ?_ | refine so rfl ?_)
  refine C_false rfl (by decide) ?_
  repeat (first | refine sc rfl ?_ | refine so rfl ?_)
  refine C_false rfl (by decide) ?_
  repeat (first | refine sc rfl ?_ | refine so rfl ?_)
  refine C_false rfl (by decide) ?_
  repeat (first | refine sc rfl ?_ | refine so rfl ?_)
  refine O_callA [] rTake9_A (by rfl) (by rfl) (by rfl) (by rfl) (by rfl) ?_
  rintro r' cs' ⟨rfl, rfl⟩
  repeat (first | refine sc rfl ?_ | refine so rfl ?_)
  refine C_drawU 20 11 rfl (by kernel_rfl) (by kernel_rfl) (by kernel_rfl) ?_
  repeat refine sd rfl ?_
  refine D_call fuint_c rfl rfl rfl rfl ?_
  repeat refine sd rfl ?_
  refine D_call (error_c 16) rfl rfl rfl rfl ?_
  repeat refine sd rfl ?_
  refine D_call figures0_c rfl rfl rfl rfl ?_
  repeat refine sd rfl ?_
  repeat refine sb rfl ?_
  refine O_le _ (Le.litS 58 [[51], [111, 117, 116], [48], [48], [97, 117, 116, 104], [45]] rfl rfl) ?_
  refine O_call (tell_c [[51], [111, 117, 116], [48], [48], [97, 117, 116, 104], [45]] (by decide) (by decide)) (by rfl) (by rfl) (by rfl) (by rfl) (fun r hr => ?_)
  subst hr
  repeat (first | refine sc rfl ?_ | refine so rfl ?_)
  exact ⟨_, [], _, rfl, pickA_perm (is := []) (As := []) rfl, rfl, rfl, rfl⟩
theorem evDeliv_W (s mg tm : Nat) (now : Int) (g cc b h2 h d : Nat) (hd : 1 ≤ d) : FnK 25 [PT s 0, .s [51], .agg (Evt.c ⟨6, 0, 0, []⟩)] (srvL3 s mg tm now g cc b 2 (-1) (HD h 1 d) ++ [outA (HD h 1 d) rb, tenM tm h2]) (fun r cs' => r = .s lnE3 ∧ cs' = []) := by
  refine FnW.intro Tryz.tabOK Tryz.wide_ Tryz.func25 rfl (by decide) rfl (fun X hK => ?_)
  repeat (first | refine sc rfl ?_ | refine so rfl ?_)
  refine C_false rfl (by decide) ?_
  repeat (first | refine sc rfl ?_ | refine so rfl ?_)
  refine C_true rfl (by decide) ?_
  repeat (first | refine sc rfl ?_ | refine so rfl ?_)
  refine O_callW hK [1, 1, 1, 1, 1] (delivD_W s mg tm now g cc b h2 h d hd) (by rfl) (by rfl) (by rfl) (by rfl) (by rfl) ?_
  rintro r' cs' ⟨rfl, rfl⟩
  repeat (first | refine sc rfl ?_ | refine so rfl ?_)
  exact ⟨_, [], _, rfl, pickA_perm (is := []) (As := []) rfl, rfl, rfl, rfl⟩
end Go.Proofs

namespace Go.Proofs
open Go.Sy Go.Lib

theorem newT_A : FnA Tryz.prog 55 [] [] (fun r cs' => ∃ t, r = PT t 0 ∧ cs' = [tlA t (fun _ => 0)]) := by
  refine FnA.intro Tryz.tabOK Tryz.wide_ Tryz.func55 rfl (by decide) rfl (fun X => ?_)
  iterate 8 (first|refine sc rfl ?_|refine so rfl ?_|refine sb rfl ?_)
  refine O_absb 2 rfl rfl rfl (fun t => ?_)
  repeat (first|refine sc rfl ?_|refine so rfl ?_|refine sb rfl ?_)
  exact ⟨_, [_], _, rfl, pickA_perm (is := [0]) (As := [_]) rfl, rfl, t, rfl, rfl⟩
theorem rowsOpen_A (s mg tm : Nat) (now : Int) : FnA Tryz.prog 101 [PT s 0, I64 0, .agg (Evt.c ⟨1, 0, 0, []⟩)] [srvL s mg tm now (.slice none 0 0)] (fun x cs' => ∃ g cc b, x = NS ∧ cs' = srvL3 s mg tm now g cc b 0 (-1) (.slice none 0 0)) := by
  refine FnA.intro Tryz.tabOK Tryz.wide_ Tryz.func101 rfl (by decide) rfl (fun X => ?_)
  repeat (first|refine sc rfl ?_|refine so rfl ?_|refine sb rfl ?_)
  refine C_true rfl rfl ?_
  repeat (first|refine sc rfl ?_|refine so rfl ?_|refine sb rfl ?_)
  first
    | refine O_callA [0] (sOpen_A s mg tm now) (by rfl) (by rfl) (by rfl) (by rfl) (by rfl) ?_
    | refine O_callA [1] (sOpen_A s mg tm now) (by rfl) (by rfl) (by rfl) (by rfl) (by rfl) ?_
    | refine O_callA [2] (sOpen_A s mg tm now) (by rfl) (by rfl) (by rfl) (by rfl) (by rfl) ?_
    | refine O_callA [3] (sOpen_A s mg tm now) (by rfl) (by rfl) (by rfl) (by rfl) (by rfl) ?_
    | refine O_callA [4] (sOpen_A s mg tm now) (by rfl) (by rfl) (by rfl) (by rfl) (by rfl) ?_
  rintro r' cs' ⟨g, cc, b, rfl, rfl⟩
  repeat (first|refine sc rfl ?_|refine so rfl ?_|refine sb rfl ?_)
  exact ⟨_, [_, _, _], _, rfl, pickA_perm (is := [0, 0, 0]) (As := [_, _, _]) rfl, rfl, g, cc, b, rfl, rfl⟩
theorem rowsDel_A (s mg tm : Nat) (now : Int) (g cc b h2 h d : Nat) (hd : 1 ≤ d) : FnA Tryz.prog 101 [PT s 0, I64 2, .agg (Evt.c ⟨6, 0, 0, []⟩)] (srvL3 s mg tm now g cc b 2 (-1) (HD h 1 d) ++ [outA (HD h 1 d) rb, tenM tm h2]) (fun r cs' => r = NS ∧ cs' = []) := by
  refine FnA.intro Tryz.tabOK Tryz.wide_ Tryz.func101 rfl (by decide) rfl (fun X => ?_)
  iterate 6
    repeat (first|refine sc rfl ?_|refine so rfl ?_|refine sb rfl ?_)
    first
      | refine C_true rfl rfl ?_
      | refine C_false rfl rfl ?_
      | skip
  repeat (first|refine sc rfl ?_|refine so rfl ?_|refine sb rfl ?_)
  first
    | refine O_callA [0, 0, 0, 0, 0] (sDel1_A s mg tm now g cc b h2 h d hd rb) (by rfl) (by rfl) (by rfl) (by rfl) (by rfl) ?_
    | refine O_callA [1, 1, 1, 1, 1] (sDel1_A s mg tm now g cc b h2 h d hd rb) (by rfl) (by rfl) (by rfl) (by rfl) (by rfl) ?_
  rintro r' cs' ⟨a, c, rfl, rfl⟩
  repeat (first|refine sc rfl ?_|refine so rfl ?_|refine sb rfl ?_)
  exact ⟨_, [], _, rfl, pickA_perm (is := []) (As := []) rfl, rfl, rfl, rfl⟩
theorem rowsRecv_A (s mg tm : Nat) (now : Int) (g cc b : Nat) : FnA Tryz.prog 101 [PT s 0, I64 1, .agg (Evt.c ⟨2, 0, 0, [5, 0, 0, 0]⟩)] (srvL3 s mg tm now g cc b 0 (-1) (.slice none 0 0)) (fun r cs' => ∃ h d, 1 ≤ d ∧ r = SL 8 Rw.c [⟨1, 1, nteP⟩] ∧ cs' = srvL3 s mg tm now g cc b 2 (-1) (HD h 1 d) ++ [outA (HD h 1 d) (rfail 0 16)]) := by
  refine FnA.intro Tryz.tabOK Tryz.wide_ Tryz.func101 rfl (by decide) rfl (fun X => ?_)
  repeat (first|refine sc rfl ?_|refine so rfl ?_|refine sb rfl ?_)
  refine C_false rfl rfl ?_
  repeat (first|refine sc rfl ?_|refine so rfl ?_|refine sb rfl ?_)
  refine C_true rfl rfl ?_
  repeat (first|refine sc rfl ?_|refine so rfl ?_|refine sb rfl ?_)
  first
    | refine O_callA [0, 0, 0] (recv_A s mg tm now g cc b) (by rfl) (by rfl) (by rfl) (by rfl) (by rfl) ?_
    | refine O_callA [1, 1, 1] (recv_A s mg tm now g cc b) (by rfl) (by rfl) (by rfl) (by rfl) (by rfl) ?_
  rintro r' cs' ⟨h, d, hd, rfl, rfl⟩
  refine O_le _ (Le.nilvec Rw.c 7 42 134 8 rfl rfl rfl) ?_
  repeat (first|refine sc rfl ?_|refine so rfl ?_|refine sb rfl ?_)
  refine C_loop (fun i : Nat => ⟨[(1, I64 1), (7, .own 42), (31, SL 6 Nte.c [nteP]), (32, I64 1), (33, I64 (i : Nat))], VEC 42 134 8 Rw.c (([⟨1, 1, nteP⟩] : List Rw).take i) :: (srvL3 s mg tm now g cc b 2 (-1) (HD h 1 d) ++ [outA (HD h 1 d) (rfail 0 16)]).map Ch.abs⟩) (fun i => i ≤ 1) (fun i => 1 - i) 0 (Nat.zero_le _) ?_ ?_
  · exact Le.pick [0, 0, 0, 0, 0] ⟨rfl, rfl, rfl, rfl, rfl, trivial⟩ rfl
  intro i hi
  repeat (first|refine sc rfl ?_|refine so rfl ?_|refine sb rfl ?_)
  refine C_if rfl (fun k1 => ?_) (fun k1 => ?_) <;> simp only [pL] at k1
  · obtain rfl : i = 0 := by omega
    repeat (first|refine sc rfl ?_|refine so rfl ?_|refine sb rfl ?_)
    refine ⟨by decide, ?_⟩
    repeat (first|refine sc rfl ?_|refine so rfl ?_|refine sb rfl ?_)
    refine O_push Rw.c [] ⟨1, 1, nteP⟩ [(1, I64 1), (31, SL 6 Nte.c [nteP]), (32, I64 1), (33, I64 ((0 : Nat) : Int))] rfl rfl rfl rfl rfl rfl rfl rfl rfl rfl ⟨rfl, rfl, rfl, rfl, trivial⟩ rfl rfl (by decide) (by decide) ?_
    repeat (first|refine sc rfl ?_|refine so rfl ?_|refine sb rfl ?_)
    refine ⟨1, Nat.le_refl _, by decide, ?_⟩
    first
      | exact Le.pick [0, 0, 0, 0, 0] ⟨rfl, rfl, rfl, rfl, rfl, trivial⟩ rfl
      | exact Le.pick [0, 1, 1, 1, 1] ⟨rfl, rfl, rfl, rfl, rfl, trivial⟩ rfl
      | exact Le.pick [0, 2, 2, 2, 2] ⟨rfl, rfl, rfl, rfl, rfl, trivial⟩ rfl
  · obtain rfl : i = 1 := by omega
    show SymC _ _ _ ⟨_, VEC 42 134 8 Rw.c ([⟨1, 1, nteP⟩] : List Rw) :: (srvL3 s mg tm now g cc b 2 (-1) (HD h 1 d) ++ [outA (HD h 1 d) (rfail 0 16)]).map Ch.abs⟩ _
    refine C_le _ (Le.freezeL (l := ([⟨1, 1, nteP⟩] : List Rw)) (cells := Rw.c) 7 rfl rfl) ?_
    repeat (first|refine sc rfl ?_|refine so rfl ?_|refine sb rfl ?_)
    exact ⟨_, [_, _, _, _], _, rfl, pickA_perm (is := [0, 0, 0, 0]) (As := [_, _, _, _]) rfl, rfl, h, d, hd, rfl, rfl⟩
end Go.Proofs

namespace Go.Proofs
open Go.Sy Go.Lib

def ouV (x : Ou) : Array Value := #[.int .i64 x.fat, .int .i64 x.conn, S x.bytes, .bool x.closed]
theorem rep_ou (m : Ou) (e : Env) (ys : List Value) (h : RepL e (Ou.c m) ys) : ys = (ouV m).toList := by
  simp only [Ou.c, RepL, Rep] at h
  obtain ⟨z1, t1, rfl, rfl, _, z2, t2, rfl, rfl, _, z3, t3, rfl, rfl, _, z4, t4, rfl, rfl, _, rfl⟩ := h
  rfl
theorem eq_ou (m : Ou) (w : World) : (Op.equalIn 10000 139 (.agg (ouV m)) (.agg (ouV m))).run Tryz.prog w = .ok true w := by
  rw [run_equalIn_struct w 9999 139 _ _ Tryz.underlying139 Tryz.stoodInHeld139]
  unfold Program.fieldsOf
  rw [Tryz.underlying139]
  have p0 : (part 3 (ouV m) 0).run Tryz.prog w = .ok (.int .i64 m.fat) w := by simp [part, isAgg, run_underlying Tryz.underlying3, ouV]
  have p1 : (part 3 (ouV m) 1).run Tryz.prog w = .ok (.int .i64 m.conn) w := by simp [part, isAgg, run_underlying Tryz.underlying3, ouV]
  have p2 : (part 9 (ouV m) 2).run Tryz.prog w = .ok (S m.bytes) w := by simp [part, isAgg, run_underlying Tryz.underlying9, ouV]
  have p3 : (part 4 (ouV m) 3).run Tryz.prog w = .ok (.bool m.closed) w := by simp [part, isAgg, run_underlying Tryz.underlying4, ouV]
  have e0 : ∀ k, (Op.equalIn 9999 3 (.int .i64 k) (.int .i64 k)).run Tryz.prog w = .ok true w := fun k => by rw [run_equalIn_int w 9998 3 .i64 .i64 _ _ Tryz.underlying3]; simp
  have e1 : ∀ l, (Op.equalIn 9999 9 (S l) (S l)).run Tryz.prog w = .ok true w := fun l => by unfold S; rw [run_equalIn_string w 9998 9 _ _ Tryz.underlying9]; simp
  have e2 : ∀ k, (Op.equalIn 9999 4 (.bool k) (.bool k)).run Tryz.prog w = .ok true w := fun k => by rw [run_equalIn_bool w 9998 4 _ _ Tryz.underlying4]; simp
  simp only [Op.eqFields]
  rw [if_pos (by decide), if_pos (by decide), if_pos (by decide), if_pos (by decide)]
  simp [Sem.run_bind, p0, p1, p2, p3, e0, e1, e2]
theorem eq_ouN (w : World) : (Op.equalIn 10000 139 (.agg (ouV ⟨2, 0, rb, false⟩)) (.agg (ouV ⟨2, 0, [], false⟩))).run Tryz.prog w = .ok false w := by
  rw [run_equalIn_struct w 9999 139 _ _ Tryz.underlying139 Tryz.stoodInHeld139]
  unfold Program.fieldsOf
  rw [Tryz.underlying139]
  have p0 : ∀ m : Ou, (part 3 (ouV m) 0).run Tryz.prog w = .ok (.int .i64 m.fat) w := fun m => by simp [part, isAgg, run_underlying Tryz.underlying3, ouV]
  have p1 : ∀ m : Ou, (part 3 (ouV m) 1).run Tryz.prog w = .ok (.int .i64 m.conn) w := fun m => by simp [part, isAgg, run_underlying Tryz.underlying3, ouV]
  have p2 : ∀ m : Ou, (part 9 (ouV m) 2).run Tryz.prog w = .ok (S m.bytes) w := fun m => by simp [part, isAgg, run_underlying Tryz.underlying9, ouV]
  have p3 : ∀ m : Ou, (part 4 (ouV m) 3).run Tryz.prog w = .ok (.bool m.closed) w := fun m => by simp [part, isAgg, run_underlying Tryz.underlying4, ouV]
  have e0 : ∀ k, (Op.equalIn 9999 3 (.int .i64 k) (.int .i64 k)).run Tryz.prog w = .ok true w := fun k => by rw [run_equalIn_int w 9998 3 .i64 .i64 _ _ Tryz.underlying3]; simp
  have e1 : (Op.equalIn 9999 9 (S rb) (S [])).run Tryz.prog w = .ok false w := by unfold S; rw [run_equalIn_string w 9998 9 _ _ Tryz.underlying9, toList_mk, show (({ data := #[] } : ByteArray)).toList = [] from toList_mk []]; rfl
  simp only [Op.eqFields]
  rw [if_pos (by decide), if_pos (by decide), if_pos (by decide), if_pos (by decide)]
  simp [Sem.run_bind, p0, p1, p2, p3, e0, e1]
theorem playOpen_A (s mg tm : Nat) (now : Int) : FnA Tryz.prog 58 [PT s 0, I64 0, .agg (Evt.c ⟨1, 0, 0, []⟩)] [srvL s mg tm now (.slice none 0 0)] (fun x cs' => ∃ g cc b, x = NS ∧ cs' = srvL3 s mg tm now g cc b 0 (-1) (.slice none 0 0)) := by
  refine FnA.intro Tryz.tabOK Tryz.wide_ Tryz.func58 rfl (by decide) rfl (fun X => ?_)
  repeat (first | refine sc rfl ?_ | refine so rfl ?_)
  refine C_true rfl rfl ?_
  repeat (first | refine sc rfl ?_ | refine so rfl ?_)
  first
    | refine O_callA [0] (sOpen_A s mg tm now) (by rfl) (by rfl) (by rfl) (by rfl) (by rfl) ?_
    | refine O_callA [1] (sOpen_A s mg tm now) (by rfl) (by rfl) (by rfl) (by rfl) (by rfl) ?_
    | refine O_callA [2] (sOpen_A s mg tm now) (by rfl) (by rfl) (by rfl) (by rfl) (by rfl) ?_
    | refine O_callA [3] (sOpen_A s mg tm now) (by rfl) (by rfl) (by rfl) (by rfl) (by rfl) ?_
  rintro r' cs' ⟨g, cc, b, rfl, rfl⟩
  repeat (first | refine sc rfl ?_ | refine so rfl ?_)
  refine O_Xd (X_aggC (us := ouV ⟨0, 0, [], false⟩) (vs := ouV ⟨0, 0, [], false⟩) (b := true) (op := .eql) (fun e ys h => rep_ou _ e ys h) (fun e ys h => rep_ou _ e ys h) (fun w => eq_ou _ w) Tryz.eqGuardType139 (.inl rfl) rfl rfl rfl rfl) ?_
  repeat refine so rfl ?_
  refine C_true rfl rfl ?_
  repeat (first | refine sc rfl ?_ | refine so rfl ?_)
  exact ⟨_, [_, _, _], _, rfl, pickA_perm (is := [0, 0, 0]) (As := [_, _, _]) rfl, rfl, g, cc, b, rfl, rfl⟩
theorem playRecv_A (s mg tm : Nat) (now : Int) (g cc b : Nat) : FnA Tryz.prog 58 [PT s 0, I64 1, .agg (Evt.c ⟨2, 0, 0, [5, 0, 0, 0]⟩)] (srvL3 s mg tm now g cc b 0 (-1) (.slice none 0 0)) (fun r cs' => ∃ h d, 1 ≤ d ∧ r = NS ∧ cs' = srvL3 s mg tm now g cc b 2 (-1) (HD h 1 d) ++ [outA (HD h 1 d) (rfail 0 16)]) := by
  refine FnA.intro Tryz.tabOK Tryz.wide_ Tryz.func58 rfl (by decide) rfl (fun X => ?_)
  repeat (first | refine sc rfl ?_ | refine so rfl ?_)
  refine C_false rfl rfl ?_
  repeat (first | refine sc rfl ?_ | refine so rfl ?_)
  refine C_true rfl rfl ?_
  repeat (first | refine sc rfl ?_ | refine so rfl ?_)
  first
    | refine O_callA [0, 0, 0] (recv_A s mg tm now g cc b) (by rfl) (by rfl) (by rfl) (by rfl) (by rfl) ?_
    | refine O_callA [1, 1, 1] (recv_A s mg tm now g cc b) (by rfl) (by rfl) (by rfl) (by rfl) (by rfl) ?_
    | refine O_callA [2, 2, 2] (recv_A s mg tm now g cc b) (by rfl) (by rfl) (by rfl) (by rfl) (by rfl) ?_
    | refine O_callA [3, 3, 3] (recv_A s mg tm now g cc b) (by rfl) (by rfl) (by rfl) (by rfl) (by rfl) ?_
  rintro r' cs' ⟨h, d, hd, rfl, rfl⟩
  repeat (first | refine sc rfl ?_ | refine so rfl ?_)
  refine O_Xd (X_aggC (us := ouV ⟨1, 0, [], false⟩) (vs := ouV ⟨1, 0, [], false⟩) (b := true) (op := .eql) (fun e ys h => rep_ou _ e ys h) (fun e ys h => rep_ou _ e ys h) (fun w => eq_ou _ w) Tryz.eqGuardType139 (.inl rfl) rfl rfl rfl rfl) ?_
  repeat refine so rfl ?_
  refine C_true rfl rfl ?_
  repeat (first | refine sc rfl ?_ | refine so rfl ?_)
  exact ⟨_, [_, _, _, _], _, rfl, pickA_perm (is := [0, 0, 0, 0]) (As := [_, _, _, _]) rfl, rfl, h, d, hd, rfl, rfl⟩
abbrev ou3 : Ou := ⟨2, 0, rb, false⟩
theorem playDel_A (s mg tm : Nat) (now : Int) (g cc b h2 h d : Nat) (hd : 1 ≤ d) : FnA Tryz.prog 58 [PT s 0, I64 2, .agg (Evt.c ⟨6, 0, 0, []⟩)] (srvL3 s mg tm now g cc b 2 (-1) (HD h 1 d) ++ [outA (HD h 1 d) rb, tenM tm h2]) (fun r cs' => r = SL 4 Ou.c [ou3] ∧ cs' = []) := by
  refine FnA.intro Tryz.tabOK Tryz.wide_ Tryz.func58 rfl (by decide) rfl (fun X => ?_)
  iterate 6
    repeat (first | refine sc rfl ?_ | refine so rfl ?_)
    refine C_false rfl rfl ?_
  repeat (first | refine sc rfl ?_ | refine so rfl ?_)
  refine C_true rfl rfl ?_
  repeat (first | refine sc rfl ?_ | refine so rfl ?_)
  first
    | refine O_callA [0, 0, 0, 0, 0] (sDel1_A s mg tm now g cc b h2 h d hd rb) (by rfl) (by rfl) (by rfl) (by rfl) (by rfl) ?_
    | refine O_callA [1, 1, 1, 1, 1] (sDel1_A s mg tm now g cc b h2 h d hd rb) (by rfl) (by rfl) (by rfl) (by rfl) (by rfl) ?_
    | refine O_callA [2, 2, 2, 2, 2] (sDel1_A s mg tm now g cc b h2 h d hd rb) (by rfl) (by rfl) (by rfl) (by rfl) (by rfl) ?_
    | refine O_callA [3, 3, 3, 3, 3] (sDel1_A s mg tm now g cc b h2 h d hd rb) (by rfl) (by rfl) (by rfl) (by rfl) (by rfl) ?_
  rintro r' cs' ⟨a, c, rfl, rfl⟩
  repeat (first | refine sc rfl ?_ | refine so rfl ?_)
  refine O_Xd (X_aggC (us := ouV ⟨2, 0, rb, false⟩) (vs := ouV ⟨2, 0, [], false⟩) (b := false) (op := .eql) (fun e ys h => rep_ou _ e ys h) (fun e ys h => rep_ou _ e ys h) (fun w => eq_ouN w) Tryz.eqGuardType139 (.inl rfl) rfl rfl rfl rfl) ?_
  repeat refine so rfl ?_
  refine C_false rfl rfl ?_
  repeat refine sc rfl ?_
  iterate 2 (first|refine so rfl ?_|refine sb rfl ?_)
  refine O_le _ (Le.vecrow (k := 64) 1 (fun i => Ou.c (([ou3] : List Ou).getD i default)) rfl rfl (fun i hi => ?_)) ?_
  · have hi' : i < 1 := hi
    obtain rfl : i = 0 := by omega
    rfl
  refine O_le _ (Le.freezeL (l := [ou3]) (cells := Ou.c) 64 rfl rfl) ?_
  repeat (first | refine sc rfl ?_ | refine so rfl ?_)
  exact ⟨_, [], _, rfl, pickA_perm (is := []) (As := []) rfl, rfl, rfl, rfl⟩
end Go.Proofs

namespace Go.Proofs
open Go.Sy Go.Lib

abbrev rdT (y : Sht × Int × Nat) : AV := .tup [.agg [U64 (y.1.key : Nat), SL 4 Evt.c y.1.evs, SL 1 INTc y.1.lns], .agg [I64 y.2.1, I64 (y.2.2 : Nat)]]
theorem Read_P (s : List UInt8) (hs : s.length ≤ 100000) (hn : s.count 10 ≤ 1000) : FnP Tryz.prog 8 [.s s] (· = rdT (readS s)) := by
  refine FnA.frz2 (Read_A s hs hn) (fun r cs' ⟨h1, h2, _, _, hr, hc⟩ => ⟨h1, h2, hc, fun G v hv k1 k2 => ?_⟩)
  subst hr
  simp only [RepI, RepIT] at hv
  obtain ⟨ys, rfl, z1, t1, e1, ⟨y1, rfl, q1⟩, z2, t2, rfl, ⟨y2, rfl, q2⟩, rfl⟩ := hv
  simp only [RepIL] at q1
  obtain ⟨a1, b1, e2, r1, o1, a2, b2, rfl, r2, o2, a3, b3, rfl, r3, o3, rfl⟩ := q1
  simp only [RepI] at r2 r3
  subst r2; subst r3
  have hg : RepIL G [U64 ((readS s).1.key : Nat), SL 4 Evt.c (readS s).1.evs, SL 1 INTc (readS s).1.lns] y1.toList := by
    simp only [RepIL]
    exact ⟨a1, _, e2, r1, o1, _, _, rfl, k1, o2, _, _, rfl, k2, o3, rfl⟩
  show RepI G (.tup [.agg [U64 ((readS s).1.key : Nat), SL 4 Evt.c (readS s).1.evs, SL 1 INTc (readS s).1.lns], .agg [I64 (readS s).2.1, I64 ((readS s).2.2 : Nat)]]) (.tuple ys)
  rw [RepI]
  refine ⟨ys, rfl, ?_⟩
  rw [RepIT]
  refine ⟨_, _, e1, ?_, ?_⟩
  · rw [RepI]; exact ⟨y1, rfl, hg⟩
  · rw [RepIT]
    refine ⟨_, _, rfl, ?_, ?_⟩
    · rw [RepI]; exact ⟨y2, rfl, q2⟩
    · rw [RepIT]
end Go.Proofs

namespace Go.Proofs
open Go.Sy Go.Lib

abbrev evs3 : List Evt := [⟨1, 0, 0, []⟩, ⟨2, 0, 0, [5, 0, 0, 0]⟩, ⟨6, 0, 0, []⟩]
abbrev rws3 : List Rw := [⟨1, 1, nteP⟩]
structure Par where
  i : Nat
  g : Nat
  cc : Nat
  b : Nat
  h : Nat
  d : Nat
def stg (s mg tm h2 : Nat) (p : Par) : List Abs := match p.i with
  | 0 => [srvL s mg tm 0 (.slice none 0 0), tenM tm h2]
  | 1 => srvL3 s mg tm 0 p.g p.cc p.b 0 (-1) (.slice none 0 0) ++ [tenM tm h2]
  | 2 => srvL3 s mg tm 0 p.g p.cc p.b 2 (-1) (HD p.h 1 p.d) ++ [outA (HD p.h 1 p.d) rb, tenM tm h2]
  | _ => []
theorem src_nil {X : Ctx Tryz.prog Tryz.tab} {n : Nat} {s : List (Nat × AV)} {c : List Ch} {xo : Operand} {esz : Nat} {row2 : Nat → List AV} (hx : opd s xo = some NS) : ∀ e a w, Rel X n e ⟨s, c⟩ a w → (∃ ad cc news, a.eval xo = .slice (some ad) 0 cc ∧ news.length = 0 * esz ∧ (∀ (j : Nat) (u : Value), news[j]? = some u → w.cell? (ad.add j) = some u) ∧ (∀ u ∈ news, u.oneCell' = true) ∧ RowsL e.G esz 0 row2 news) ∨
      (0 = 0 ∧ ∃ cc, a.eval xo = .slice none 0 cc) := fun e a w r => by
  have := opd_sound r hx
  simp only [Rep] at this
  exact .inr ⟨rfl, 0, this⟩
theorem traceOf3_A : FnA Tryz.prog 56 [U64 0, SL 4 Evt.c evs3] [] (fun r cs' => r = SL 8 Rw.c rws3 ∧ cs' = []) := by
  refine FnA.intro Tryz.tabOK Tryz.wide_ Tryz.func56 rfl (by decide) rfl (fun X => ?_)
  repeat (first | refine sc rfl ?_ | refine so rfl ?_)
  refine O_callA [] (srvNew_A 0) (by rfl) (by rfl) (by rfl) (by rfl) (by rfl) ?_
  rintro r' cs' ⟨s, mg, tm, h2, g0, c0, d0, rfl, rfl⟩
  repeat (first | refine sc rfl ?_ | refine so rfl ?_)
  refine ⟨by decide, ?_⟩
  repeat (first | refine sc rfl ?_ | refine so rfl ?_)
  refine C_le _ (Le.nilvec Rw.c 6 27 134 8 rfl rfl rfl) ?_
  refine C_loop (fun p : Par => ⟨[(5, PT s 0), (6, .own 27), (15, SL 4 Evt.c evs3), (16, I64 ((3 : Nat) : Int)), (17, I64 (p.i : Nat))], VEC 27 134 8 Rw.c (rws3.take (p.i - 1)) :: (stg s mg tm h2 p).map Ch.abs⟩) (fun p => p.i ≤ 3 ∧ 1 ≤ p.d) (fun p => 3 - p.i) ⟨0, 0, 0, 0, 0, 1⟩ ⟨Nat.zero_le _, Nat.le_refl _⟩ ?_ ?_
  · exact Le.pick [0, 0, 0] ⟨rfl, rfl, rfl, rfl, rfl, trivial⟩ rfl
  rintro ⟨i, g, cc, b, h, d⟩ ⟨hi, hd⟩
  simp only [] at hi hd ⊢
  repeat (first | refine sc rfl ?_ | refine so rfl ?_)
  refine C_if rfl (fun k1 => ?_) (fun k1 => ?_) <;> simp only [pL] at k1
  · have hil : i = 0 ∨ i = 1 ∨ i = 2 := by omega
    rcases hil with rfl | rfl | rfl
    · repeat (first | refine sc rfl ?_ | refine so rfl ?_)
      refine ⟨by decide, ?_⟩
      repeat (first | refine sc rfl ?_ | refine so rfl ?_)
      refine O_callA [2] (rowsOpen_A s mg tm 0) (by rfl) (by rfl) (by rfl) (by rfl) (by rfl) ?_
      rintro r' cs' ⟨g, cc, b, rfl, rfl⟩
      repeat refine sc rfl ?_
      refine O_append (m2 := 0) (m3 := 0) (row2 := fun j => Rw.c (rws3.getD j default)) (row3 := fun j => Rw.c ((rws3.take (1 - 1)).getD j default)) (s2 := [(5, PT s 0), (15, SL 4 Evt.c evs3), (16, I64 ((3 : Nat) : Int)), (17, I64 ((0 : Nat) : Int))]) rfl rfl rfl rfl rfl (src_nil rfl) rfl ⟨rfl, rfl, rfl, rfl, trivial⟩ rfl rfl (by decide) (by decide) rfl (fun j hj => ?_) ?_
      · omega
      repeat (first | refine sc rfl ?_ | refine so rfl ?_)
      refine ⟨⟨1, g, cc, b, 0, 1⟩, ⟨by show 1 ≤ 3; decide, Nat.le_refl _⟩, by show 3 - 1 < 3 - 0; decide, ?_⟩
      exact Le.pick [0, 0, 0, 0, 1] ⟨rfl, rfl, rfl, rfl, rfl, trivial⟩ rfl
    · repeat (first | refine sc rfl ?_ | refine so rfl ?_)
      refine ⟨by decide, ?_⟩
      repeat (first | refine sc rfl ?_ | refine so rfl ?_)
      refine O_callA [2, 2, 2] (rowsRecv_A s mg tm 0 g cc b) (by rfl) (by rfl) (by rfl) (by rfl) (by rfl) ?_
      rintro r' cs' ⟨h, d, hd, rfl, rfl⟩
      repeat refine sc rfl ?_
      refine O_append (m2 := 1) (m3 := 1) (row2 := fun j => Rw.c (rws3.getD j default)) (row3 := fun j => Rw.c ((rws3.take (2 - 1)).getD j default)) (s2 := [(5, PT s 0), (15, SL 4 Evt.c evs3), (16, I64 ((3 : Nat) : Int)), (17, I64 ((1 : Nat) : Int))]) rfl rfl rfl rfl rfl (src_sl rfl (fun j _ => rfl)) rfl ⟨rfl, rfl, rfl, rfl, trivial⟩ rfl rfl (by decide) (by decide) rfl (fun j hj => ?_) ?_
      · obtain rfl : j = 0 := by omega
        rfl
      repeat (first | refine sc rfl ?_ | refine so rfl ?_)
      rw [rb_eq]
      refine ⟨⟨2, g, cc, b, h, d⟩, ⟨by show 2 ≤ 3; decide, hd⟩, by show 3 - 2 < 3 - 1; decide, ?_⟩
      exact Le.pick [0, 0, 0, 0, 0, 1] ⟨rfl, rfl, rfl, rfl, rfl, trivial⟩ rfl
    · repeat (first | refine sc rfl ?_ | refine so rfl ?_)
      refine ⟨by decide, ?_⟩
      repeat (first | refine sc rfl ?_ | refine so rfl ?_)
      refine O_callA [2, 2, 2, 2, 2] (rowsDel_A s mg tm 0 g cc b h2 h d hd) (by rfl) (by rfl) (by rfl) (by rfl) (by rfl) ?_
      rintro r' cs' ⟨rfl, rfl⟩
      repeat refine sc rfl ?_
      refine O_append (m2 := 0) (m3 := 1) (row2 := fun j => Rw.c (rws3.getD j default)) (row3 := fun j => Rw.c ((rws3.take (3 - 1)).getD j default)) (s2 := [(5, PT s 0), (15, SL 4 Evt.c evs3), (16, I64 ((3 : Nat) : Int)), (17, I64 ((2 : Nat) : Int))]) rfl rfl rfl rfl rfl (src_nil rfl) rfl ⟨rfl, rfl, rfl, rfl, trivial⟩ rfl rfl (by decide) (by decide) rfl (fun j hj => ?_) ?_
      · obtain rfl : j = 0 := by omega
        rfl
      repeat (first | refine sc rfl ?_ | refine so rfl ?_)
      refine ⟨⟨3, 0, 0, 0, 0, 1⟩, ⟨by show 3 ≤ 3; decide, Nat.le_refl _⟩, by show 3 - 3 < 3 - 2; decide, ?_⟩
      exact Le.pick [0] ⟨rfl, rfl, rfl, rfl, rfl, trivial⟩ rfl
  · obtain rfl : i = 3 := by omega
    refine C_le _ (Le.freezeL (l := rws3) (cells := Rw.c) 6 rfl rfl) ?_
    repeat (first | refine sc rfl ?_ | refine so rfl ?_)
    exact ⟨_, [], _, rfl, pickA_perm (is := []) (As := []) rfl, rfl, rfl, rfl⟩

def fE3 : Nat → Int := rowT (fun _ => 0) ⟨1, 1, nteP⟩
def fE4 : Nat → Int := outT fE3 ou3
theorem tallyOf3_A : FnA Tryz.prog 27 [U64 0, SL 4 Evt.c evs3] [] (fun r cs' => ∃ t, r = PT t 0 ∧ cs' = [tlA t fE4]) := by
  refine FnA.intro Tryz.tabOK Tryz.wide_ Tryz.func27 rfl (by decide) rfl (fun X => ?_)
  repeat (first | refine sc rfl ?_ | refine so rfl ?_)
  refine O_callA [] newT_A (by rfl) (by rfl) (by rfl) (by rfl) (by rfl) ?_
  rintro r' cs' ⟨t, rfl, rfl⟩
  repeat (first | refine sc rfl ?_ | refine so rfl ?_)
  refine O_callA [] traceOf3_A (by rfl) (by rfl) (by rfl) (by rfl) (by rfl) ?_
  rintro r' cs' ⟨rfl, rfl⟩
  repeat (first | refine sc rfl ?_ | refine so rfl ?_)
  refine C_loop (fun i : Nat => ⟨[(0, U64 0), (1, SL 4 Evt.c evs3), (5, PT t 0), (16, SL 8 Rw.c rws3), (17, I64 ((1 : Nat) : Int)), (18, I64 (i : Nat))], [.abs (tlA t (if i = 0 then fun _ => 0 else fE3))]⟩) (fun i => i ≤ 1) (fun i => 1 - i) 0 (Nat.zero_le _) (Le.pick [0] ⟨rfl, rfl, rfl, rfl, rfl, rfl, trivial⟩ rfl) ?_
  intro i hi
  repeat (first | refine sc rfl ?_ | refine so rfl ?_)
  refine C_if rfl (fun k1 => ?_) (fun k1 => ?_) <;> simp only [pL] at k1
  · obtain rfl : i = 0 := by omega
    rw [if_pos rfl]
    repeat (first | refine sc rfl ?_ | refine so rfl ?_)
    refine ⟨by decide, ?_⟩
    repeat (first | refine sc rfl ?_ | refine so rfl ?_)
    refine O_callA [1] (row_A t (fun _ => 0) ⟨1, 1, nteP⟩) (by rfl) (by rfl) (by rfl) (by rfl) (by rfl) ?_
    rintro r' cs' ⟨rfl, rfl⟩
    repeat (first | refine sc rfl ?_ | refine so rfl ?_)
    refine ⟨0 + 1, by decide, by decide, ?_⟩
    exact Le.pick [0] ⟨rfl, rfl, rfl, rfl, rfl, rfl, trivial⟩ rfl
  · obtain rfl : i = 1 := by omega
    rw [if_neg (by decide)]
    repeat (first | refine sc rfl ?_ | refine so rfl ?_)
    refine O_callA [] (srvNew_A 0) (by rfl) (by rfl) (by rfl) (by rfl) (by rfl) ?_
    rintro r' cs' ⟨s, mg, tm, h2, g0, c0, d0, rfl, rfl⟩
    repeat (first | refine sc rfl ?_ | refine so rfl ?_)
    refine ⟨by decide, ?_⟩
    repeat (first | refine sc rfl ?_ | refine so rfl ?_)
    refine C_loop (fun p : Par => ⟨[(5, PT t 0), (8, PT s 0), (32, SL 4 Evt.c evs3), (33, I64 ((3 : Nat) : Int)), (34, I64 (p.i : Nat))], .abs (tlA t (if p.i = 3 then fE4 else fE3)) :: (stg s mg tm h2 p).map Ch.abs⟩) (fun p => p.i ≤ 3 ∧ 1 ≤ p.d) (fun p => 3 - p.i) ⟨0, 0, 0, 0, 0, 1⟩ ⟨Nat.zero_le _, Nat.le_refl _⟩ ?_ ?_
    · exact Le.pick [6, 0, 0] ⟨rfl, rfl, rfl, rfl, rfl, trivial⟩ rfl
    rintro ⟨i, g, cc, b, h, d⟩ ⟨hi, hd⟩
    simp only [] at hi hd ⊢
    repeat (first | refine sc rfl ?_ | refine so rfl ?_)
    refine C_if rfl (fun k2 => ?_) (fun k2 => ?_) <;> simp only [pL] at k2
    · have hil : i = 0 ∨ i = 1 ∨ i = 2 := by omega
      rcases hil with rfl | rfl | rfl
      · rw [if_neg (by decide)]
        repeat (first | refine sc rfl ?_ | refine so rfl ?_)
        refine ⟨by decide, ?_⟩
        repeat (first | refine sc rfl ?_ | refine so rfl ?_)
        refine O_callA [2] (playOpen_A s mg tm 0) (by rfl) (by rfl) (by rfl) (by rfl) (by rfl) ?_
        rintro r' cs' ⟨g, cc, b, rfl, rfl⟩
        repeat (first | refine sc rfl ?_ | refine so rfl ?_)
        refine C_loop (fun _ : Unit => ⟨[(5, PT t 0), (8, PT s 0), (32, SL 4 Evt.c evs3), (33, I64 ((3 : Nat) : Int)), (34, I64 ((0 : Nat) : Int)), (43, I64 0), (44, I64 0)], .abs (tlA t fE3) :: (srvL3 s mg tm 0 g cc b 0 (-1) (.slice none 0 0) ++ [tenM tm h2]).map Ch.abs⟩) (fun _ => True) (fun _ => 0) () trivial ?_ ?_
        · exact Le.pick [4, 0, 0, 0, 1] ⟨rfl, rfl, rfl, rfl, rfl, rfl, rfl, trivial⟩ rfl
        intro _ _
        repeat (first | refine sc rfl ?_ | refine so rfl ?_)
        refine C_false rfl (by decide) ?_
        repeat (first | refine sc rfl ?_ | refine so rfl ?_)
        refine ⟨⟨1, g, cc, b, 0, 1⟩, ⟨by show 1 ≤ 3; decide, Nat.le_refl _⟩, by show 3 - 1 < 3 - 0; decide, ?_⟩
        first
          | exact Le.pick [0, 0, 0, 0, 0] ⟨rfl, rfl, rfl, rfl, rfl, trivial⟩ rfl
      · rw [if_neg (by decide)]
        repeat (first | refine sc rfl ?_ | refine so rfl ?_)
        refine ⟨by decide, ?_⟩
        repeat (first | refine sc rfl ?_ | refine so rfl ?_)
        refine O_callA [2, 2, 2] (playRecv_A s mg tm 0 g cc b) (by rfl) (by rfl) (by rfl) (by rfl) (by rfl) ?_
        rintro r' cs' ⟨h, d, hd, rfl, rfl⟩
        rw [rb_eq]
        repeat (first | refine sc rfl ?_ | refine so rfl ?_)
        refine C_loop (fun _ : Unit => ⟨[(5, PT t 0), (8, PT s 0), (32, SL 4 Evt.c evs3), (33, I64 ((3 : Nat) : Int)), (34, I64 ((1 : Nat) : Int)), (43, I64 0), (44, I64 0)], .abs (tlA t fE3) :: (srvL3 s mg tm 0 g cc b 2 (-1) (HD h 1 d) ++ [outA (HD h 1 d) rb, tenM tm h2]).map Ch.abs⟩) (fun _ => True) (fun _ => 0) () trivial ?_ ?_
        · exact Le.pick [5, 0, 0, 0, 0, 1] ⟨rfl, rfl, rfl, rfl, rfl, rfl, rfl, trivial⟩ rfl
        intro _ _
        repeat (first | refine sc rfl ?_ | refine so rfl ?_)
        refine C_false rfl (by decide) ?_
        repeat (first | refine sc rfl ?_ | refine so rfl ?_)
        refine ⟨⟨2, g, cc, b, h, d⟩, ⟨by show 2 ≤ 3; decide, hd⟩, by show 3 - 2 < 3 - 1; decide, ?_⟩
        first
          | exact Le.pick [0, 0, 0, 0, 0, 0] ⟨rfl, rfl, rfl, rfl, rfl, trivial⟩ rfl
      · rw [if_neg (by decide)]
        repeat (first | refine sc rfl ?_ | refine so rfl ?_)
        refine ⟨by decide, ?_⟩
        repeat (first | refine sc rfl ?_ | refine so rfl ?_)
        refine O_callA [2, 2, 2, 2, 2] (playDel_A s mg tm 0 g cc b h2 h d hd) (by rfl) (by rfl) (by rfl) (by rfl) (by rfl) ?_
        rintro r' cs' ⟨rfl, rfl⟩
        repeat (first | refine sc rfl ?_ | refine so rfl ?_)
        refine C_loop (fun j : Nat => ⟨[(5, PT t 0), (8, PT s 0), (32, SL 4 Evt.c evs3), (33, I64 ((3 : Nat) : Int)), (34, I64 ((2 : Nat) : Int)), (42, SL 4 Ou.c [ou3]), (43, I64 ((1 : Nat) : Int)), (44, I64 (j : Nat))], [.abs (tlA t (if j = 0 then fE3 else fE4))]⟩) (fun j => j ≤ 1) (fun j => 1 - j) 0 (Nat.zero_le _) ?_ ?_
        · exact Le.pick [1] ⟨rfl, rfl, rfl, rfl, rfl, rfl, rfl, rfl, trivial⟩ rfl
        intro j hj
        repeat (first | refine sc rfl ?_ | refine so rfl ?_)
        refine C_if rfl (fun k3 => ?_) (fun k3 => ?_) <;> simp only [pL] at k3
        · obtain rfl : j = 0 := by omega
          rw [if_pos rfl]
          repeat (first | refine sc rfl ?_ | refine so rfl ?_)
          refine ⟨by decide, ?_⟩
          repeat (first | refine sc rfl ?_ | refine so rfl ?_)
          refine O_callA [1] (out_A t fE3 ou3) (by rfl) (by rfl) (by rfl) (by rfl) (by rfl) ?_
          rintro r' cs' ⟨rfl, rfl⟩
          repeat (first | refine sc rfl ?_ | refine so rfl ?_)
          refine ⟨1, Nat.le_refl _, by decide, ?_⟩
          exact Le.pick [0] ⟨rfl, rfl, rfl, rfl, rfl, rfl, rfl, rfl, trivial⟩ rfl
        · obtain rfl : j = 1 := by omega
          rw [if_neg (by decide)]
          repeat (first | refine sc rfl ?_ | refine so rfl ?_)
          refine ⟨⟨3, 0, 0, 0, 0, 1⟩, ⟨by show 3 ≤ 3; decide, Nat.le_refl _⟩, by show 3 - 3 < 3 - 2; decide, ?_⟩
          exact Le.pick [0] ⟨rfl, rfl, rfl, rfl, rfl, trivial⟩ rfl
    · obtain rfl : i = 3 := by omega
      rw [if_pos rfl]
      repeat (first | refine sc rfl ?_ | refine so rfl ?_)
      first
        | exact ⟨_, [_], _, rfl, pickA_perm (is := [0]) (As := [_]) rfl, rfl, t, rfl, rfl⟩
end Go.Proofs
