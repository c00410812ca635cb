/- A line is added to a sheet. -/
import Derived.Test.YtpkbclagmkgpkaaGreatDoorN13
import Derived.Test.YtpkbclagmkgpkaaGreatDoorN10
import Derived.Test.YtpkbclagmkgpkaaGreatDoorN12
import Derived.Test.YtpkbclagmkgpkaaGreatDoorN7
import Derived.Test.YtpkbclagmkgpkaaGreatDoorN4
set_option linter.unusedSimpArgs false
set_option linter.unusedVariables false
set_option maxRecDepth 100000
namespace Go.Proofs
open Go.Sy Go.Lib

theorem hCPs : ∀ x : Cf, (cfP x).1.length ≤ 1000 ∧ FnP Tryz.prog 258 [.agg (Cf.c x)] (· = .tup [.s (cfP x).1, I64 (cfP x).2]) := fun x => ⟨cfP_len x, confPut_c x⟩
structure Sht where
  key : Nat
  evs : List Evt
  lns : List Int
def addF (x : Sht) (n : Int) (keyed : Bool) (q : Cu) : Sht × Int :=
  if wordV q = [107, 101, 121] then
    if keyed = true ∨ 0 < x.evs.length then (x, 17)
    else (⟨numV (wordC q), x.evs, x.lns⟩, if doneB (numC (wordC q)) = true then 0 else 1)
  else if (readF (x.key : Int) (wordV q) (wordC q)).1.2 ≠ 0 then (x, (readF (x.key : Int) (wordV q) (wordC q)).1.2)
  else if x.evs.length = 1024 then (x, 3)
  else (⟨x.key, x.evs ++ [(readF (x.key : Int) (wordV q) (wordC q)).1.1], x.lns ++ [n]⟩, 0)
abbrev evR (l : List Evt) (i : Nat) : List AV := Evt.c (l.getD i default)
abbrev lnR (l : List Int) (i : Nat) : List AV := INTc (l.getD i default)
abbrev shA (b : Nat) (x : Sht) (h1 h2 : Value) : List Abs := [boxA b 28 [U64 (x.key : Nat), .v h1, .v h2], vecA h1 54 4 x.evs.length (evR x.evs), vecA h2 3 1 x.lns.length (lnR x.lns)]
def HV (h : Value) (m : Nat) : Prop := (m = 0 ∧ h = .slice none 0 0) ∨ ∃ g cc, h = HD g m cc
theorem HV.sl {h : Value} {m : Nat} (k : HV h m) : ∃ x y z, h = .slice x y z := by
  rcases k with ⟨_, rfl⟩ | ⟨g, cc, rfl⟩ <;> exact ⟨_, _, _, rfl⟩
def ShP (b c : Nat) (y : Sht) (cs' : List Abs) : Prop := ∃ h1 h2 q', HV h1 y.evs.length ∧ HV h2 y.lns.length ∧ cs' = shA b y h1 h2 ++ [cuA c q']
theorem ShP.mk {b c : Nat} {y : Sht} {h1 h2 : Value} {q : Cu} (k1 : HV h1 y.evs.length) (k2 : HV h2 y.lns.length) : ShP b c y (shA b y h1 h2 ++ [cuA c q]) := ⟨h1, h2, q, k1, k2, rfl⟩
def CSh (key : Int) (es : List Evt) (ls : List Int) (v : Evt) (n : Int) (c : Nat) (q : Cu) (b8 b15 b18 b21 : Bool) : List Ch :=
  [.box 74 28 [U64 key, bif b18 then .own 62 else .own 75, bif b21 then .own 69 else .own 76], .box 10 54 (Evt.c v),
   bif b8 then .vec 62 54 4 (es.length + 1) (evR (es ++ [v])) else .vec 75 54 4 es.length (evR es),
   bif b15 then .vec 69 3 1 (ls.length + 1) (lnR (ls ++ [n])) else .vec 76 3 1 ls.length (lnR ls), .abs (cuA c q)]
def PSh : Pl := ⟨[[], [], [], [], [], [], [], [], [], [], [], [], [], [], [], [8], [], [], [5, 8, 15], [], [], [12, 8, 15, 18]], [8, 15, 18, 21], [(8, 62), (15, 69)], []⟩
theorem snoc_rows {α : Type} [Inhabited α] {cells : α → List AV} {e : Nat} {it : List α} {w : α} (he : (cells w).length = e) {i : Nat} (h : i < it.length + 1) : appRow it.length (fun i => cells (it.getD i default)) (chunkRow e (cells w)) i = cells ((it ++ [w]).getD i default) := by
  unfold appRow
  by_cases hi : i < it.length
  · rw [if_pos hi]
    show cells (it.getD i default) = cells ((it ++ [w]).getD i default)
    simp [List.getD, List.getElem?_append_left hi]
  · rw [if_neg hi]
    obtain rfl : i = it.length := by omega
    rw [Nat.sub_self]
    show chunkRow e (cells w) 0 = cells ((it ++ [w]).getD it.length default)
    unfold chunkRow
    simp [List.getD, ← he]
theorem chunk1 {e : Nat} {l : List AV} (h : l.length = e) : ∀ i, i < 1 → (chunkRow e l i).length = e := fun i hi => by
  obtain rfl : i = 0 := by omega
  simp [chunkRow, h]
theorem add_S (b c : Nat) (x : Sht) (h1 h2 : Value) (n : Int) (keyed : Bool) (q : Cu) (hk : x.key < 18446744073709551616) (k1 : HV h1 x.evs.length) (k2 : HV h2 x.lns.length) (he : x.evs.length ≤ 1024) (hl : x.lns.length ≤ 1024) (hT : CuT q) :
    FnA Tryz.prog 16 [PT b 0, I64 n, B keyed, PT c 0] (shA b x h1 h2 ++ [cuA c q]) (fun r cs' => r = I64 (addF x n keyed q).2 ∧ ShP b c (addF x n keyed q).1 cs') := by
  refine FnA.introM (fun _ => b) Tryz.tabOK Tryz.wide_ Tryz.func16 rfl (by decide) rfl (fun X hμ => ?_)
  obtain ⟨R0, hR0⟩ : ∃ R0, addF x n keyed q = R0 := ⟨_, rfl⟩
  rw [hR0]
  unfold addF at hR0
  repeat (first|refine sc rfl ?_|refine so rfl ?_|refine sb rfl ?_)
  first
    | refine O_callA [0] (word_S c q) (by rfl) (by rfl) (by rfl) (by rfl) (by rfl) ?_
    | refine O_callA [1] (word_S c q) (by rfl) (by rfl) (by rfl) (by rfl) (by rfl) ?_
    | refine O_callA [2] (word_S c q) (by rfl) (by rfl) (by rfl) (by rfl) (by rfl) ?_
    | refine O_callA [3] (word_S c q) (by rfl) (by rfl) (by rfl) (by rfl) (by rfl) ?_
    | refine O_callA [4] (word_S c q) (by rfl) (by rfl) (by rfl) (by rfl) (by rfl) ?_
  rintro r' cs' ⟨rfl, rfl⟩
  repeat (first|refine sc rfl ?_|refine so rfl ?_|refine sb rfl ?_)
  refine C_if rfl (fun m1 => ?_) (fun m1 => ?_) <;> simp only [pL] at m1
  · rw [if_pos m1] at hR0
    repeat (first|refine sc rfl ?_|refine so rfl ?_|refine sb rfl ?_)
    cases keyed with
    | true =>
      rw [if_pos (.inl rfl)] at hR0
      subst hR0
      repeat (first|refine sc rfl ?_|refine so rfl ?_|refine sb rfl ?_)
      refine C_true rfl rfl ?_
      repeat (first|refine sc rfl ?_|refine so rfl ?_|refine sb rfl ?_)
      first
        | exact ⟨_, [_, _, _, _], _, rfl, pickA_perm (is := [1, 1, 1, 0]) (As := [_, _, _, _]) rfl, rfl, rfl, ShP.mk k1 k2⟩
        | exact ⟨_, [_, _, _, _], _, rfl, pickA_perm (is := [2, 2, 2, 1]) (As := [_, _, _, _]) rfl, rfl, rfl, ShP.mk k1 k2⟩
        | exact ⟨_, [_, _, _, _], _, rfl, pickA_perm (is := [0, 0, 0, 0]) (As := [_, _, _, _]) rfl, rfl, rfl, ShP.mk k1 k2⟩
        | exact ⟨_, [_, _, _, _], _, rfl, pickA_perm (is := [1, 1, 1, 1]) (As := [_, _, _, _]) rfl, rfl, rfl, ShP.mk k1 k2⟩
    | false =>
      repeat (first|refine sc rfl ?_|refine so rfl ?_|refine sb rfl ?_)
      first
        | refine O_loadP 0 (reads_box 1) rfl rfl rfl rfl rfl rfl ?_
        | refine O_loadP 1 (reads_box 1) rfl rfl rfl rfl rfl rfl ?_
        | refine O_loadP 2 (reads_box 1) rfl rfl rfl rfl rfl rfl ?_
        | refine O_loadP 3 (reads_box 1) rfl rfl rfl rfl rfl rfl ?_
        | refine O_loadP 4 (reads_box 1) rfl rfl rfl rfl rfl rfl ?_
      repeat (first|refine sc rfl ?_|refine so rfl ?_|refine sb rfl ?_)
      first
        | refine O_Xd (X_lenV 2 rfl rfl rfl rfl rfl) ?_
        | refine O_Xd (X_lenV 1 rfl rfl rfl rfl rfl) ?_
        | refine O_Xd (X_lenV 3 rfl rfl rfl rfl rfl) ?_
      repeat (first|refine sc rfl ?_|refine so rfl ?_|refine sb rfl ?_)
      refine C_if rfl (fun m3 => ?_) (fun m3 => ?_) <;> simp only [pL] at m3
      · rw [if_pos (.inr (by omega))] at hR0
        subst hR0
        repeat (first|refine sc rfl ?_|refine so rfl ?_|refine sb rfl ?_)
        first
          | exact ⟨_, [_, _, _, _], _, rfl, pickA_perm (is := [1, 1, 1, 0]) (As := [_, _, _, _]) rfl, rfl, rfl, ShP.mk k1 k2⟩
          | exact ⟨_, [_, _, _, _], _, rfl, pickA_perm (is := [0, 0, 0, 0]) (As := [_, _, _, _]) rfl, rfl, rfl, ShP.mk k1 k2⟩
      · rw [if_neg (by rintro (h | h); exact absurd h (by decide); omega)] at hR0
        repeat (first|refine sc rfl ?_|refine so rfl ?_|refine sb rfl ?_)
        first
          | refine O_callA [0] (num_S c (wordC q) hT.ok.word) (by rfl) (by rfl) (by rfl) (by rfl) (by rfl) ?_
          | refine O_callA [1] (num_S c (wordC q) hT.ok.word) (by rfl) (by rfl) (by rfl) (by rfl) (by rfl) ?_
          | refine O_callA [2] (num_S c (wordC q) hT.ok.word) (by rfl) (by rfl) (by rfl) (by rfl) (by rfl) ?_
          | refine O_callA [3] (num_S c (wordC q) hT.ok.word) (by rfl) (by rfl) (by rfl) (by rfl) (by rfl) ?_
          | refine O_callA [4] (num_S c (wordC q) hT.ok.word) (by rfl) (by rfl) (by rfl) (by rfl) (by rfl) ?_
        rintro r' cs' ⟨rfl, rfl⟩
        repeat (first|refine sc rfl ?_|refine so rfl ?_|refine sb rfl ?_)
        first
          | refine O_Xn (X_storeP 0 (writes_box (by show 0 < 3; decide)) rfl rfl rfl rfl rfl rfl rfl) ?_
          | refine O_Xn (X_storeP 1 (writes_box (by show 0 < 3; decide)) rfl rfl rfl rfl rfl rfl rfl) ?_
          | refine O_Xn (X_storeP 2 (writes_box (by show 0 < 3; decide)) rfl rfl rfl rfl rfl rfl rfl) ?_
          | refine O_Xn (X_storeP 3 (writes_box (by show 0 < 3; decide)) rfl rfl rfl rfl rfl rfl rfl) ?_
          | refine O_Xn (X_storeP 4 (writes_box (by show 0 < 3; decide)) rfl rfl rfl rfl rfl rfl rfl) ?_
        repeat (first|refine sc rfl ?_|refine so rfl ?_|refine sb rfl ?_)
        first
          | refine O_callA [0] (done_S c (numC (wordC q))) (by rfl) (by rfl) (by rfl) (by rfl) (by rfl) ?_
          | refine O_callA [1] (done_S c (numC (wordC q))) (by rfl) (by rfl) (by rfl) (by rfl) (by rfl) ?_
          | refine O_callA [2] (done_S c (numC (wordC q))) (by rfl) (by rfl) (by rfl) (by rfl) (by rfl) ?_
          | refine O_callA [3] (done_S c (numC (wordC q))) (by rfl) (by rfl) (by rfl) (by rfl) (by rfl) ?_
          | refine O_callA [4] (done_S c (numC (wordC q))) (by rfl) (by rfl) (by rfl) (by rfl) (by rfl) ?_
        rintro r' cs' ⟨rfl, rfl⟩
        repeat (first|refine sc rfl ?_|refine so rfl ?_|refine sb rfl ?_)
        cases hd : doneB (numC (wordC q)) with
        | false =>
          rw [hd, if_neg (by decide)] at hR0
          subst hR0
          refine C_true rfl rfl ?_
          repeat (first|refine sc rfl ?_|refine so rfl ?_|refine sb rfl ?_)
          exact ⟨_, shA b ⟨numV (wordC q), x.evs, x.lns⟩ h1 h2 ++ [cuA c (numC (wordC q))], _, rfl, pickA_perm (is := [1, 1, 1, 0]) (As := shA b ⟨numV (wordC q), x.evs, x.lns⟩ h1 h2 ++ [cuA c (numC (wordC q))]) rfl, rfl, rfl, ShP.mk k1 k2⟩
        | true =>
          rw [hd, if_pos rfl] at hR0
          subst hR0
          refine C_false rfl rfl ?_
          repeat (first|refine sc rfl ?_|refine so rfl ?_|refine sb rfl ?_)
          exact ⟨_, shA b ⟨numV (wordC q), x.evs, x.lns⟩ h1 h2 ++ [cuA c (numC (wordC q))], _, rfl, pickA_perm (is := [1, 1, 1, 0]) (As := shA b ⟨numV (wordC q), x.evs, x.lns⟩ h1 h2 ++ [cuA c (numC (wordC q))]) rfl, rfl, rfl, ShP.mk k1 k2⟩
  · rw [if_neg m1] at hR0
    repeat (first|refine sc rfl ?_|refine so rfl ?_|refine sb rfl ?_)
    first
      | refine O_loadP 0 (reads_box 0) rfl rfl rfl rfl rfl rfl ?_
      | refine O_loadP 1 (reads_box 0) rfl rfl rfl rfl rfl rfl ?_
      | refine O_loadP 2 (reads_box 0) rfl rfl rfl rfl rfl rfl ?_
      | refine O_loadP 3 (reads_box 0) rfl rfl rfl rfl rfl rfl ?_
      | refine O_loadP 4 (reads_box 0) rfl rfl rfl rfl rfl rfl ?_
    repeat (first|refine sc rfl ?_|refine so rfl ?_|refine sb rfl ?_)
    first
      | refine O_callA [0] (read_S c (x.key : Int) (wordV q) (wordC q) hT.tl hCPs) (by rfl) (by rfl) (by rfl) (by rfl) (by rfl) ?_
      | refine O_callA [1] (read_S c (x.key : Int) (wordV q) (wordC q) hT.tl hCPs) (by rfl) (by rfl) (by rfl) (by rfl) (by rfl) ?_
      | refine O_callA [2] (read_S c (x.key : Int) (wordV q) (wordC q) hT.tl hCPs) (by rfl) (by rfl) (by rfl) (by rfl) (by rfl) ?_
      | refine O_callA [3] (read_S c (x.key : Int) (wordV q) (wordC q) hT.tl hCPs) (by rfl) (by rfl) (by rfl) (by rfl) (by rfl) ?_
      | refine O_callA [4] (read_S c (x.key : Int) (wordV q) (wordC q) hT.tl hCPs) (by rfl) (by rfl) (by rfl) (by rfl) (by rfl) ?_
    rintro r' cs' ⟨rfl, rfl⟩
    generalize readF (x.key : Int) (wordV q) (wordC q) = R1 at hR0 ⊢
    obtain ⟨⟨v, e⟩, q1⟩ := R1
    simp only [] at hR0
    repeat (first|refine sc rfl ?_|refine so rfl ?_|refine sb rfl ?_)
    refine C_if rfl (fun m2 => ?_) (fun m2 => ?_) <;> simp only [pL] at m2
    · rw [if_pos m2] at hR0
      subst hR0
      repeat (first|refine sc rfl ?_|refine so rfl ?_|refine sb rfl ?_)
      first
        | exact ⟨_, [_, _, _, _], _, rfl, pickA_perm (is := [1, 1, 1, 0]) (As := [_, _, _, _]) rfl, rfl, rfl, ShP.mk k1 k2⟩
        | exact ⟨_, [_, _, _, _], _, rfl, pickA_perm (is := [2, 2, 2, 1]) (As := [_, _, _, _]) rfl, rfl, rfl, ShP.mk k1 k2⟩
        | exact ⟨_, [_, _, _, _], _, rfl, pickA_perm (is := [0, 0, 0, 0]) (As := [_, _, _, _]) rfl, rfl, rfl, ShP.mk k1 k2⟩
        | exact ⟨_, [_, _, _, _], _, rfl, pickA_perm (is := [1, 1, 1, 1]) (As := [_, _, _, _]) rfl, rfl, rfl, ShP.mk k1 k2⟩
    rw [if_neg (fun h => h m2)] at hR0
    repeat (first|refine sc rfl ?_|refine so rfl ?_|refine sb rfl ?_)
    first
      | refine O_loadP 0 (reads_box 1) rfl rfl rfl rfl rfl rfl ?_
      | refine O_loadP 1 (reads_box 1) rfl rfl rfl rfl rfl rfl ?_
      | refine O_loadP 2 (reads_box 1) rfl rfl rfl rfl rfl rfl ?_
      | refine O_loadP 3 (reads_box 1) rfl rfl rfl rfl rfl rfl ?_
      | refine O_loadP 4 (reads_box 1) rfl rfl rfl rfl rfl rfl ?_
    repeat (first|refine sc rfl ?_|refine so rfl ?_|refine sb rfl ?_)
    first
      | refine O_Xd (X_lenV 3 rfl rfl rfl rfl rfl) ?_
      | refine O_Xd (X_lenV 2 rfl rfl rfl rfl rfl) ?_
    repeat (first|refine sc rfl ?_|refine so rfl ?_|refine sb rfl ?_)
    refine C_if rfl (fun m3 => ?_) (fun m3 => ?_) <;> simp only [pL] at m3
    · rw [if_pos (by omega)] at hR0
      subst hR0
      repeat (first|refine sc rfl ?_|refine so rfl ?_|refine sb rfl ?_)
      first
        | exact ⟨_, [_, _, _, _], _, rfl, pickA_perm (is := [1, 1, 1, 0]) (As := [_, _, _, _]) rfl, rfl, rfl, ShP.mk k1 k2⟩
        | exact ⟨_, [_, _, _, _], _, rfl, pickA_perm (is := [2, 2, 2, 1]) (As := [_, _, _, _]) rfl, rfl, rfl, ShP.mk k1 k2⟩
    rw [if_neg (by omega)] at hR0
    subst hR0
    repeat (first|refine sc rfl ?_|refine so rfl ?_|refine sb rfl ?_)
    refine C_le _ (Le.toBox 2 74 rfl (by decide) (by rw [hμ])) ?_
    refine C_le _ (Le.slotBp 0 74 rfl (by decide) (by rw [hμ])) ?_
    refine C_le _ (Le.cellOwn 3 74 1 75 rfl rfl rfl k1.sl rfl rfl) ?_
    refine C_le _ (Le.cellOwn 4 74 2 76 rfl rfl rfl k2.sl rfl rfl) ?_
    refine C_le _ (Le.pick [0, 2, 1, 0, 0] (s2 := [(0, .bp 74 0), (1, I64 n), (10, .bp 10 0)]) ⟨rfl, rfl, rfl, trivial⟩ rfl) ?_
    refine C_drawM PSh (fun L => CSh (x.key : Nat) x.evs x.lns v n c q1 (L 8) (L 15) (L 18) (L 21)) rfl (by kernel_rfl) (fun L L' h => by show CSh (x.key : Nat) x.evs x.lns v n c q1 (L 8) (L 15) (L 18) (L 21) = CSh (x.key : Nat) x.evs x.lns v n c q1 (L' 8) (L' 15) (L' 18) (L' 21); rw [h 8 (by decide), h 15 (by decide), h 18 (by decide), h 21 (by decide)]) rfl ?_
    refine sm rfl ⟨trivial, ?_⟩
    refine sm rfl ⟨trivial, ?_⟩
    refine sm rfl ⟨trivial, ?_⟩
    refine sm rfl ⟨trivial, ?_⟩
    refine sm rfl ⟨trivial, ?_⟩
    refine SM (.own 75) rfl (fun L h1 h2 h3 => ?_) ?_
    · show StepX _ _ _ _ _ (CSh (x.key : Nat) x.evs x.lns v n c q1 (L 8) (L 15) (L 18) (L 21)) (CSh (x.key : Nat) x.evs x.lns v n c q1 (L 8) (L 15) (L 18) (L 21)) _ _ _
      rw [h2 18 (show (5 : Nat) ∈ PSh.anc 18 by decide)]
      exact X_stillX rfl rfl rfl trivial
    refine SM (.agg (Evt.c v)) rfl (fun L h1 h2 h3 => ?_) ?_
    · show StepX _ _ _ _ _ (CSh (x.key : Nat) x.evs x.lns v n c q1 (L 8) (L 15) (L 18) (L 21)) (CSh (x.key : Nat) x.evs x.lns v n c q1 (L 8) (L 15) (L 18) (L 21)) _ _ _
      exact X_stillX rfl rfl rfl trivial
    refine SM (.sl 1 4 (chunkRow 4 (Evt.c v))) rfl (fun L h1 h2 h3 => ?_) ?_
    · show StepX _ _ _ _ _ (CSh (x.key : Nat) x.evs x.lns v n c q1 (L 8) (L 15) (L 18) (L 21)) (CSh (x.key : Nat) x.evs x.lns v n c q1 (L 8) (L 15) (L 18) (L 21)) _ _ _
      exact X_bsl rfl rfl rfl
    refine SM (.own 62) rfl (fun L h1 h2 h3 => ?_) ?_
    · show StepX _ _ _ _ _ (CSh (x.key : Nat) x.evs x.lns v n c q1 (L 8) (L 15) (L 18) (L 21)) (CSh (x.key : Nat) x.evs x.lns v n c q1 true (L 15) (L 18) (L 21)) _ _ _
      rw [show L 8 = false from h3, h2 15 (show (8 : Nat) ∈ PSh.anc 15 by decide), h2 18 (show (8 : Nat) ∈ PSh.anc 18 by decide), h2 21 (show (8 : Nat) ∈ PSh.anc 21 by decide)]
      exact (X_appendK (m3 := x.evs.length + 1) (row3 := evR (x.evs ++ [v])) rfl rfl rfl rfl rfl rfl rfl (chunk1 (e := 4) rfl) rfl (show ((8, 62) : Nat × Nat) ∈ PSh.cre by decide) rfl rfl (by show (x.evs.length + 1) * 40 ≤ 140737488355328; omega) (by simp only [maxLen]; omega) rfl (fun j hj => snoc_rows rfl hj)).perm (by exact (List.perm_middle (l₁ := [_, _])).symm)
    refine sm rfl ⟨trivial, ?_⟩
    refine sm rfl ⟨trivial, ?_⟩
    refine sm rfl ⟨trivial, ?_⟩
    refine SM (.own 76) rfl (fun L h1 h2 h3 => ?_) ?_
    · show StepX _ _ _ _ _ (CSh (x.key : Nat) x.evs x.lns v n c q1 (L 8) (L 15) (L 18) (L 21)) (CSh (x.key : Nat) x.evs x.lns v n c q1 (L 8) (L 15) (L 18) (L 21)) _ _ _
      rw [h2 21 (show (12 : Nat) ∈ PSh.anc 21 by decide)]
      exact X_stillX rfl rfl rfl trivial
    refine sm rfl ⟨trivial, ?_⟩
    refine SM (.sl 1 1 (chunkRow 1 [I64 n])) rfl (fun L h1 h2 h3 => ?_) ?_
    · show StepX _ _ _ _ _ (CSh (x.key : Nat) x.evs x.lns v n c q1 (L 8) (L 15) (L 18) (L 21)) (CSh (x.key : Nat) x.evs x.lns v n c q1 (L 8) (L 15) (L 18) (L 21)) _ _ _
      exact X_bsl rfl rfl rfl
    refine SM (.own 69) rfl (fun L h1 h2 h3 => ?_) ?_
    · show StepX _ _ _ _ _ (CSh (x.key : Nat) x.evs x.lns v n c q1 (L 8) (L 15) (L 18) (L 21)) (CSh (x.key : Nat) x.evs x.lns v n c q1 (L 8) true (L 18) (L 21)) _ _ _
      rw [show L 15 = false from h3, h1 8 (show (8 : Nat) ∈ PSh.anc 15 by decide), h2 18 (show (15 : Nat) ∈ PSh.anc 18 by decide), h2 21 (show (15 : Nat) ∈ PSh.anc 21 by decide)]
      exact (X_appendK (m3 := x.lns.length + 1) (row3 := lnR (x.lns ++ [n])) rfl rfl rfl rfl rfl rfl rfl (chunk1 (e := 1) rfl) rfl (show ((15, 69) : Nat × Nat) ∈ PSh.cre by decide) rfl rfl (by show (x.lns.length + 1) * 8 ≤ 140737488355328; omega) (by simp only [maxLen]; omega) rfl (fun j hj => snoc_rows (cells := INTc) rfl hj)).perm (by exact (List.perm_middle (l₁ := [_, _, _])).symm)
    refine sm rfl ⟨trivial, ?_⟩
    refine sm rfl ⟨trivial, ?_⟩
    refine SM (.bad) rfl (fun L h1 h2 h3 => ?_) ?_
    · show StepX _ _ _ _ _ (CSh (x.key : Nat) x.evs x.lns v n c q1 (L 8) (L 15) (L 18) (L 21)) (CSh (x.key : Nat) x.evs x.lns v n c q1 (L 8) (L 15) true (L 21)) _ _ _
      rw [show L 18 = false from h3, h1 8 (show (8 : Nat) ∈ PSh.anc 18 by decide), h1 15 (show (15 : Nat) ∈ PSh.anc 18 by decide), h2 21 (show (18 : Nat) ∈ PSh.anc 21 by decide)]
      exact X_storeK rfl rfl rfl rfl rfl rfl rfl rfl rfl
    refine sm rfl ⟨trivial, ?_⟩
    refine sm rfl ⟨trivial, ?_⟩
    refine SM (.bad) rfl (fun L h1 h2 h3 => ?_) ?_
    · show StepX _ _ _ _ _ (CSh (x.key : Nat) x.evs x.lns v n c q1 (L 8) (L 15) (L 18) (L 21)) (CSh (x.key : Nat) x.evs x.lns v n c q1 (L 8) (L 15) (L 18) true) _ _ _
      rw [show L 21 = false from h3, h1 8 (show (8 : Nat) ∈ PSh.anc 21 by decide), h1 15 (show (15 : Nat) ∈ PSh.anc 21 by decide), h1 18 (show (18 : Nat) ∈ PSh.anc 21 by decide)]
      exact X_storeK rfl rfl rfl rfl rfl rfl rfl rfl rfl
    refine sm rfl ?_
    show SymC _ _ _ ⟨_, [.box 74 28 [U64 (x.key : Nat), .own 62, .own 69], .box 10 54 (Evt.c v), .vec 62 54 4 (x.evs.length + 1) (evR (x.evs ++ [v])), .vec 69 3 1 (x.lns.length + 1) (lnR (x.lns ++ [n])), .abs (cuA c q1)]⟩ _
    refine C_cellAbs 74 1 62 rfl rfl rfl (fun g1 hg1 => ?_)
    refine C_cellAbs 74 2 69 rfl rfl rfl (fun g2 hg2 => ?_)
    refine C_le _ (Le.ofBox 74 (b := b) rfl (by decide) (by rw [hμ]) rfl) ?_
    repeat (first|refine sc rfl ?_|refine so rfl ?_|refine sb rfl ?_)
    have e1 : (x.evs ++ [v]).length = x.evs.length + 1 := by simp
    have e2 : (x.lns ++ [n]).length = x.lns.length + 1 := by simp
    refine ⟨_, shA b ⟨x.key, x.evs ++ [v], x.lns ++ [n]⟩ g1 g2 ++ [cuA c q1], [.box 10 54 (Evt.c v)], rfl, ?_, rfl, rfl, ShP.mk (by rw [e1]; exact hg1) (by rw [e2]; exact hg2)⟩
    simp only [shA, e1, e2]
    exact pickA_perm (is := [0, 1, 0, 1]) (As := [_, _, _, _]) rfl
end Go.Proofs

namespace Go.Proofs
open Go.Sy Go.Lib

theorem spl_sum (c : UInt8) : ∀ l, ((spl c l).map fun w => w.length + 1).sum = l.length + 1
  | [] => rfl
  | x :: r => by
    have ih := spl_sum c r
    unfold spl
    split
    · simp only [List.map_cons, List.sum_cons, ih, List.length_cons, List.length_nil]; omega
    · cases h : spl c r with
      | nil => exact absurd h (spl_ne c r)
      | cons p q =>
        rw [h] at ih
        simp only [List.map_cons, List.sum_cons, List.length_cons] at ih ⊢
        omega
theorem words_sum (l : List UInt8) : ((wordsF l).map fun w => w.length + 1).sum ≤ l.length + 1 := by
  have h := spl_sum 32 l
  rw [← h]
  unfold wordsF
  generalize spl 32 l = L
  induction L with
  | nil => simp
  | cons a L ih =>
    rw [List.filter_cons]
    split <;> simp only [List.map_cons, List.sum_cons] <;> omega
theorem spl_le {c : UInt8} {l p : List UInt8} (h : p ∈ spl c l) : p.length ≤ l.length := by
  have h1 := spl_sum c l
  have h2 : p.length + 1 ≤ ((spl c l).map fun w => w.length + 1).sum := by
    generalize spl c l = L at h
    induction L with
    | nil => cases h
    | cons a L ih =>
      simp only [List.map_cons, List.sum_cons]
      rcases List.mem_cons.1 h with rfl | h
      · omega
      · have := ih h; omega
  omega
def Sht.nil : Sht := ⟨0, [], []⟩
def rdL : Nat → Sht → Bool → List (List UInt8) → Sht × Int × Nat
  | _, x, _, [] => (x, 0, 0)
  | i, x, k, l :: r => match wordsF l with
    | [] => rdL (i + 1) x k r
    | w :: ws => if w.head? = some 35 then rdL (i + 1) x k r
      else if (addF x ((i + 1 : Nat) : Int) k (w :: ws, false)).2 ≠ 0 then (Sht.nil, (addF x ((i + 1 : Nat) : Int) k (w :: ws, false)).2, i + 1)
      else rdL (i + 1) (addF x ((i + 1 : Nat) : Int) k (w :: ws, false)).1 (k || (w == [107, 101, 121])) r
def readS (s : List UInt8) : Sht × Int × Nat := rdL 0 Sht.nil false (spl 10 s)
theorem words_ne {l w : List UInt8} {ws : List (List UInt8)} (h : wordsF l = w :: ws) : w ≠ [] := by
  have h1 : w ∈ wordsF l := by rw [h]; exact List.mem_cons_self ..
  unfold wordsF at h1
  have h2 := (List.mem_filter.1 h1).2
  unfold notE at h2
  intro e
  rw [e] at h2
  exact absurd h2 (by decide)
theorem addF_le (x : Sht) (n : Int) (k : Bool) (q : Cu) (i : Nat) (h1 : x.evs.length ≤ i) (h2 : x.lns.length ≤ i) (h3 : x.key < 18446744073709551616) :
    (addF x n k q).1.evs.length ≤ i + 1 ∧ (addF x n k q).1.lns.length ≤ i + 1 ∧ (addF x n k q).1.key < 18446744073709551616 := by
  unfold addF
  split
  · split
    · exact ⟨by simp only []; omega, by simp only []; omega, h3⟩
    · exact ⟨by simp only []; omega, by simp only []; omega, numV_lt _⟩
  · split
    · exact ⟨by simp only []; omega, by simp only []; omega, h3⟩
    · split
      · exact ⟨by simp only []; omega, by simp only []; omega, h3⟩
      · exact ⟨by simp; omega, by simp; omega, h3⟩
def RdP (y : Sht × Int × Nat) (r : AV) (cs' : List Abs) : Prop := ∃ h1 h2, HV h1 y.1.evs.length ∧ HV h2 y.1.lns.length ∧ r = .tup [.agg [U64 (y.1.key : Nat), .v h1, .v h2], .agg [I64 y.2.1, I64 (y.2.2 : Nat)]] ∧
  cs' = [vecA h1 54 4 y.1.evs.length (evR y.1.evs), vecA h2 3 1 y.1.lns.length (lnR y.1.lns)]
theorem Read_A (s : List UInt8) (hs : s.length ≤ 100000) (hn : s.count 10 ≤ 1000) : FnA Tryz.prog 8 [.s s] [] (RdP (readS s)) := by
  refine FnA.intro Tryz.tabOK Tryz.wide_ Tryz.func8 rfl (by decide) rfl (fun X => ?_)
  repeat (first|refine sc rfl ?_|refine so rfl ?_|refine sb rfl ?_)
  refine O_call (Split_c s 10 (by omega)) (by rfl) (by rfl) (by rfl) (by rfl) (fun r hr => ?_)
  subst hr
  refine O_absb 4 rfl rfl rfl (fun b => ?_)
  refine O_le _ (Le.addAbs (vecA (.slice none 0 0) 54 4 0 (evR [])) rfl (fun _ _ => ⟨[], ⟨rfl, .inl ⟨rfl, rfl⟩⟩, fun i hi => absurd hi (Nat.not_lt_zero _)⟩)) ?_
  refine O_le _ (Le.addAbs (vecA (.slice none 0 0) 3 1 0 (lnR [])) rfl (fun _ _ => ⟨[], ⟨rfl, .inl ⟨rfl, rfl⟩⟩, fun i hi => absurd hi (Nat.not_lt_zero _)⟩)) ?_
  have hL : ∀ l ∈ spl 10 s, l.length ≤ 100000 := fun l hl => Nat.le_trans (spl_le hl) hs
  have hc : (spl 10 s).length ≤ 1001 := by rw [spl_len]; omega
  obtain ⟨R0, hR0⟩ : ∃ R0, readS s = R0 := ⟨_, rfl⟩
  rw [hR0]
  unfold readS at hR0
  generalize spl 10 s = L at hR0 hL hc ⊢
  repeat (first|refine sc rfl ?_|refine so rfl ?_|refine sb rfl ?_)
  refine C_loop (fun (q : Nat × Sht × Bool × Value × Value) => ⟨[(2, .bp 2 0), (3, .bp 3 0), (4, PT b 0), (5, B q.2.2.1), (11, SL 1 wc1 L), (12, I64 (L.length : Nat)), (13, I64 (q.1 : Nat))], .box 2 28 [U64 0, .v (.slice none 0 0), .v (.slice none 0 0)] :: .box 3 31 [I64 0, I64 0] :: (shA b q.2.1 q.2.2.2.1 q.2.2.2.2).map Ch.abs⟩)
    (fun q => q.1 ≤ L.length ∧ HV q.2.2.2.1 q.2.1.evs.length ∧ HV q.2.2.2.2 q.2.1.lns.length ∧ q.2.1.evs.length ≤ q.1 ∧ q.2.1.lns.length ≤ q.1 ∧ q.2.1.key < 18446744073709551616 ∧ rdL q.1 q.2.1 q.2.2.1 (L.drop q.1) = R0) (fun q => L.length - q.1) (0, Sht.nil, false, .slice none 0 0, .slice none 0 0)
    ⟨Nat.zero_le _, .inl ⟨rfl, rfl⟩, .inl ⟨rfl, rfl⟩, Nat.le_refl _, Nat.le_refl _, by decide, hR0⟩ (Le.pick [4, 3, 2, 1, 0] ⟨rfl, rfl, rfl, rfl, rfl, rfl, rfl, trivial⟩ rfl) ?_
  rintro ⟨i, x, k, h1, h2⟩ ⟨g1, g2, g3, g4, g5, g6, g7⟩
  simp only [] at g1 g2 g3 g4 g5 g6 g7
  repeat (first|refine sc rfl ?_|refine so rfl ?_|refine sb rfl ?_)
  refine C_if rfl (fun m1 => ?_) (fun m1 => ?_) <;> simp only [pL] at m1
  · have hi : i < L.length := by omega
    obtain ⟨l, hl⟩ : ∃ l, L.getD i default = l := ⟨_, rfl⟩
    have hle : L[i] = l := by rw [← hl, List.getD_eq_getElem?_getD, List.getElem?_eq_getElem hi]; rfl
    have hll := hL L[i] (List.getElem_mem hi)
    rw [hle] at hll
    rw [List.drop_eq_getElem_cons hi, hle] at g7
    repeat (first|refine sc rfl ?_|refine so rfl ?_|refine sb rfl ?_)
    refine ⟨⟨by show (0 : Int) ≤ ((i : Nat) : Int); omega, by show ((i : Nat) : Int) < ((L.length : Nat) : Int); omega⟩, ?_⟩
    simp only [Int.toNat_natCast, hl]
    repeat (first|refine sc rfl ?_|refine so rfl ?_|refine sb rfl ?_)
    refine O_call (words_c l (by omega)) (by rfl) (by rfl) (by rfl) (by rfl) (fun r hr => ?_)
    subst hr
    have hsum := words_sum l
    unfold rdL at g7
    have hnext : ∀ (y : Sht) (k' : Bool) (a1 a2 : Value), HV a1 y.evs.length → HV a2 y.lns.length → True := fun _ _ _ _ _ _ => trivial
    cases hW : wordsF l with
    | nil =>
      rw [hW] at g7
      simp only [] at g7
      repeat (first|refine sc rfl ?_|refine so rfl ?_|refine sb rfl ?_)
      refine C_true rfl rfl ?_
      repeat (first|refine sc rfl ?_|refine so rfl ?_|refine sb rfl ?_)
      rw [w64 (x := (i : Int) + 1) (by omega) (by omega)]
      exact ⟨(i + 1, x, k, h1, h2), ⟨hi, g2, g3, Nat.le_succ_of_le g4, Nat.le_succ_of_le g5, g6, g7⟩, by simp only []; omega, Le.pick [0, 0, 0, 0, 0] ⟨rfl, rfl, rfl, rfl, rfl, rfl, rfl, trivial⟩ rfl⟩
    | cons w ws =>
      rw [hW] at g7 hsum
      simp only [] at g7
      have hwn := words_ne hW
      obtain ⟨ch, wr, rfl⟩ : ∃ ch wr, w = ch :: wr := by cases w with
        | nil => exact absurd rfl hwn
        | cons a r => exact ⟨a, r, rfl⟩
      repeat (first|refine sc rfl ?_|refine so rfl ?_|refine sb rfl ?_)
      refine ⟨⟨Int.le_refl _, by simp only [List.length_cons]; omega⟩, ?_⟩
      repeat (first|refine sc rfl ?_|refine so rfl ?_|refine sb rfl ?_)
      refine ⟨⟨Int.le_refl _, by show (0 : Int) < (((ch :: wr).length : Nat) : Int); simp only [List.length_cons]; omega⟩, ?_⟩
      repeat (first|refine sc rfl ?_|refine so rfl ?_|refine sb rfl ?_)
      refine C_if rfl (fun m2 => ?_) (fun m2 => ?_) <;> simp only [pL] at m2
      · have hch : ch = 35 := by
          have h3 : ch.toNat = 35 := by
            have h4 : ((ch.toNat : Nat) : Int) = 35 := m2
            omega
          exact UInt8.toNat_inj.1 h3
        rw [if_pos (by rw [hch]; rfl)] at g7
        repeat (first|refine sc rfl ?_|refine so rfl ?_|refine sb rfl ?_)
        rw [w64 (x := (i : Int) + 1) (by omega) (by omega)]
        exact ⟨(i + 1, x, k, h1, h2), ⟨hi, g2, g3, Nat.le_succ_of_le g4, Nat.le_succ_of_le g5, g6, g7⟩, by simp only []; omega, Le.pick [0, 0, 0, 0, 0] ⟨rfl, rfl, rfl, rfl, rfl, rfl, rfl, trivial⟩ rfl⟩
      rw [if_neg (by
        intro e
        simp only [List.head?_cons, Option.some.injEq] at e
        subst e
        exact m2 rfl)] at g7
      repeat (first|refine sc rfl ?_|refine so rfl ?_|refine sb rfl ?_)
      rw [w64 (x := (i : Int) + 1) (by omega) (by omega)]
      repeat (first|refine sc rfl ?_|refine so rfl ?_|refine sb rfl ?_)
      refine O_absb 35 rfl rfl rfl (fun c => ?_)
      refine O_callA [3, 3, 3, 0] (add_S b c x h1 h2 ((i + 1 : Nat) : Int) k ((ch :: wr) :: ws, false) g6 g2 g3 (by omega) (by omega) (by show ((((ch :: wr) :: ws)).map fun w => w.length + 1).sum ≤ 1000000; omega)) (by rfl) (by rfl) (by rfl) (by rfl) (by rfl) ?_
      have hle2 := addF_le x ((i + 1 : Nat) : Int) k ((ch :: wr) :: ws, false) i g4 g5 g6
      generalize addF x ((i + 1 : Nat) : Int) k ((ch :: wr) :: ws, false) = Y at g7 hle2 ⊢
      obtain ⟨y, e⟩ := Y
      simp only [] at g7 hle2
      rintro r' cs' ⟨rfl, a1, a2, q', k1, k2, rfl⟩
      simp only [] at k1 k2
      repeat (first|refine sc rfl ?_|refine so rfl ?_|refine sb rfl ?_)
      refine C_if rfl (fun m3 => ?_) (fun m3 => ?_) <;> simp only [pL] at m3
      · rw [if_pos m3] at g7
        subst g7
        refine C_le _ (Le.addAbs (vecA (.slice none 0 0) 54 4 0 (evR [])) rfl (fun _ _ => ⟨[], ⟨rfl, .inl ⟨rfl, rfl⟩⟩, fun i hi => absurd hi (Nat.not_lt_zero _)⟩)) ?_
        refine C_le _ (Le.addAbs (vecA (.slice none 0 0) 3 1 0 (lnR [])) rfl (fun _ _ => ⟨[], ⟨rfl, .inl ⟨rfl, rfl⟩⟩, fun i hi => absurd hi (Nat.not_lt_zero _)⟩)) ?_
        repeat (first|refine sc rfl ?_|refine so rfl ?_|refine sb rfl ?_)
        rw [w64 (x := (i : Int) + 1) (by omega) (by omega)]
        repeat (first|refine sc rfl ?_|refine so rfl ?_|refine sb rfl ?_)
        refine ⟨_, [vecA (.slice none 0 0) 54 4 0 (evR []), vecA (.slice none 0 0) 3 1 0 (lnR [])], _, rfl, pickA_perm (is := [3, 2]) (As := [_, _]) rfl, rfl, .slice none 0 0, .slice none 0 0, .inl ⟨rfl, rfl⟩, .inl ⟨rfl, rfl⟩, rfl, rfl⟩
      rw [if_neg (fun h => h m3)] at g7
      repeat (first|refine sc rfl ?_|refine so rfl ?_|refine sb rfl ?_)
      have fin : ∀ (k' : Bool), (k || ((ch :: wr) == [107, 101, 121])) = k' → rdL (i + 1) y k' (List.drop (i + 1) L) = R0 := fun k' hk => by rw [← hk]; exact g7
      cases k with
      | true =>
        repeat (first|refine sc rfl ?_|refine so rfl ?_|refine sb rfl ?_)
        rw [w64 (x := (i : Int) + 1) (by omega) (by omega)]
        exact ⟨(i + 1, y, true, a1, a2), ⟨hi, k1, k2, hle2.1, hle2.2.1, hle2.2.2, fin true rfl⟩, by simp only []; omega, Le.pick [4, 4, 0, 0, 0] ⟨rfl, rfl, rfl, rfl, rfl, rfl, rfl, trivial⟩ rfl⟩
      | false =>
        repeat (first|refine sc rfl ?_|refine so rfl ?_|refine sb rfl ?_)
        refine ⟨⟨Int.le_refl _, by simp only [List.length_cons]; omega⟩, ?_⟩
        repeat (first|refine sc rfl ?_|refine so rfl ?_|refine sb rfl ?_)
        rw [w64 (x := (i : Int) + 1) (by omega) (by omega)]
        exact ⟨(i + 1, y, ((ch :: wr) == [107, 101, 121]), a1, a2), ⟨hi, k1, k2, hle2.1, hle2.2.1, hle2.2.2, fin _ rfl⟩, by simp only []; omega, Le.pick [4, 4, 0, 0, 0] ⟨rfl, rfl, rfl, rfl, rfl, rfl, rfl, trivial⟩ rfl⟩
  · obtain rfl : i = L.length := by omega
    rw [List.drop_length] at g7
    unfold rdL at g7
    subst g7
    repeat (first|refine sc rfl ?_|refine so rfl ?_|refine sb rfl ?_)
    first
      | refine O_loadP 0 (reads_box 0) rfl rfl rfl rfl rfl rfl ?_
      | refine O_loadP 1 (reads_box 0) rfl rfl rfl rfl rfl rfl ?_
      | refine O_loadP 2 (reads_box 0) rfl rfl rfl rfl rfl rfl ?_
      | refine O_loadP 3 (reads_box 0) rfl rfl rfl rfl rfl rfl ?_
      | refine O_loadP 4 (reads_box 0) rfl rfl rfl rfl rfl rfl ?_
    repeat (first|refine sc rfl ?_|refine so rfl ?_|refine sb rfl ?_)
    exact ⟨_, [vecA h1 54 4 x.evs.length (evR x.evs), vecA h2 3 1 x.lns.length (lnR x.lns)], _, rfl, pickA_perm (is := [3, 3]) (As := [_, _]) rfl, rfl, h1, h2, g2, g3, rfl, rfl⟩
end Go.Proofs

namespace Go.Proofs
open Go.Sy Go.Lib

theorem chunk_lit : ∀ (ws : List (List UInt8)) (i : Nat), i < ws.length → chunkRow 1 (ws.map AV.s) i = wc1 (ws.getD i default)
  | [], i, h => absurd h (Nat.not_lt_zero _)
  | w :: ws, 0, _ => by simp [chunkRow]
  | w :: ws, i + 1, h => by
    have := chunk_lit ws i (by simpa using h)
    simp [chunkRow] at this ⊢
    exact this
theorem Le.litS {X : Ctx Tryz.prog Tryz.tab} {n : Nat} {s : List (Nat × AV)} {c rest : List Ch} (i : Nat) {k : Nat} {t : TypeId} (ws : List (List UInt8)) (hi : get s i = some (.own k)) (hk : takeCh k c = some (.vec k t 1 ws.length (chunkRow 1 (ws.map AV.s)), rest)) :
    Le X n ⟨s, c⟩ ⟨(i, SL 1 wc1 ws) :: (i, .sl ws.length 1 (chunkRow 1 (ws.map AV.s))) :: s, rest⟩ :=
  Le.trans (Le.freeze i hi hk) (Le.one i (SL 1 wc1 ws) (by rw [get_cons, if_pos rfl]) (.row (fun j hj => chunk_lit ws j hj)))
theorem itoa_d (n : Nat) (h : n < 10) : Lib.itoa (n : Int) = [UInt8.ofNat (48 + n)] := by
  unfold Lib.itoa
  rw [if_neg (by omega), Lib.decDigits, dif_pos (by omega)]
  simp
theorem itoa_n1 : Lib.itoa (-1) = [45, 49] := by
  unfold Lib.itoa
  rw [if_pos (by decide), Lib.decDigits, dif_pos (by decide)]
  rfl
theorem itoaE (n : Int) (l : List UInt8) (h : Lib.itoa n = l) (h0 : -9223372036854775808 ≤ n) (h1 : n ≤ 9223372036854775807) : FnK 21 [I64 n] [] (fun r cs' => r = .s l ∧ cs' = []) := by
  rw [← h]; exact itoa_W n h0 h1
theorem small0_c : FnP Tryz.prog 126 [I64 0] (· = .s [48]) := by
  refine FnP.intro Tryz.tabOK Tryz.wide_ Tryz.func126 rfl (by decide) rfl (fun X => ?_)
  repeat (first|refine sc rfl ?_|refine so rfl ?_|refine sb rfl ?_)
  refine C_true rfl (by decide) ?_
  repeat (first | refine sc rfl ?_ | refine so rfl ?_ | refine sb rfl ?_ | refine ⟨by decide, ?_⟩)
  exact ⟨_, rfl, rfl, rfl⟩
theorem fuint0_c : FnP Tryz.prog 146 [U64 0, I64 10] (· = .s [48]) := by
  refine FnP.intro Tryz.tabOK Tryz.wide_ Tryz.func146 rfl (by decide) rfl (fun X => ?_)
  repeat (first|refine sc rfl ?_|refine so rfl ?_|refine sb rfl ?_)
  refine C_true rfl (by decide) ?_
  repeat (first|refine sc rfl ?_|refine so rfl ?_|refine sb rfl ?_)
  refine C_true rfl (by decide) ?_
  repeat (first|refine sc rfl ?_|refine so rfl ?_|refine sb rfl ?_)
  refine O_call small0_c (by rfl) (by rfl) (by rfl) (by rfl) (fun r hr => ?_)
  subst hr
  repeat (first|refine sc rfl ?_|refine so rfl ?_|refine sb rfl ?_)
  exact ⟨_, rfl, rfl, rfl⟩
theorem fuint_c : FnP Tryz.prog 88 [U64 0, I64 10] (· = .s [48]) := by
  refine FnP.intro Tryz.tabOK Tryz.wide_ Tryz.func88 rfl (by decide) rfl (fun X => ?_)
  repeat (first|refine sc rfl ?_|refine so rfl ?_|refine sb rfl ?_)
  refine O_call fuint0_c (by rfl) (by rfl) (by rfl) (by rfl) (fun r hr => ?_)
  subst hr
  repeat (first|refine sc rfl ?_|refine so rfl ?_|refine sb rfl ?_)
  exact ⟨_, rfl, rfl, rfl⟩
abbrev lnE1 : List UInt8 := [49, 32, 111, 112, 101, 110, 32, 48, 10]
theorem evOpen_W (s mg tm : Nat) (now : Int) : FnK 25 [PT s 0, .s [49], .agg (Evt.c ⟨1, 0, 0, []⟩)] [srvL s mg tm now (.slice none 0 0)] (fun r cs' => ∃ g cc b, r = .s lnE1 ∧ cs' = srvL3 s mg tm now g cc b 0 (-1) (.slice none 0 0)) := by
  refine FnW.intro Tryz.tabOK Tryz.wide_ Tryz.func25 rfl (by decide) rfl (fun X hK => ?_)
  repeat (first|refine sc rfl ?_|refine so rfl ?_|refine sb rfl ?_)
  refine C_false rfl (by decide) ?_
  repeat (first|refine sc rfl ?_|refine so rfl ?_|refine sb rfl ?_)
  refine C_false rfl (by decide) ?_
  repeat (first|refine sc rfl ?_|refine so rfl ?_|refine sb rfl ?_)
  refine C_false rfl (by decide) ?_
  repeat (first|refine sc rfl ?_|refine so rfl ?_|refine sb rfl ?_)
  refine C_true rfl (by decide) ?_
  repeat (first|refine sc rfl ?_|refine so rfl ?_|refine sb rfl ?_)
  first
    | refine O_callA [0] (sOpen_A s mg tm now) (by rfl) (by rfl) (by rfl) (by rfl) (by rfl) ?_
    | refine O_callA [1] (sOpen_A s mg tm now) (by rfl) (by rfl) (by rfl) (by rfl) (by rfl) ?_
    | refine O_callA [2] (sOpen_A s mg tm now) (by rfl) (by rfl) (by rfl) (by rfl) (by rfl) ?_
    | refine O_callA [3] (sOpen_A s mg tm now) (by rfl) (by rfl) (by rfl) (by rfl) (by rfl) ?_
    | refine O_callA [4] (sOpen_A s mg tm now) (by rfl) (by rfl) (by rfl) (by rfl) (by rfl) ?_
  rintro r' cs' ⟨g, cc, b, rfl, rfl⟩
  repeat (first|refine sc rfl ?_|refine so rfl ?_|refine sb rfl ?_)
  refine C_true rfl (by decide) ?_
  repeat (first|refine sc rfl ?_|refine so rfl ?_|refine sb rfl ?_)
  refine O_callW hK [] (itoaE 0 [48] (itoa_d 0 (by decide)) (by decide) (by decide)) (by rfl) (by rfl) (by rfl) (by rfl) (by rfl) ?_
  rintro r' cs' ⟨rfl, rfl⟩
  repeat (first|refine sc rfl ?_|refine so rfl ?_|refine sb rfl ?_)
  refine O_le _ (Le.litS 43 [[49], [111, 112, 101, 110], [48]] rfl rfl) ?_
  refine O_call (tell_c [[49], [111, 112, 101, 110], [48]] (by decide) (by decide)) (by rfl) (by rfl) (by rfl) (by rfl) (fun r hr => ?_)
  subst hr
  repeat (first|refine sc rfl ?_|refine so rfl ?_|refine sb rfl ?_)
  first
    | exact ⟨_, [_, _, _], _, rfl, pickA_perm (is := [0, 0, 0]) (As := [_, _, _]) rfl, rfl, g, cc, b, rfl, rfl⟩
    | exact ⟨_, [_, _, _], _, rfl, pickA_perm (is := [1, 1, 1]) (As := [_, _, _]) rfl, rfl, g, cc, b, rfl, rfl⟩
abbrev lnE2 : List UInt8 := [50, 32, 99, 97, 109, 101, 32, 112, 105, 110, 103, 32, 45, 49, 32, 97, 117, 116, 104, 10]
def nteP : Nte := ⟨0, -1, 5, [], 16, []⟩
theorem recvD_W (s mg tm : Nat) (now : Int) (g cc b : Nat) : FnK 47 [PT s 0, .s [50], .agg (Evt.c ⟨2, 0, 0, [5, 0, 0, 0]⟩)] (srvL3 s mg tm now g cc b 0 (-1) (.slice none 0 0)) (fun r cs' => ∃ h d, 1 ≤ d ∧ r = .s lnE2 ∧ cs' = srvL3 s mg tm now g cc b 2 (-1) (HD h 1 d) ++ [outA (HD h 1 d) (rfail 0 16)]) := by
  refine FnW.intro Tryz.tabOK Tryz.wide_ Tryz.func47 rfl (by decide) rfl (fun X hK => ?_)
  repeat (first|refine sc rfl ?_|refine so rfl ?_|refine sb rfl ?_)
  first
    | refine O_callA [0, 0, 0] (recv_A s mg tm now g cc b) (by rfl) (by rfl) (by rfl) (by rfl) (by rfl) ?_
    | refine O_callA [1, 1, 1] (recv_A s mg tm now g cc b) (by rfl) (by rfl) (by rfl) (by rfl) (by rfl) ?_
  rintro r' cs' ⟨h, d, hd, rfl, rfl⟩
  repeat (first|refine sc rfl ?_|refine so rfl ?_|refine sb rfl ?_)
  refine C_false rfl (by decide) ?_
  repeat (first|refine sc rfl ?_|refine so rfl ?_|refine sb rfl ?_)
  first
    | refine C_absb 9 rfl rfl rfl (fun B => ?_)
    | refine O_absb 9 rfl rfl rfl (fun B => ?_)
  first
    | refine C_le _ (Le.addAbs (bufA (.slice none 0 0) 5 []) rfl (fun _ _ => ⟨rfl, .inl ⟨rfl, rfl⟩⟩)) ?_
    | refine O_le _ (Le.addAbs (bufA (.slice none 0 0) 5 []) rfl (fun _ _ => ⟨rfl, .inl ⟨rfl, rfl⟩⟩)) ?_
  repeat (first|refine sc rfl ?_|refine so rfl ?_|refine sb rfl ?_)
  refine C_loop (fun q : Nat × Bool × Value => ⟨[(1, .s [50]), (9, PT B 0), (28, SL 6 Nte.c [nteP]), (29, I64 1), (30, I64 (q.1 : Nat))], .abs (bldC B q.2.1 q.2.2) :: .abs (bufA q.2.2 5 (if q.1 = 0 then [] else lnE2)) :: (srvL3 s mg tm now g cc b 2 (-1) (HD h 1 d) ++ [outA (HD h 1 d) (rfail 0 16)]).map Ch.abs⟩) (fun q => q.1 ≤ 1 ∧ HdB q.2.2 (if q.1 = 0 then [] else lnE2)) (fun q => 1 - q.1) (0, false, .slice none 0 0) ⟨Nat.zero_le _, .inl ⟨rfl, rfl⟩⟩ ?_ ?_
  · exact Le.pick [1, 0, 0, 0, 0, 0] ⟨rfl, rfl, rfl, rfl, rfl, trivial⟩ rfl
  rintro ⟨i, u, hv⟩ ⟨hi, hH⟩
  simp only [] at hi hH ⊢
  repeat (first|refine sc rfl ?_|refine so rfl ?_|refine sb rfl ?_)
  refine C_if rfl (fun k1 => ?_) (fun k1 => ?_) <;> simp only [pL] at k1
  · obtain rfl : i = 0 := by omega
    rw [if_pos rfl] at hH ⊢
    repeat (first|refine sc rfl ?_|refine so rfl ?_|refine sb rfl ?_)
    refine ⟨by decide, ?_⟩
    repeat (first|refine sc rfl ?_|refine so rfl ?_|refine sb rfl ?_)
    refine C_drawU 20 10 rfl (by kernel_rfl) (by kernel_rfl) (by kernel_rfl) ?_
    repeat (first|refine sd rfl ?_|refine sdb rfl ?_|refine sds rfl ?_)
    refine D_call kindWord5_c rfl rfl rfl rfl ?_
    repeat (first|refine sd rfl ?_|refine sdb rfl ?_|refine sds rfl ?_)
    refine D_callW hK (itoaE (-1) [45, 49] itoa_n1 (by decide) (by decide)) rfl rfl rfl rfl ?_
    repeat (first|refine sd rfl ?_|refine sdb rfl ?_|refine sds rfl ?_)
    refine D_call (error_c 16) rfl rfl rfl rfl ?_
    repeat (first|refine sd rfl ?_|refine sdb rfl ?_|refine sds rfl ?_)
    repeat (first|refine sc rfl ?_|refine so rfl ?_|refine sb rfl ?_)
    refine O_le _ (Le.litS 44 [[50], [99, 97, 109, 101], [112, 105, 110, 103], [45, 49], [97, 117, 116, 104]] rfl rfl) ?_
    refine O_call (tell_c [[50], [99, 97, 109, 101], [112, 105, 110, 103], [45, 49], [97, 117, 116, 104]] (by decide) (by decide)) (by rfl) (by rfl) (by rfl) (by rfl) (fun r hr => ?_)
    subst hr
    repeat (first|refine sc rfl ?_|refine so rfl ?_|refine sb rfl ?_)
    first
      | refine O_callA [0, 0] (WriteString_A B u hv [] lnE2 hH (by decide)) (by rfl) (by rfl) (by rfl) (by rfl) (by rfl) ?_
      | refine O_callA [1, 1] (WriteString_A B u hv [] lnE2 hH (by decide)) (by rfl) (by rfl) (by rfl) (by rfl) (by rfl) ?_
    rintro r' cs' ⟨rfl, h', hH', rfl⟩
    repeat (first|refine sc rfl ?_|refine so rfl ?_|refine sb rfl ?_)
    refine ⟨(1, true, h'), ⟨Nat.le_refl _, hH'⟩, by show 1 - 1 < 1 - 0; decide, ?_⟩
    first
      | exact Le.pick [0, 0, 0, 0, 0, 0] ⟨rfl, rfl, rfl, rfl, rfl, trivial⟩ rfl
      | exact Le.pick [0, 0, 1, 1, 1, 1] ⟨rfl, rfl, rfl, rfl, rfl, trivial⟩ rfl
  · obtain rfl : i = 1 := by omega
    rw [if_neg (by decide)] at hH ⊢
    repeat (first|refine sc rfl ?_|refine so rfl ?_|refine sb rfl ?_)
    refine O_callA [0, 0] (String_A B u hv _ hH) (by rfl) (by rfl) (by rfl) (by rfl) (by rfl) ?_
    rintro r' cs' ⟨rfl, rfl⟩
    repeat (first|refine sc rfl ?_|refine so rfl ?_|refine sb rfl ?_)
    exact ⟨_, [_, _, _, _], _, rfl, pickA_perm (is := [0, 0, 0, 0]) (As := [_, _, _, _]) rfl, rfl, h, d, hd, rfl, rfl⟩
theorem evRecv_W (s mg tm : Nat) (now : Int) (g cc b : Nat) : FnK 25 [PT s 0, .s [50], .agg (Evt.c ⟨2, 0, 0, [5, 0, 0, 0]⟩)] (srvL3 s mg tm now g cc b 0 (-1) (.slice none 0 0)) (fun r cs' => ∃ h d, 1 ≤ d ∧ r = .s lnE2 ∧ cs' = srvL3 s mg tm now g cc b 2 (-1) (HD h 1 d) ++ [outA (HD h 1 d) (rfail 0 16)]) := by
  refine FnW.intro Tryz.tabOK Tryz.wide_ Tryz.func25 rfl (by decide) rfl (fun X hK => ?_)
  repeat (first|refine sc rfl ?_|refine so rfl ?_|refine sb rfl ?_)
  refine C_true rfl (by decide) ?_
  repeat (first|refine sc rfl ?_|refine so rfl ?_|refine sb rfl ?_)
  first
    | refine O_callW hK [0, 0, 0] (recvD_W s mg tm now g cc b) (by rfl) (by rfl) (by rfl) (by rfl) (by rfl) ?_
    | refine O_callW hK [1, 1, 1] (recvD_W s mg tm now g cc b) (by rfl) (by rfl) (by rfl) (by rfl) (by rfl) ?_
  rintro r' cs' ⟨h, d, hd, rfl, rfl⟩
  repeat (first|refine sc rfl ?_|refine so rfl ?_|refine sb rfl ?_)
  exact ⟨_, [_, _, _, _], _, rfl, pickA_perm (is := [0, 0, 0, 0]) (As := [_, _, _, _]) rfl, rfl, h, d, hd, rfl, rfl⟩
abbrev lnE3 : List UInt8 := [51, 32, 111, 117, 116, 32, 48, 32, 48, 32, 97, 117, 116, 104, 32, 45, 10]
theorem delivD_W (s mg tm : Nat) (now : Int) (g cc b h2 h d : Nat) (hd : 1 ≤ d) : FnK 48 [PT s 0, .s [51], I64 0] (srvL3 s mg tm now g cc b 2 (-1) (HD h 1 d) ++ [outA (HD h 1 d) rb, tenM tm h2]) (fun r cs' => r = .s lnE3 ∧ cs' = []) := by
  refine FnW.intro Tryz.tabOK Tryz.wide_ Tryz.func48 rfl (by decide) rfl (fun X hK => ?_)
  repeat (first|refine sc rfl ?_|refine so rfl ?_|refine sb rfl ?_)
  refine O_callA [0, 0, 0, 0, 0] (sDel1_A s mg tm now g cc b h2 h d hd rb) (by rfl) (by rfl) (by rfl) (by rfl) (by rfl) ?_
  rintro r' cs' ⟨a, c, rfl, rfl⟩
  repeat (first|refine sc rfl ?_|refine so rfl ?_|refine sb rfl ?_)
  refine O_callW hK [] (itoaE 0 [48] (itoa_d 0 (by decide)) (by decide) (by decide)) (by rfl) (by rfl) (by rfl) (by rfl) (by rfl) ?_
  rintro r' cs' ⟨rfl, rfl⟩
  repeat (first|refine sc rfl ?_|refine so rfl ?_|refine sb rfl ?_)
  refine C_false rfl (by decide) ?_
  repeat (first|refine sc rfl ?_|refine so rfl ?_|refine sb rfl ?_)
  refine C_false rfl (by decide) ?_
  repeat (first|refine sc rfl ?_|refine so rfl ?_|refine sb rfl ?_)
  refine C_false rfl (by decide) ?_
  repeat (first|refine sc rfl ?_|refine so rfl ?_|refine sb rfl ?_)
  refine O_callA [] rTake9_A (by rfl) (by rfl) (by rfl) (by rfl) (by rfl) ?_
  rintro r' cs' ⟨rfl, rfl⟩
  repeat (first|refine sc rfl ?_|refine so rfl ?_|refine sb rfl ?_)
  refine C_drawU 20 11 rfl (by kernel_rfl) (by kernel_rfl) (by kernel_rfl) ?_
  repeat (first|refine sd rfl ?_|refine sdb rfl ?_|refine sds rfl ?_)
  refine D_call fuint_c rfl rfl rfl rfl ?_
  repeat (first|refine sd rfl ?_|refine sdb rfl ?_|refine sds rfl ?_)
  refine D_call (error_c 16) rfl rfl rfl rfl ?_
  repeat (first|refine sd rfl ?_|refine sdb rfl ?_|refine sds rfl ?_)
  refine D_call figures0_c rfl rfl rfl rfl ?_
  repeat (first|refine sd rfl ?_|refine sdb rfl ?_|refine sds rfl ?_)
  repeat (first|refine sc rfl ?_|refine so rfl ?_|refine sb rfl ?_)
  refine O_le _ (Le.litS 58 [[51], [111, 117, 116], [48], [48], [97, 117, 116, 104], [45]] rfl rfl) ?_
  refine O_call (tell_c [[51], [111, 117, 116], [48], [48], [97, 117, 116, 104], [45]] (by decide) (by decide)) (by rfl) (by rfl) (by rfl) (by rfl) (fun r hr => ?_)
  subst hr
  repeat (first|refine sc rfl ?_|refine so rfl ?_|refine sb rfl ?_)
  exact ⟨_, [], _, rfl, pickA_perm (is := []) (As := []) rfl, rfl, rfl, rfl⟩
theorem evDeliv_W (s mg tm : Nat) (now : Int) (g cc b h2 h d : Nat) (hd : 1 ≤ d) : FnK 25 [PT s 0, .s [51], .agg (Evt.c ⟨6, 0, 0, []⟩)] (srvL3 s mg tm now g cc b 2 (-1) (HD h 1 d) ++ [outA (HD h 1 d) rb, tenM tm h2]) (fun r cs' => r = .s lnE3 ∧ cs' = []) := by
  refine FnW.intro Tryz.tabOK Tryz.wide_ Tryz.func25 rfl (by decide) rfl (fun X hK => ?_)
  repeat (first|refine sc rfl ?_|refine so rfl ?_|refine sb rfl ?_)
  refine C_false rfl (by decide) ?_
  repeat (first|refine sc rfl ?_|refine so rfl ?_|refine sb rfl ?_)
  refine C_true rfl (by decide) ?_
  repeat (first|refine sc rfl ?_|refine so rfl ?_|refine sb rfl ?_)
  first
    | refine O_callW hK [0, 0, 0, 0, 0] (delivD_W s mg tm now g cc b h2 h d hd) (by rfl) (by rfl) (by rfl) (by rfl) (by rfl) ?_
    | refine O_callW hK [1, 1, 1, 1, 1] (delivD_W s mg tm now g cc b h2 h d hd) (by rfl) (by rfl) (by rfl) (by rfl) (by rfl) ?_
  rintro r' cs' ⟨rfl, rfl⟩
  repeat (first|refine sc rfl ?_|refine so rfl ?_|refine sb rfl ?_)
  exact ⟨_, [], _, rfl, pickA_perm (is := []) (As := []) rfl, rfl, rfl, rfl⟩
end Go.Proofs

namespace Go.Proofs
open Go.Sy Go.Lib

theorem newT_A : FnA Tryz.prog 55 [] [] (fun r cs' => ∃ t, r = PT t 0 ∧ cs' = [tlA t (fun _ => 0)]) := by
  refine FnA.intro Tryz.tabOK Tryz.wide_ Tryz.func55 rfl (by decide) rfl (fun X => ?_)
  iterate 8 (first|refine sc rfl ?_|refine so rfl ?_|refine sb rfl ?_)
  refine O_absb 2 rfl rfl rfl (fun t => ?_)
  repeat (first|refine sc rfl ?_|refine so rfl ?_|refine sb rfl ?_)
  exact ⟨_, [_], _, rfl, pickA_perm (is := [0]) (As := [_]) rfl, rfl, t, rfl, rfl⟩
theorem rowsOpen_A (s mg tm : Nat) (now : Int) : FnA Tryz.prog 101 [PT s 0, I64 0, .agg (Evt.c ⟨1, 0, 0, []⟩)] [srvL s mg tm now (.slice none 0 0)] (fun x cs' => ∃ g cc b, x = NS ∧ cs' = srvL3 s mg tm now g cc b 0 (-1) (.slice none 0 0)) := by
  refine FnA.intro Tryz.tabOK Tryz.wide_ Tryz.func101 rfl (by decide) rfl (fun X => ?_)
  repeat (first|refine sc rfl ?_|refine so rfl ?_|refine sb rfl ?_)
  refine C_true rfl rfl ?_
  repeat (first|refine sc rfl ?_|refine so rfl ?_|refine sb rfl ?_)
  first
    | refine O_callA [0] (sOpen_A s mg tm now) (by rfl) (by rfl) (by rfl) (by rfl) (by rfl) ?_
    | refine O_callA [1] (sOpen_A s mg tm now) (by rfl) (by rfl) (by rfl) (by rfl) (by rfl) ?_
    | refine O_callA [2] (sOpen_A s mg tm now) (by rfl) (by rfl) (by rfl) (by rfl) (by rfl) ?_
    | refine O_callA [3] (sOpen_A s mg tm now) (by rfl) (by rfl) (by rfl) (by rfl) (by rfl) ?_
    | refine O_callA [4] (sOpen_A s mg tm now) (by rfl) (by rfl) (by rfl) (by rfl) (by rfl) ?_
  rintro r' cs' ⟨g, cc, b, rfl, rfl⟩
  repeat (first|refine sc rfl ?_|refine so rfl ?_|refine sb rfl ?_)
  exact ⟨_, [_, _, _], _, rfl, pickA_perm (is := [0, 0, 0]) (As := [_, _, _]) rfl, rfl, g, cc, b, rfl, rfl⟩
theorem rowsDel_A (s mg tm : Nat) (now : Int) (g cc b h2 h d : Nat) (hd : 1 ≤ d) : FnA Tryz.prog 101 [PT s 0, I64 2, .agg (Evt.c ⟨6, 0, 0, []⟩)] (srvL3 s mg tm now g cc b 2 (-1) (HD h 1 d) ++ [outA (HD h 1 d) rb, tenM tm h2]) (fun r cs' => r = NS ∧ cs' = []) := by
  refine FnA.intro Tryz.tabOK Tryz.wide_ Tryz.func101 rfl (by decide) rfl (fun X => ?_)
  iterate 6
    repeat (first|refine sc rfl ?_|refine so rfl ?_|refine sb rfl ?_)
    first
      | refine C_true rfl rfl ?_
      | refine C_false rfl rfl ?_
      | skip
  repeat (first|refine sc rfl ?_|refine so rfl ?_|refine sb rfl ?_)
  first
    | refine O_callA [0, 0, 0, 0, 0] (sDel1_A s mg tm now g cc b h2 h d hd rb) (by rfl) (by rfl) (by rfl) (by rfl) (by rfl) ?_
    | refine O_callA [1, 1, 1, 1, 1] (sDel1_A s mg tm now g cc b h2 h d hd rb) (by rfl) (by rfl) (by rfl) (by rfl) (by rfl) ?_
  rintro r' cs' ⟨a, c, rfl, rfl⟩
  repeat (first|refine sc rfl ?_|refine so rfl ?_|refine sb rfl ?_)
  exact ⟨_, [], _, rfl, pickA_perm (is := []) (As := []) rfl, rfl, rfl, rfl⟩
theorem rowsRecv_A (s mg tm : Nat) (now : Int) (g cc b : Nat) : FnA Tryz.prog 101 [PT s 0, I64 1, .agg (Evt.c ⟨2, 0, 0, [5, 0, 0, 0]⟩)] (srvL3 s mg tm now g cc b 0 (-1) (.slice none 0 0)) (fun r cs' => ∃ h d, 1 ≤ d ∧ r = SL 8 Rw.c [⟨1, 1, nteP⟩] ∧ cs' = srvL3 s mg tm now g cc b 2 (-1) (HD h 1 d) ++ [outA (HD h 1 d) (rfail 0 16)]) := by
  refine FnA.intro Tryz.tabOK Tryz.wide_ Tryz.func101 rfl (by decide) rfl (fun X => ?_)
  repeat (first|refine sc rfl ?_|refine so rfl ?_|refine sb rfl ?_)
  refine C_false rfl rfl ?_
  repeat (first|refine sc rfl ?_|refine so rfl ?_|refine sb rfl ?_)
  refine C_true rfl rfl ?_
  repeat (first|refine sc rfl ?_|refine so rfl ?_|refine sb rfl ?_)
  first
    | refine O_callA [0, 0, 0] (recv_A s mg tm now g cc b) (by rfl) (by rfl) (by rfl) (by rfl) (by rfl) ?_
    | refine O_callA [1, 1, 1] (recv_A s mg tm now g cc b) (by rfl) (by rfl) (by rfl) (by rfl) (by rfl) ?_
  rintro r' cs' ⟨h, d, hd, rfl, rfl⟩
  refine O_le _ (Le.nilvec Rw.c 7 42 134 8 rfl rfl rfl) ?_
  repeat (first|refine sc rfl ?_|refine so rfl ?_|refine sb rfl ?_)
  refine C_loop (fun i : Nat => ⟨[(1, I64 1), (7, .own 42), (31, SL 6 Nte.c [nteP]), (32, I64 1), (33, I64 (i : Nat))], VEC 42 134 8 Rw.c (([⟨1, 1, nteP⟩] : List Rw).take i) :: (srvL3 s mg tm now g cc b 2 (-1) (HD h 1 d) ++ [outA (HD h 1 d) (rfail 0 16)]).map Ch.abs⟩) (fun i => i ≤ 1) (fun i => 1 - i) 0 (Nat.zero_le _) ?_ ?_
  · exact Le.pick [0, 0, 0, 0, 0] ⟨rfl, rfl, rfl, rfl, rfl, trivial⟩ rfl
  intro i hi
  repeat (first|refine sc rfl ?_|refine so rfl ?_|refine sb rfl ?_)
  refine C_if rfl (fun k1 => ?_) (fun k1 => ?_) <;> simp only [pL] at k1
  · obtain rfl : i = 0 := by omega
    repeat (first|refine sc rfl ?_|refine so rfl ?_|refine sb rfl ?_)
    refine ⟨by decide, ?_⟩
    repeat (first|refine sc rfl ?_|refine so rfl ?_|refine sb rfl ?_)
    refine O_push Rw.c [] ⟨1, 1, nteP⟩ [(1, I64 1), (31, SL 6 Nte.c [nteP]), (32, I64 1), (33, I64 ((0 : Nat) : Int))] rfl rfl rfl rfl rfl rfl rfl rfl rfl rfl ⟨rfl, rfl, rfl, rfl, trivial⟩ rfl rfl (by decide) (by decide) ?_
    repeat (first|refine sc rfl ?_|refine so rfl ?_|refine sb rfl ?_)
    refine ⟨1, Nat.le_refl _, by decide, ?_⟩
    first
      | exact Le.pick [0, 0, 0, 0, 0] ⟨rfl, rfl, rfl, rfl, rfl, trivial⟩ rfl
      | exact Le.pick [0, 1, 1, 1, 1] ⟨rfl, rfl, rfl, rfl, rfl, trivial⟩ rfl
      | exact Le.pick [0, 2, 2, 2, 2] ⟨rfl, rfl, rfl, rfl, rfl, trivial⟩ rfl
  · obtain rfl : i = 1 := by omega
    show SymC _ _ _ ⟨_, VEC 42 134 8 Rw.c ([⟨1, 1, nteP⟩] : List Rw) :: (srvL3 s mg tm now g cc b 2 (-1) (HD h 1 d) ++ [outA (HD h 1 d) (rfail 0 16)]).map Ch.abs⟩ _
    refine C_le _ (Le.freezeL (l := ([⟨1, 1, nteP⟩] : List Rw)) (cells := Rw.c) 7 rfl rfl) ?_
    repeat (first|refine sc rfl ?_|refine so rfl ?_|refine sb rfl ?_)
    exact ⟨_, [_, _, _, _], _, rfl, pickA_perm (is := [0, 0, 0, 0]) (As := [_, _, _, _]) rfl, rfl, h, d, hd, rfl, rfl⟩
end Go.Proofs

namespace Go.Proofs
open Go.Sy Go.Lib

def ouV (x : Ou) : Array Value := #[.int .i64 x.fat, .int .i64 x.conn, S x.bytes, .bool x.closed]
theorem rep_ou (m : Ou) (e : Env) (ys : List Value) (h : RepL e (Ou.c m) ys) : ys = (ouV m).toList := by
  simp only [Ou.c, RepL, Rep] at h
  obtain ⟨z1, t1, rfl, rfl, _, z2, t2, rfl, rfl, _, z3, t3, rfl, rfl, _, z4, t4, rfl, rfl, _, rfl⟩ := h
  rfl
theorem eq_ou (m : Ou) (w : World) : (Op.equalIn 10000 139 (.agg (ouV m)) (.agg (ouV m))).run Tryz.prog w = .ok true w := by
  rw [run_equalIn_struct w 9999 139 _ _ Tryz.underlying139 Tryz.stoodInHeld139]
  unfold Program.fieldsOf
  rw [Tryz.underlying139]
  have p0 : (part 3 (ouV m) 0).run Tryz.prog w = .ok (.int .i64 m.fat) w := by simp [part, isAgg, run_underlying Tryz.underlying3, ouV]
  have p1 : (part 3 (ouV m) 1).run Tryz.prog w = .ok (.int .i64 m.conn) w := by simp [part, isAgg, run_underlying Tryz.underlying3, ouV]
  have p2 : (part 9 (ouV m) 2).run Tryz.prog w = .ok (S m.bytes) w := by simp [part, isAgg, run_underlying Tryz.underlying9, ouV]
  have p3 : (part 4 (ouV m) 3).run Tryz.prog w = .ok (.bool m.closed) w := by simp [part, isAgg, run_underlying Tryz.underlying4, ouV]
  have e0 : ∀ k, (Op.equalIn 9999 3 (.int .i64 k) (.int .i64 k)).run Tryz.prog w = .ok true w := fun k => by rw [run_equalIn_int w 9998 3 .i64 .i64 _ _ Tryz.underlying3]; simp
  have e1 : ∀ l, (Op.equalIn 9999 9 (S l) (S l)).run Tryz.prog w = .ok true w := fun l => by unfold S; rw [run_equalIn_string w 9998 9 _ _ Tryz.underlying9]; simp
  have e2 : ∀ k, (Op.equalIn 9999 4 (.bool k) (.bool k)).run Tryz.prog w = .ok true w := fun k => by rw [run_equalIn_bool w 9998 4 _ _ Tryz.underlying4]; simp
  simp only [Op.eqFields]
  rw [if_pos (by decide), if_pos (by decide), if_pos (by decide), if_pos (by decide)]
  simp [Sem.run_bind, p0, p1, p2, p3, e0, e1, e2]
theorem eq_ouN (w : World) : (Op.equalIn 10000 139 (.agg (ouV ⟨2, 0, rb, false⟩)) (.agg (ouV ⟨2, 0, [], false⟩))).run Tryz.prog w = .ok false w := by
  rw [run_equalIn_struct w 9999 139 _ _ Tryz.underlying139 Tryz.stoodInHeld139]
  unfold Program.fieldsOf
  rw [Tryz.underlying139]
  have p0 : ∀ m : Ou, (part 3 (ouV m) 0).run Tryz.prog w = .ok (.int .i64 m.fat) w := fun m => by simp [part, isAgg, run_underlying Tryz.underlying3, ouV]
  have p1 : ∀ m : Ou, (part 3 (ouV m) 1).run Tryz.prog w = .ok (.int .i64 m.conn) w := fun m => by simp [part, isAgg, run_underlying Tryz.underlying3, ouV]
  have p2 : ∀ m : Ou, (part 9 (ouV m) 2).run Tryz.prog w = .ok (S m.bytes) w := fun m => by simp [part, isAgg, run_underlying Tryz.underlying9, ouV]
  have p3 : ∀ m : Ou, (part 4 (ouV m) 3).run Tryz.prog w = .ok (.bool m.closed) w := fun m => by simp [part, isAgg, run_underlying Tryz.underlying4, ouV]
  have e0 : ∀ k, (Op.equalIn 9999 3 (.int .i64 k) (.int .i64 k)).run Tryz.prog w = .ok true w := fun k => by rw [run_equalIn_int w 9998 3 .i64 .i64 _ _ Tryz.underlying3]; simp
  have e1 : (Op.equalIn 9999 9 (S rb) (S [])).run Tryz.prog w = .ok false w := by unfold S; rw [run_equalIn_string w 9998 9 _ _ Tryz.underlying9, toList_mk, show (({ data := #[] } : ByteArray)).toList = [] from toList_mk []]; rfl
  simp only [Op.eqFields]
  rw [if_pos (by decide), if_pos (by decide), if_pos (by decide), if_pos (by decide)]
  simp [Sem.run_bind, p0, p1, p2, p3, e0, e1]
theorem playOpen_A (s mg tm : Nat) (now : Int) : FnA Tryz.prog 58 [PT s 0, I64 0, .agg (Evt.c ⟨1, 0, 0, []⟩)] [srvL s mg tm now (.slice none 0 0)] (fun x cs' => ∃ g cc b, x = NS ∧ cs' = srvL3 s mg tm now g cc b 0 (-1) (.slice none 0 0)) := by
  refine FnA.intro Tryz.tabOK Tryz.wide_ Tryz.func58 rfl (by decide) rfl (fun X => ?_)
  repeat (first|refine sc rfl ?_|refine so rfl ?_|refine sb rfl ?_)
  refine C_true rfl rfl ?_
  repeat (first|refine sc rfl ?_|refine so rfl ?_|refine sb rfl ?_)
  first
    | refine O_callA [0] (sOpen_A s mg tm now) (by rfl) (by rfl) (by rfl) (by rfl) (by rfl) ?_
    | refine O_callA [1] (sOpen_A s mg tm now) (by rfl) (by rfl) (by rfl) (by rfl) (by rfl) ?_
    | refine O_callA [2] (sOpen_A s mg tm now) (by rfl) (by rfl) (by rfl) (by rfl) (by rfl) ?_
    | refine O_callA [3] (sOpen_A s mg tm now) (by rfl) (by rfl) (by rfl) (by rfl) (by rfl) ?_
  rintro r' cs' ⟨g, cc, b, rfl, rfl⟩
  repeat (first|refine sc rfl ?_|refine so rfl ?_|refine sb rfl ?_)
  refine O_Xd (X_aggC (us := ouV ⟨0, 0, [], false⟩) (vs := ouV ⟨0, 0, [], false⟩) (b := true) (op := .eql) (fun e ys h => rep_ou _ e ys h) (fun e ys h => rep_ou _ e ys h) (fun w => eq_ou _ w) Tryz.eqGuardType139 (.inl rfl) rfl rfl rfl rfl) ?_
  repeat (first|refine sc rfl ?_|refine so rfl ?_|refine sb rfl ?_)
  refine C_true rfl rfl ?_
  repeat (first|refine sc rfl ?_|refine so rfl ?_|refine sb rfl ?_)
  exact ⟨_, [_, _, _], _, rfl, pickA_perm (is := [0, 0, 0]) (As := [_, _, _]) rfl, rfl, g, cc, b, rfl, rfl⟩
theorem playRecv_A (s mg tm : Nat) (now : Int) (g cc b : Nat) : FnA Tryz.prog 58 [PT s 0, I64 1, .agg (Evt.c ⟨2, 0, 0, [5, 0, 0, 0]⟩)] (srvL3 s mg tm now g cc b 0 (-1) (.slice none 0 0)) (fun r cs' => ∃ h d, 1 ≤ d ∧ r = NS ∧ cs' = srvL3 s mg tm now g cc b 2 (-1) (HD h 1 d) ++ [outA (HD h 1 d) (rfail 0 16)]) := by
  refine FnA.intro Tryz.tabOK Tryz.wide_ Tryz.func58 rfl (by decide) rfl (fun X => ?_)
  repeat (first|refine sc rfl ?_|refine so rfl ?_|refine sb rfl ?_)
  refine C_false rfl rfl ?_
  repeat (first|refine sc rfl ?_|refine so rfl ?_|refine sb rfl ?_)
  refine C_true rfl rfl ?_
  repeat (first|refine sc rfl ?_|refine so rfl ?_|refine sb rfl ?_)
  first
    | refine O_callA [0, 0, 0] (recv_A s mg tm now g cc b) (by rfl) (by rfl) (by rfl) (by rfl) (by rfl) ?_
    | refine O_callA [1, 1, 1] (recv_A s mg tm now g cc b) (by rfl) (by rfl) (by rfl) (by rfl) (by rfl) ?_
    | refine O_callA [2, 2, 2] (recv_A s mg tm now g cc b) (by rfl) (by rfl) (by rfl) (by rfl) (by rfl) ?_
    | refine O_callA [3, 3, 3] (recv_A s mg tm now g cc b) (by rfl) (by rfl) (by rfl) (by rfl) (by rfl) ?_
  rintro r' cs' ⟨h, d, hd, rfl, rfl⟩
  repeat (first|refine sc rfl ?_|refine so rfl ?_|refine sb rfl ?_)
  refine O_Xd (X_aggC (us := ouV ⟨1, 0, [], false⟩) (vs := ouV ⟨1, 0, [], false⟩) (b := true) (op := .eql) (fun e ys h => rep_ou _ e ys h) (fun e ys h => rep_ou _ e ys h) (fun w => eq_ou _ w) Tryz.eqGuardType139 (.inl rfl) rfl rfl rfl rfl) ?_
  repeat (first|refine sc rfl ?_|refine so rfl ?_|refine sb rfl ?_)
  refine C_true rfl rfl ?_
  repeat (first|refine sc rfl ?_|refine so rfl ?_|refine sb rfl ?_)
  exact ⟨_, [_, _, _, _], _, rfl, pickA_perm (is := [0, 0, 0, 0]) (As := [_, _, _, _]) rfl, rfl, h, d, hd, rfl, rfl⟩
abbrev ou3 : Ou := ⟨2, 0, rb, false⟩
theorem playDel_A (s mg tm : Nat) (now : Int) (g cc b h2 h d : Nat) (hd : 1 ≤ d) : FnA Tryz.prog 58 [PT s 0, I64 2, .agg (Evt.c ⟨6, 0, 0, []⟩)] (srvL3 s mg tm now g cc b 2 (-1) (HD h 1 d) ++ [outA (HD h 1 d) rb, tenM tm h2]) (fun r cs' => r = SL 4 Ou.c [ou3] ∧ cs' = []) := by
  refine FnA.intro Tryz.tabOK Tryz.wide_ Tryz.func58 rfl (by decide) rfl (fun X => ?_)
  iterate 6
    repeat (first|refine sc rfl ?_|refine so rfl ?_|refine sb rfl ?_)
    refine C_false rfl rfl ?_
  repeat (first|refine sc rfl ?_|refine so rfl ?_|refine sb rfl ?_)
  refine C_true rfl rfl ?_
  repeat (first|refine sc rfl ?_|refine so rfl ?_|refine sb rfl ?_)
  first
    | refine O_callA [0, 0, 0, 0, 0] (sDel1_A s mg tm now g cc b h2 h d hd rb) (by rfl) (by rfl) (by rfl) (by rfl) (by rfl) ?_
    | refine O_callA [1, 1, 1, 1, 1] (sDel1_A s mg tm now g cc b h2 h d hd rb) (by rfl) (by rfl) (by rfl) (by rfl) (by rfl) ?_
    | refine O_callA [2, 2, 2, 2, 2] (sDel1_A s mg tm now g cc b h2 h d hd rb) (by rfl) (by rfl) (by rfl) (by rfl) (by rfl) ?_
    | refine O_callA [3, 3, 3, 3, 3] (sDel1_A s mg tm now g cc b h2 h d hd rb) (by rfl) (by rfl) (by rfl) (by rfl) (by rfl) ?_
  rintro r' cs' ⟨a, c, rfl, rfl⟩
  repeat (first|refine sc rfl ?_|refine so rfl ?_|refine sb rfl ?_)
  refine O_Xd (X_aggC (us := ouV ⟨2, 0, rb, false⟩) (vs := ouV ⟨2, 0, [], false⟩) (b := false) (op := .eql) (fun e ys h => rep_ou _ e ys h) (fun e ys h => rep_ou _ e ys h) (fun w => eq_ouN w) Tryz.eqGuardType139 (.inl rfl) rfl rfl rfl rfl) ?_
  repeat (first|refine sc rfl ?_|refine so rfl ?_|refine sb rfl ?_)
  refine C_false rfl rfl ?_
  repeat refine sc rfl ?_
  iterate 2 (first|refine so rfl ?_|refine sb rfl ?_)
  refine O_le _ (Le.vecrow (k := 64) 1 (fun i => Ou.c (([ou3] : List Ou).getD i default)) rfl rfl (fun i hi => ?_)) ?_
  · have hi' : i < 1 := hi
    obtain rfl : i = 0 := by omega
    rfl
  refine O_le _ (Le.freezeL (l := [ou3]) (cells := Ou.c) 64 rfl rfl) ?_
  repeat (first|refine sc rfl ?_|refine so rfl ?_|refine sb rfl ?_)
  exact ⟨_, [], _, rfl, pickA_perm (is := []) (As := []) rfl, rfl, rfl, rfl⟩
end Go.Proofs

namespace Go.Sy
open Go.RowKit
def Frz (A A' : Abs) : Prop := ∀ (G : IM) (w : World), A.ok G w → (∀ b ∈ A.bs, b < w.heap.size ∧ G.free b) → ∃ G' : IM, IM.le G G' ∧ (∀ b o v, G' b o = some v → G b o = some v ∨ (b ∈ A.bs ∧ w.cell? ⟨b, o, none⟩ = some v)) ∧
  (∀ b x, G'.m b = some x → G.m b = some x ∨ (b ∈ A.bs ∧ MzOK G' w b x)) ∧ A'.ok G' w
theorem frz_vec {h : Value} {t : TypeId} {esz m : Nat} {row row' : Nat → List AV} (hrow : ∀ i, i < m → row' i = row i) : Frz (vecA h t esz m row) (repA (.sl m esz row') h) := by
  rintro G w ⟨xs, g1, g2⟩ hb
  rcases g1.2 with ⟨rfl, rfl⟩ | ⟨g, cap, cur, rfl, _, hg, hcap, hmax, hcs, htake⟩
  · refine ⟨G, IM.le_refl _, fun _ _ _ h => .inl h, fun _ _ h => .inl h, ?_⟩
    simp only [repA, RepI]
    exact ⟨none, 0, rfl, Nat.le_refl _, .inl trivial⟩
  · have hf := hb g (by simp [vecA, Value.ownBlock])
    let G' : IM := ⟨fun b' o' => if b' = g then cur[o']? else G b' o', G.m⟩
    have hle : IM.le G G' := by
      refine ⟨?_, fun _ _ h => h⟩
      intro b' o' v hv
      show (if b' = g then cur[o']? else G b' o') = some v
      rw [if_neg]
      · exact hv
      · rintro rfl; rw [hf.2.1 o'] at hv; cases hv
    refine ⟨G', hle, ?_, fun _ _ h => .inl h, ?_⟩
    · intro b' o' v hv
      have hv' : (if b' = g then cur[o']? else G b' o') = some v := hv
      split at hv'
      · rename_i hbb; subst hbb
        refine .inr ⟨by simp [vecA, Value.ownBlock], ?_⟩
        rw [cell_of_row w b' o' cur t (0, 0) hg]; exact hv'
      · exact .inl hv'
    · simp only [repA, RepI]
      refine ⟨some ⟨g, 0, none⟩, cap, rfl, hcap, .inr ⟨g, 0, rfl, fun i hi => CellsAt.mk (fun j c hc => ?_)⟩⟩
      rw [hrow i hi] at hc
      obtain ⟨z, z1, z2, z3⟩ := (g2 i hi).get j c hc
      have hj : j < esz := by
        rcases Nat.lt_or_ge j esz with h | h
        · exact h
        · rw [List.getElem?_eq_none (by simp; omega)] at z1; cases z1
      have hlt : i * esz + j < m * esz := by
        have : (i + 1) * esz ≤ m * esz := Nat.mul_le_mul_right _ hi
        rw [Nat.add_mul] at this; omega
      rw [List.getElem?_take, if_pos hj, List.getElem?_drop, ← htake, List.getElem?_take, if_pos hlt] at z1
      refine ⟨z, ?_, RepI.mono hle _ z2, z3⟩
      show (if g = g then cur[0 + i * esz + j]? else G g (0 + i * esz + j)) = some z
      rw [if_pos rfl, Nat.zero_add]; simpa using z1
theorem AbsOK.frz {G : IM} {w : World} {A A' : Abs} {cs : List Abs} (hz : Frz A A') (h : AbsOK G w (A :: cs)) (him : ImOK G w) : ∃ G' : IM, IM.le G G' ∧ ImOK G' w ∧ (∀ b o v, G' b o = some v → G b o = some v ∨ b ∈ A.bs) ∧ (∀ b x, G'.m b = some x → G.m b = some x ∨ b ∈ A.bs) ∧ A'.ok G' w ∧ AbsOK G' w cs := by
  have hbl : blocks (A :: cs) = A.bs ++ blocks cs := by simp [blocks]
  obtain ⟨G', g1, g2, g3, g4⟩ := hz G w (h.1 A (List.mem_cons_self ..)) (fun b hb => h.2.2 b (by rw [hbl]; exact List.mem_append_left _ hb))
  refine ⟨G', g1, ⟨?_, ?_⟩, fun b o v hv => (g2 b o v hv).imp id (·.1), fun b x hx => (g3 b x hx).imp id (·.1), g4, ⟨fun B hB => B.keep g1 (fun _ _ => rfl) (h.1 B (List.mem_cons_of_mem _ hB)), ?_, ?_⟩⟩
  · intro b o v hv
    rcases g2 b o v hv with k | k
    · exact him.1 b o v k
    · exact k.2
  · intro b x hx
    rcases g3 b x hx with k | k
    · refine (him.2 b x k).keep g1 rfl (fun o v hv => ?_)
      rcases g2 b o v hv with q | q
      · exact ⟨v, q⟩
      · have := (h.2.2 b (by rw [hbl]; exact List.mem_append_left _ q.1)).2.2; rw [this] at k; cases k
    · exact k.2
  · have := h.2.1
    rw [hbl] at this
    exact (List.nodup_append.1 this).2.1
  · intro b hb
    have h1 := h.2.2 b (by rw [hbl]; exact List.mem_append_right _ hb)
    have hnot : b ∉ A.bs := fun hA => by
      have := h.2.1
      rw [hbl] at this
      exact (List.nodup_append.1 this).2.2 b hA b hb rfl
    refine ⟨h1.1, fun o => ?_, ?_⟩
    · cases hx : G' b o with
      | none => rfl
      | some v =>
        rcases g2 b o v hx with k | k
        · rw [h1.2.1 o] at k; cases k
        · exact absurd k.1 hnot
    · cases hx : G'.m b with
      | none => rfl
      | some v =>
        rcases g3 b v hx with k | k
        · rw [h1.2.2] at k; cases k
        · exact absurd k.1 hnot
theorem FnA.frz2 {P : Program} {f : FuncId} {args : List AV} {post : AV → List Abs → Prop} {t1 t2 e1 e2 m1 m2 : Nat} {row1 row2 : Nat → List AV} {R : AV} (h : FnA P f args [] post)
    (hp : ∀ r cs', post r cs' → ∃ h1 h2, cs' = [vecA h1 t1 e1 m1 row1, vecA h2 t2 e2 m2 row2] ∧ ∀ (G : IM) v, RepI G r v → RepI G (.sl m1 e1 row1) h1 → RepI G (.sl m2 e2 row2) h2 → RepI G R v) : FnP P f args (· = R) := by
  refine ⟨h.1, fun G w c a1 a2 => (h.2 G w c a1 a2 ⟨by simp, by simp [blocks], by simp [blocks]⟩).mono ?_⟩
  rintro e w' ⟨r, cr, cs', G1, hpost, he, g1, g2, g3, g4, g5, g6, o1, o2, o3, o4, o5⟩
  obtain ⟨h1, h2, rfl, hR⟩ := hp r cs' hpost
  obtain ⟨G2, k1, k2, k3, k4, k5, k6⟩ := AbsOK.frz (frz_vec (row' := row1) (fun _ _ => rfl)) g5 g4
  obtain ⟨G3, l1, l2, l3, l4, l5, _⟩ := AbsOK.frz (frz_vec (row' := row2) (fun _ _ => rfl)) k6 k2
  have hb : ∀ b, b ∈ (vecA h1 t1 e1 m1 row1).bs ∨ b ∈ (vecA h2 t2 e2 m2 row2).bs → w.heap.size ≤ b := fun b hb => by
    rcases g6 b (by simp only [blocks, List.flatMap_cons, List.flatMap_nil, List.append_nil, List.mem_append]; exact hb) with q | q
    · exact q
    · simp [blocks] at q
  refine ⟨R, cr, G3, rfl, he, hR G3 cr (RepI.mono (IM.le_trans k1 l1) _ g1) ?_ ?_, IM.le_trans g2 (IM.le_trans k1 l1), ⟨fun b o v hv => ?_, fun b x hx => ?_⟩, l2, ⟨o1, o2, o3, o4, fun k hk hs => o5 k hk (by simp [blocks]) hs⟩⟩
  · have : RepI G2 (.sl m1 e1 row1) h1 := k5
    exact RepI.mono l1 _ this
  · exact l5
  · rcases l3 b o v hv with q | q
    · rcases k3 b o v q with q | q
      · rcases g3.1 b o v q with q | q | q
        · exact .inl q
        · exact .inr q
        · simp [blocks] at q
      · exact .inr (hb b (.inl q))
    · exact .inr (hb b (.inr q))
  · rcases l4 b x hx with q | q
    · rcases k4 b x q with q | q
      · rcases g3.2 b x q with q | q | q
        · exact .inl q
        · exact .inr q
        · simp [blocks] at q
      · exact .inr (hb b (.inl q))
    · exact .inr (hb b (.inr q))
end Go.Sy

namespace Go.Proofs
open Go.Sy Go.Lib

abbrev rdT (y : Sht × Int × Nat) : AV := .tup [.agg [U64 (y.1.key : Nat), SL 4 Evt.c y.1.evs, SL 1 INTc y.1.lns], .agg [I64 y.2.1, I64 (y.2.2 : Nat)]]
theorem Read_P (s : List UInt8) (hs : s.length ≤ 100000) (hn : s.count 10 ≤ 1000) : FnP Tryz.prog 8 [.s s] (· = rdT (readS s)) := by
  refine FnA.frz2 (Read_A s hs hn) (fun r cs' ⟨h1, h2, _, _, hr, hc⟩ => ⟨h1, h2, hc, fun G v hv k1 k2 => ?_⟩)
  subst hr
  simp only [RepI, RepIT] at hv
  obtain ⟨ys, rfl, z1, t1, e1, ⟨y1, rfl, q1⟩, z2, t2, rfl, ⟨y2, rfl, q2⟩, rfl⟩ := hv
  simp only [RepIL] at q1
  obtain ⟨a1, b1, e2, r1, o1, a2, b2, rfl, r2, o2, a3, b3, rfl, r3, o3, rfl⟩ := q1
  simp only [RepI] at r2 r3
  subst r2; subst r3
  have hg : RepIL G [U64 ((readS s).1.key : Nat), SL 4 Evt.c (readS s).1.evs, SL 1 INTc (readS s).1.lns] y1.toList := by
    simp only [RepIL]
    exact ⟨a1, _, e2, r1, o1, _, _, rfl, k1, o2, _, _, rfl, k2, o3, rfl⟩
  show RepI G (.tup [.agg [U64 ((readS s).1.key : Nat), SL 4 Evt.c (readS s).1.evs, SL 1 INTc (readS s).1.lns], .agg [I64 (readS s).2.1, I64 ((readS s).2.2 : Nat)]]) (.tuple ys)
  rw [RepI]
  refine ⟨ys, rfl, ?_⟩
  rw [RepIT]
  refine ⟨_, _, e1, ?_, ?_⟩
  · rw [RepI]; exact ⟨y1, rfl, hg⟩
  · rw [RepIT]
    refine ⟨_, _, rfl, ?_, ?_⟩
    · rw [RepI]; exact ⟨y2, rfl, q2⟩
    · rw [RepIT]
end Go.Proofs

namespace Go.Proofs
open Go.Sy Go.Lib

abbrev evs3 : List Evt := [⟨1, 0, 0, []⟩, ⟨2, 0, 0, [5, 0, 0, 0]⟩, ⟨6, 0, 0, []⟩]
abbrev rws3 : List Rw := [⟨1, 1, nteP⟩]
structure Par where
  i : Nat
  g : Nat
  cc : Nat
  b : Nat
  h : Nat
  d : Nat
def stg (s mg tm h2 : Nat) (p : Par) : List Abs := match p.i with
  | 0 => [srvL s mg tm 0 (.slice none 0 0), tenM tm h2]
  | 1 => srvL3 s mg tm 0 p.g p.cc p.b 0 (-1) (.slice none 0 0) ++ [tenM tm h2]
  | 2 => srvL3 s mg tm 0 p.g p.cc p.b 2 (-1) (HD p.h 1 p.d) ++ [outA (HD p.h 1 p.d) rb, tenM tm h2]
  | _ => []
theorem src_nil {X : Ctx Tryz.prog Tryz.tab} {n : Nat} {s : List (Nat × AV)} {c : List Ch} {xo : Operand} {esz : Nat} {row2 : Nat → List AV} (hx : opd s xo = some NS) : ∀ e a w, Rel X n e ⟨s, c⟩ a w → (∃ ad cc news, a.eval xo = .slice (some ad) 0 cc ∧ news.length = 0 * esz ∧ (∀ (j : Nat) (u : Value), news[j]? = some u → w.cell? (ad.add j) = some u) ∧ (∀ u ∈ news, u.oneCell' = true) ∧ RowsL e.G esz 0 row2 news) ∨
      (0 = 0 ∧ ∃ cc, a.eval xo = .slice none 0 cc) := fun e a w r => by
  have := opd_sound r hx
  simp only [Rep] at this
  exact .inr ⟨rfl, 0, this⟩
theorem traceOf3_A : FnA Tryz.prog 56 [U64 0, SL 4 Evt.c evs3] [] (fun r cs' => r = SL 8 Rw.c rws3 ∧ cs' = []) := by
  refine FnA.intro Tryz.tabOK Tryz.wide_ Tryz.func56 rfl (by decide) rfl (fun X => ?_)
  repeat (first|refine sc rfl ?_|refine so rfl ?_|refine sb rfl ?_)
  refine O_callA [] (srvNew_A 0) (by rfl) (by rfl) (by rfl) (by rfl) (by rfl) ?_
  rintro r' cs' ⟨s, mg, tm, h2, g0, c0, d0, rfl, rfl⟩
  repeat (first|refine sc rfl ?_|refine so rfl ?_|refine sb rfl ?_)
  refine ⟨by decide, ?_⟩
  repeat (first|refine sc rfl ?_|refine so rfl ?_|refine sb rfl ?_)
  refine C_le _ (Le.nilvec Rw.c 6 27 134 8 rfl rfl rfl) ?_
  refine C_loop (fun p : Par => ⟨[(5, PT s 0), (6, .own 27), (15, SL 4 Evt.c evs3), (16, I64 ((3 : Nat) : Int)), (17, I64 (p.i : Nat))], VEC 27 134 8 Rw.c (rws3.take (p.i - 1)) :: (stg s mg tm h2 p).map Ch.abs⟩) (fun p => p.i ≤ 3 ∧ 1 ≤ p.d) (fun p => 3 - p.i) ⟨0, 0, 0, 0, 0, 1⟩ ⟨Nat.zero_le _, Nat.le_refl _⟩ ?_ ?_
  · exact Le.pick [0, 0, 0] ⟨rfl, rfl, rfl, rfl, rfl, trivial⟩ rfl
  rintro ⟨i, g, cc, b, h, d⟩ ⟨hi, hd⟩
  simp only [] at hi hd ⊢
  repeat (first|refine sc rfl ?_|refine so rfl ?_|refine sb rfl ?_)
  refine C_if rfl (fun k1 => ?_) (fun k1 => ?_) <;> simp only [pL] at k1
  · have hil : i = 0 ∨ i = 1 ∨ i = 2 := by omega
    rcases hil with rfl | rfl | rfl
    · repeat (first|refine sc rfl ?_|refine so rfl ?_|refine sb rfl ?_)
      refine ⟨by decide, ?_⟩
      repeat (first|refine sc rfl ?_|refine so rfl ?_|refine sb rfl ?_)
      refine O_callA [2] (rowsOpen_A s mg tm 0) (by rfl) (by rfl) (by rfl) (by rfl) (by rfl) ?_
      rintro r' cs' ⟨g, cc, b, rfl, rfl⟩
      repeat (first|refine sc rfl ?_|refine so rfl ?_|refine sb rfl ?_)
      refine O_append (m2 := 0) (m3 := 0) (row2 := fun j => Rw.c (rws3.getD j default)) (row3 := fun j => Rw.c ((rws3.take (1 - 1)).getD j default)) (s2 := [(5, PT s 0), (15, SL 4 Evt.c evs3), (16, I64 ((3 : Nat) : Int)), (17, I64 ((0 : Nat) : Int))]) rfl rfl rfl rfl rfl (src_nil rfl) rfl ⟨rfl, rfl, rfl, rfl, trivial⟩ rfl rfl (by decide) (by decide) rfl (fun j hj => ?_) ?_
      · omega
      repeat (first|refine sc rfl ?_|refine so rfl ?_|refine sb rfl ?_)
      refine ⟨⟨1, g, cc, b, 0, 1⟩, ⟨by show 1 ≤ 3; decide, Nat.le_refl _⟩, by show 3 - 1 < 3 - 0; decide, ?_⟩
      first
        | exact Le.pick [0, 0, 0, 0, 0] ⟨rfl, rfl, rfl, rfl, rfl, trivial⟩ rfl
        | exact Le.pick [0, 0, 0, 0, 1] ⟨rfl, rfl, rfl, rfl, rfl, trivial⟩ rfl
        | exact Le.pick [0, 1, 1, 1, 1] ⟨rfl, rfl, rfl, rfl, rfl, trivial⟩ rfl
    · repeat (first|refine sc rfl ?_|refine so rfl ?_|refine sb rfl ?_)
      refine ⟨by decide, ?_⟩
      repeat (first|refine sc rfl ?_|refine so rfl ?_|refine sb rfl ?_)
      refine O_callA [2, 2, 2] (rowsRecv_A s mg tm 0 g cc b) (by rfl) (by rfl) (by rfl) (by rfl) (by rfl) ?_
      rintro r' cs' ⟨h, d, hd, rfl, rfl⟩
      repeat (first|refine sc rfl ?_|refine so rfl ?_|refine sb rfl ?_)
      refine O_append (m2 := 1) (m3 := 1) (row2 := fun j => Rw.c (rws3.getD j default)) (row3 := fun j => Rw.c ((rws3.take (2 - 1)).getD j default)) (s2 := [(5, PT s 0), (15, SL 4 Evt.c evs3), (16, I64 ((3 : Nat) : Int)), (17, I64 ((1 : Nat) : Int))]) rfl rfl rfl rfl rfl (src_sl rfl (fun j _ => rfl)) rfl ⟨rfl, rfl, rfl, rfl, trivial⟩ rfl rfl (by decide) (by decide) rfl (fun j hj => ?_) ?_
      · obtain rfl : j = 0 := by omega
        rfl
      repeat (first|refine sc rfl ?_|refine so rfl ?_|refine sb rfl ?_)
      rw [rb_eq]
      refine ⟨⟨2, g, cc, b, h, d⟩, ⟨by show 2 ≤ 3; decide, hd⟩, by show 3 - 2 < 3 - 1; decide, ?_⟩
      first
        | exact Le.pick [0, 0, 0, 0, 0, 0] ⟨rfl, rfl, rfl, rfl, rfl, trivial⟩ rfl
        | exact Le.pick [0, 0, 0, 0, 0, 1] ⟨rfl, rfl, rfl, rfl, rfl, trivial⟩ rfl
        | exact Le.pick [0, 1, 1, 1, 1, 1] ⟨rfl, rfl, rfl, rfl, rfl, trivial⟩ rfl
    · repeat (first|refine sc rfl ?_|refine so rfl ?_|refine sb rfl ?_)
      refine ⟨by decide, ?_⟩
      repeat (first|refine sc rfl ?_|refine so rfl ?_|refine sb rfl ?_)
      refine O_callA [2, 2, 2, 2, 2] (rowsDel_A s mg tm 0 g cc b h2 h d hd) (by rfl) (by rfl) (by rfl) (by rfl) (by rfl) ?_
      rintro r' cs' ⟨rfl, rfl⟩
      repeat (first|refine sc rfl ?_|refine so rfl ?_|refine sb rfl ?_)
      refine O_append (m2 := 0) (m3 := 1) (row2 := fun j => Rw.c (rws3.getD j default)) (row3 := fun j => Rw.c ((rws3.take (3 - 1)).getD j default)) (s2 := [(5, PT s 0), (15, SL 4 Evt.c evs3), (16, I64 ((3 : Nat) : Int)), (17, I64 ((2 : Nat) : Int))]) rfl rfl rfl rfl rfl (src_nil rfl) rfl ⟨rfl, rfl, rfl, rfl, trivial⟩ rfl rfl (by decide) (by decide) rfl (fun j hj => ?_) ?_
      · obtain rfl : j = 0 := by omega
        rfl
      repeat (first|refine sc rfl ?_|refine so rfl ?_|refine sb rfl ?_)
      refine ⟨⟨3, 0, 0, 0, 0, 1⟩, ⟨by show 3 ≤ 3; decide, Nat.le_refl _⟩, by show 3 - 3 < 3 - 2; decide, ?_⟩
      first
        | exact Le.pick [0] ⟨rfl, rfl, rfl, rfl, rfl, trivial⟩ rfl
        | exact Le.pick [1] ⟨rfl, rfl, rfl, rfl, rfl, trivial⟩ rfl
  · obtain rfl : i = 3 := by omega
    refine C_le _ (Le.freezeL (l := rws3) (cells := Rw.c) 6 rfl rfl) ?_
    repeat (first|refine sc rfl ?_|refine so rfl ?_|refine sb rfl ?_)
    exact ⟨_, [], _, rfl, pickA_perm (is := []) (As := []) rfl, rfl, rfl, rfl⟩

def fE3 : Nat → Int := rowT (fun _ => 0) ⟨1, 1, nteP⟩
def fE4 : Nat → Int := outT fE3 ou3
theorem tallyOf3_A : FnA Tryz.prog 27 [U64 0, SL 4 Evt.c evs3] [] (fun r cs' => ∃ t, r = PT t 0 ∧ cs' = [tlA t fE4]) := by
  refine FnA.intro Tryz.tabOK Tryz.wide_ Tryz.func27 rfl (by decide) rfl (fun X => ?_)
  repeat (first|refine sc rfl ?_|refine so rfl ?_|refine sb rfl ?_)
  refine O_callA [] newT_A (by rfl) (by rfl) (by rfl) (by rfl) (by rfl) ?_
  rintro r' cs' ⟨t, rfl, rfl⟩
  repeat (first|refine sc rfl ?_|refine so rfl ?_|refine sb rfl ?_)
  refine O_callA [] traceOf3_A (by rfl) (by rfl) (by rfl) (by rfl) (by rfl) ?_
  rintro r' cs' ⟨rfl, rfl⟩
  repeat (first|refine sc rfl ?_|refine so rfl ?_|refine sb rfl ?_)
  refine C_loop (fun i : Nat => ⟨[(0, U64 0), (1, SL 4 Evt.c evs3), (5, PT t 0), (16, SL 8 Rw.c rws3), (17, I64 ((1 : Nat) : Int)), (18, I64 (i : Nat))], [.abs (tlA t (if i = 0 then fun _ => 0 else fE3))]⟩) (fun i => i ≤ 1) (fun i => 1 - i) 0 (Nat.zero_le _) (Le.pick [0] ⟨rfl, rfl, rfl, rfl, rfl, rfl, trivial⟩ rfl) ?_
  intro i hi
  repeat (first|refine sc rfl ?_|refine so rfl ?_|refine sb rfl ?_)
  refine C_if rfl (fun k1 => ?_) (fun k1 => ?_) <;> simp only [pL] at k1
  · obtain rfl : i = 0 := by omega
    rw [if_pos rfl]
    repeat (first|refine sc rfl ?_|refine so rfl ?_|refine sb rfl ?_)
    refine ⟨by decide, ?_⟩
    repeat (first|refine sc rfl ?_|refine so rfl ?_|refine sb rfl ?_)
    first
      | refine O_callA [0] (row_A t (fun _ => 0) ⟨1, 1, nteP⟩) (by rfl) (by rfl) (by rfl) (by rfl) (by rfl) ?_
      | refine O_callA [1] (row_A t (fun _ => 0) ⟨1, 1, nteP⟩) (by rfl) (by rfl) (by rfl) (by rfl) (by rfl) ?_
      | refine O_callA [2] (row_A t (fun _ => 0) ⟨1, 1, nteP⟩) (by rfl) (by rfl) (by rfl) (by rfl) (by rfl) ?_
      | refine O_callA [3] (row_A t (fun _ => 0) ⟨1, 1, nteP⟩) (by rfl) (by rfl) (by rfl) (by rfl) (by rfl) ?_
      | refine O_callA [4] (row_A t (fun _ => 0) ⟨1, 1, nteP⟩) (by rfl) (by rfl) (by rfl) (by rfl) (by rfl) ?_
    rintro r' cs' ⟨rfl, rfl⟩
    repeat (first|refine sc rfl ?_|refine so rfl ?_|refine sb rfl ?_)
    refine ⟨0 + 1, by decide, by decide, ?_⟩
    first
      | exact Le.pick [0] ⟨rfl, rfl, rfl, rfl, rfl, rfl, trivial⟩ rfl
      | exact Le.pick [1] ⟨rfl, rfl, rfl, rfl, rfl, rfl, trivial⟩ rfl
  · obtain rfl : i = 1 := by omega
    rw [if_neg (by decide)]
    repeat (first|refine sc rfl ?_|refine so rfl ?_|refine sb rfl ?_)
    refine O_callA [] (srvNew_A 0) (by rfl) (by rfl) (by rfl) (by rfl) (by rfl) ?_
    rintro r' cs' ⟨s, mg, tm, h2, g0, c0, d0, rfl, rfl⟩
    repeat (first|refine sc rfl ?_|refine so rfl ?_|refine sb rfl ?_)
    refine ⟨by decide, ?_⟩
    repeat (first|refine sc rfl ?_|refine so rfl ?_|refine sb rfl ?_)
    refine C_loop (fun p : Par => ⟨[(5, PT t 0), (8, PT s 0), (32, SL 4 Evt.c evs3), (33, I64 ((3 : Nat) : Int)), (34, I64 (p.i : Nat))], .abs (tlA t (if p.i = 3 then fE4 else fE3)) :: (stg s mg tm h2 p).map Ch.abs⟩) (fun p => p.i ≤ 3 ∧ 1 ≤ p.d) (fun p => 3 - p.i) ⟨0, 0, 0, 0, 0, 1⟩ ⟨Nat.zero_le _, Nat.le_refl _⟩ ?_ ?_
    · first
        | exact Le.pick [6, 0, 0] ⟨rfl, rfl, rfl, rfl, rfl, trivial⟩ rfl
        | exact Le.pick [5, 0, 0] ⟨rfl, rfl, rfl, rfl, rfl, trivial⟩ rfl
    rintro ⟨i, g, cc, b, h, d⟩ ⟨hi, hd⟩
    simp only [] at hi hd ⊢
    repeat (first|refine sc rfl ?_|refine so rfl ?_|refine sb rfl ?_)
    refine C_if rfl (fun k2 => ?_) (fun k2 => ?_) <;> simp only [pL] at k2
    · have hil : i = 0 ∨ i = 1 ∨ i = 2 := by omega
      rcases hil with rfl | rfl | rfl
      · rw [if_neg (by decide)]
        repeat (first|refine sc rfl ?_|refine so rfl ?_|refine sb rfl ?_)
        refine ⟨by decide, ?_⟩
        repeat (first|refine sc rfl ?_|refine so rfl ?_|refine sb rfl ?_)
        first
          | refine O_callA [1] (playOpen_A s mg tm 0) (by rfl) (by rfl) (by rfl) (by rfl) (by rfl) ?_
          | refine O_callA [2] (playOpen_A s mg tm 0) (by rfl) (by rfl) (by rfl) (by rfl) (by rfl) ?_
        rintro r' cs' ⟨g, cc, b, rfl, rfl⟩
        repeat (first|refine sc rfl ?_|refine so rfl ?_|refine sb rfl ?_)
        refine C_loop (fun _ : Unit => ⟨[(5, PT t 0), (8, PT s 0), (32, SL 4 Evt.c evs3), (33, I64 ((3 : Nat) : Int)), (34, I64 ((0 : Nat) : Int)), (43, I64 0), (44, I64 0)], .abs (tlA t fE3) :: (srvL3 s mg tm 0 g cc b 0 (-1) (.slice none 0 0) ++ [tenM tm h2]).map Ch.abs⟩) (fun _ => True) (fun _ => 0) () trivial ?_ ?_
        · first
            | exact Le.pick [4, 0, 0, 0, 1] ⟨rfl, rfl, rfl, rfl, rfl, rfl, rfl, trivial⟩ rfl
            | exact Le.pick [3, 0, 0, 0, 0] ⟨rfl, rfl, rfl, rfl, rfl, rfl, rfl, trivial⟩ rfl
            | exact Le.pick [4, 0, 0, 0, 0] ⟨rfl, rfl, rfl, rfl, rfl, rfl, rfl, trivial⟩ rfl
            | exact Le.pick [3, 0, 0, 0, 1] ⟨rfl, rfl, rfl, rfl, rfl, rfl, rfl, trivial⟩ rfl
        intro _ _
        repeat (first|refine sc rfl ?_|refine so rfl ?_|refine sb rfl ?_)
        refine C_false rfl (by decide) ?_
        repeat (first|refine sc rfl ?_|refine so rfl ?_|refine sb rfl ?_)
        refine ⟨⟨1, g, cc, b, 0, 1⟩, ⟨by show 1 ≤ 3; decide, Nat.le_refl _⟩, by show 3 - 1 < 3 - 0; decide, ?_⟩
        first
          | exact Le.pick [0, 0, 0, 0, 0] ⟨rfl, rfl, rfl, rfl, rfl, trivial⟩ rfl
      · rw [if_neg (by decide)]
        repeat (first|refine sc rfl ?_|refine so rfl ?_|refine sb rfl ?_)
        refine ⟨by decide, ?_⟩
        repeat (first|refine sc rfl ?_|refine so rfl ?_|refine sb rfl ?_)
        first
          | refine O_callA [1, 1, 1] (playRecv_A s mg tm 0 g cc b) (by rfl) (by rfl) (by rfl) (by rfl) (by rfl) ?_
          | refine O_callA [2, 2, 2] (playRecv_A s mg tm 0 g cc b) (by rfl) (by rfl) (by rfl) (by rfl) (by rfl) ?_
        rintro r' cs' ⟨h, d, hd, rfl, rfl⟩
        rw [rb_eq]
        repeat (first|refine sc rfl ?_|refine so rfl ?_|refine sb rfl ?_)
        refine C_loop (fun _ : Unit => ⟨[(5, PT t 0), (8, PT s 0), (32, SL 4 Evt.c evs3), (33, I64 ((3 : Nat) : Int)), (34, I64 ((1 : Nat) : Int)), (43, I64 0), (44, I64 0)], .abs (tlA t fE3) :: (srvL3 s mg tm 0 g cc b 2 (-1) (HD h 1 d) ++ [outA (HD h 1 d) rb, tenM tm h2]).map Ch.abs⟩) (fun _ => True) (fun _ => 0) () trivial ?_ ?_
        · first
            | exact Le.pick [5, 0, 0, 0, 0, 1] ⟨rfl, rfl, rfl, rfl, rfl, rfl, rfl, trivial⟩ rfl
            | exact Le.pick [4, 0, 0, 0, 0, 0] ⟨rfl, rfl, rfl, rfl, rfl, rfl, rfl, trivial⟩ rfl
            | exact Le.pick [5, 0, 0, 0, 0, 0] ⟨rfl, rfl, rfl, rfl, rfl, rfl, rfl, trivial⟩ rfl
            | exact Le.pick [4, 0, 0, 0, 0, 1] ⟨rfl, rfl, rfl, rfl, rfl, rfl, rfl, trivial⟩ rfl
        intro _ _
        repeat (first|refine sc rfl ?_|refine so rfl ?_|refine sb rfl ?_)
        refine C_false rfl (by decide) ?_
        repeat (first|refine sc rfl ?_|refine so rfl ?_|refine sb rfl ?_)
        refine ⟨⟨2, g, cc, b, h, d⟩, ⟨by show 2 ≤ 3; decide, hd⟩, by show 3 - 2 < 3 - 1; decide, ?_⟩
        first
          | exact Le.pick [0, 0, 0, 0, 0, 0] ⟨rfl, rfl, rfl, rfl, rfl, trivial⟩ rfl
      · rw [if_neg (by decide)]
        repeat (first|refine sc rfl ?_|refine so rfl ?_|refine sb rfl ?_)
        refine ⟨by decide, ?_⟩
        repeat (first|refine sc rfl ?_|refine so rfl ?_|refine sb rfl ?_)
        first
          | refine O_callA [1, 1, 1, 1, 1] (playDel_A s mg tm 0 g cc b h2 h d hd) (by rfl) (by rfl) (by rfl) (by rfl) (by rfl) ?_
          | refine O_callA [2, 2, 2, 2, 2] (playDel_A s mg tm 0 g cc b h2 h d hd) (by rfl) (by rfl) (by rfl) (by rfl) (by rfl) ?_
        rintro r' cs' ⟨rfl, rfl⟩
        repeat (first|refine sc rfl ?_|refine so rfl ?_|refine sb rfl ?_)
        refine C_loop (fun j : Nat => ⟨[(5, PT t 0), (8, PT s 0), (32, SL 4 Evt.c evs3), (33, I64 ((3 : Nat) : Int)), (34, I64 ((2 : Nat) : Int)), (42, SL 4 Ou.c [ou3]), (43, I64 ((1 : Nat) : Int)), (44, I64 (j : Nat))], [.abs (tlA t (if j = 0 then fE3 else fE4))]⟩) (fun j => j ≤ 1) (fun j => 1 - j) 0 (Nat.zero_le _) ?_ ?_
        · first
            | exact Le.pick [0] ⟨rfl, rfl, rfl, rfl, rfl, rfl, rfl, rfl, trivial⟩ rfl
            | exact Le.pick [1] ⟨rfl, rfl, rfl, rfl, rfl, rfl, rfl, rfl, trivial⟩ rfl
        intro j hj
        repeat (first|refine sc rfl ?_|refine so rfl ?_|refine sb rfl ?_)
        refine C_if rfl (fun k3 => ?_) (fun k3 => ?_) <;> simp only [pL] at k3
        · obtain rfl : j = 0 := by omega
          rw [if_pos rfl]
          repeat (first|refine sc rfl ?_|refine so rfl ?_|refine sb rfl ?_)
          refine ⟨by decide, ?_⟩
          repeat (first|refine sc rfl ?_|refine so rfl ?_|refine sb rfl ?_)
          first
            | refine O_callA [0] (out_A t fE3 ou3) (by rfl) (by rfl) (by rfl) (by rfl) (by rfl) ?_
            | refine O_callA [1] (out_A t fE3 ou3) (by rfl) (by rfl) (by rfl) (by rfl) (by rfl) ?_
            | refine O_callA [2] (out_A t fE3 ou3) (by rfl) (by rfl) (by rfl) (by rfl) (by rfl) ?_
            | refine O_callA [3] (out_A t fE3 ou3) (by rfl) (by rfl) (by rfl) (by rfl) (by rfl) ?_
            | refine O_callA [4] (out_A t fE3 ou3) (by rfl) (by rfl) (by rfl) (by rfl) (by rfl) ?_
          rintro r' cs' ⟨rfl, rfl⟩
          repeat (first|refine sc rfl ?_|refine so rfl ?_|refine sb rfl ?_)
          refine ⟨1, Nat.le_refl _, by decide, ?_⟩
          first
            | exact Le.pick [0] ⟨rfl, rfl, rfl, rfl, rfl, rfl, rfl, rfl, trivial⟩ rfl
            | exact Le.pick [1] ⟨rfl, rfl, rfl, rfl, rfl, rfl, rfl, rfl, trivial⟩ rfl
        · obtain rfl : j = 1 := by omega
          rw [if_neg (by decide)]
          repeat (first|refine sc rfl ?_|refine so rfl ?_|refine sb rfl ?_)
          refine ⟨⟨3, 0, 0, 0, 0, 1⟩, ⟨by show 3 ≤ 3; decide, Nat.le_refl _⟩, by show 3 - 3 < 3 - 2; decide, ?_⟩
          exact Le.pick [0] ⟨rfl, rfl, rfl, rfl, rfl, trivial⟩ rfl
    · obtain rfl : i = 3 := by omega
      rw [if_pos rfl]
      repeat (first|refine sc rfl ?_|refine so rfl ?_|refine sb rfl ?_)
      first
        | exact ⟨_, [_], _, rfl, pickA_perm (is := [0]) (As := [_]) rfl, rfl, t, rfl, rfl⟩
end Go.Proofs

namespace Go.Proofs
open Go.Sy Go.Lib

def exS : List UInt8 := [111, 112, 101, 110, 10, 112, 105, 110, 103, 32, 48, 10, 100, 101, 108, 105, 118, 101, 114, 32, 48]
theorem readS_ex : readS exS = (⟨0, evs3, [1, 2, 3]⟩, 0, 0) := by rfl
theorem fE4_eq (i : Nat) : fE4 i = if i = 5 ∨ i = 26 then 1 else if i = 42 then 36 else 0 := by
  have h : fE4 = updC (updC (updC (fun _ => 0) 5 1) 26 1) 42 36 := by rfl
  rw [h]
  unfold updC
  by_cases h1 : i = 42
  · subst h1; rfl
  · by_cases h2 : i = 26
    · subst h2; rfl
    · by_cases h3 : i = 5
      · subst h3; rfl
      · simp [h1, h2, h3]
theorem itoa36 : Lib.itoa 36 = [51, 54] := by
  unfold Lib.itoa
  rw [if_neg (by decide), Lib.decDigits, dif_neg (by decide), Lib.decDigits, dif_pos (by decide)]
  rfl
def outB (i : Nat) : List UInt8 := match i with | 0 => [] | 1 => lnE1 | 2 => lnE1 ++ lnE2 | _ => lnE1 ++ lnE2 ++ lnE3
def exT : List UInt8 := [99, 97, 109, 101, 32, 112, 105, 110, 103, 32, 49, 10, 114, 101, 102, 117, 115, 101, 100, 32, 97, 117, 116, 104, 32, 49, 10, 98, 121, 116, 101, 115, 32, 51, 54, 10]
theorem TX_e4 : TX fE4 = exT := by
  have h1 : Lib.itoa 1 = [49] := itoa_d 1 (by decide)
  simp [TX, catL, FC, FR, FS, FT, lineF, fE4_eq, Lib.join, h1, itoa36, exT]
  rfl
theorem hf4 : ∀ i, ok8 (fE4 i) := fun i => by
  rw [fE4_eq]
  split
  · decide
  · split <;> decide
def PEx : Pl := ⟨[[], [], [], [], []], [0], [], []⟩
def CEx (b : Nat) (u : Bool) (h : Value) (b0 : Bool) : List Ch := .box 3 28 [U64 ((0 : Nat) : Int), SL 4 Evt.c evs3, SL 1 INTc [1, 2, 3]] :: (bif b0 then [] else [.abs (bldC b u h), .abs (bufA h 5 (outB 3))])
theorem Run_W : FnK 13 [.s exS] [] (fun r cs' => r = .s (lnE1 ++ lnE2 ++ lnE3 ++ exT) ∧ cs' = []) := by
  refine FnW.intro Tryz.tabOK Tryz.wide_ Tryz.func13 rfl (by decide) rfl (fun X hK => ?_)
  repeat (first|refine sc rfl ?_|refine so rfl ?_|refine sb rfl ?_)
  have hR := Read_P exS (by decide) (by decide)
  rw [readS_ex] at hR
  refine O_call hR (by rfl) (by rfl) (by rfl) (by rfl) (fun r hr => ?_)
  subst hr
  repeat (first|refine sc rfl ?_|refine so rfl ?_|refine sb rfl ?_)
  refine C_false rfl (by decide) ?_
  repeat (first|refine sc rfl ?_|refine so rfl ?_|refine sb rfl ?_)
  first
    | refine C_absb 5 rfl rfl rfl (fun B => ?_)
    | refine O_absb 5 rfl rfl rfl (fun B => ?_)
  first
    | refine C_le _ (Le.addAbs (bufA (.slice none 0 0) 5 []) rfl (fun _ _ => ⟨rfl, .inl ⟨rfl, rfl⟩⟩)) ?_
    | refine O_le _ (Le.addAbs (bufA (.slice none 0 0) 5 []) rfl (fun _ _ => ⟨rfl, .inl ⟨rfl, rfl⟩⟩)) ?_
  refine O_callA [] (srvNew_A 0) (by rfl) (by rfl) (by rfl) (by rfl) (by rfl) ?_
  rintro r' cs' ⟨s, mg, tm, h2, g0, c0, d0, rfl, rfl⟩
  repeat (first|refine sc rfl ?_|refine so rfl ?_|refine sb rfl ?_)
  refine C_loop (fun p : Par × Bool × Value => ⟨[(3, .bp 3 0), (5, PT B 0), (6, PT s 0), (29, SL 4 Evt.c evs3), (30, I64 ((3 : Nat) : Int)), (31, I64 (p.1.i : Nat))], .box 3 28 [U64 ((0 : Nat) : Int), SL 4 Evt.c evs3, SL 1 INTc [1, 2, 3]] :: .abs (bldC B p.2.1 p.2.2) :: .abs (bufA p.2.2 5 (outB p.1.i)) :: (stg s mg tm h2 p.1).map Ch.abs⟩) (fun p => p.1.i ≤ 3 ∧ 1 ≤ p.1.d ∧ HdB p.2.2 (outB p.1.i)) (fun p => 3 - p.1.i) (⟨0, 0, 0, 0, 0, 1⟩, false, .slice none 0 0) ⟨Nat.zero_le _, Nat.le_refl _, .inl ⟨rfl, rfl⟩⟩ ?_ ?_
  · exact Le.pick [9, 7, 6, 0, 0] ⟨rfl, rfl, rfl, rfl, rfl, rfl, trivial⟩ rfl
  rintro ⟨⟨i, g, cc, b, h, d⟩, u, hv⟩ ⟨hi, hd, hH⟩
  simp only [] at hi hd hH ⊢
  repeat (first|refine sc rfl ?_|refine so rfl ?_|refine sb rfl ?_)
  refine C_if rfl (fun k1 => ?_) (fun k1 => ?_) <;> simp only [pL] at k1
  · have hil : i = 0 ∨ i = 1 ∨ i = 2 := by omega
    rcases hil with rfl | rfl | rfl
    · repeat (first|refine sc rfl ?_|refine so rfl ?_|refine sb rfl ?_)
      refine ⟨by decide, ?_⟩
      repeat (first|refine sc rfl ?_|refine so rfl ?_|refine sb rfl ?_)
      refine C_drawU 20 8 rfl (by kernel_rfl) (by kernel_rfl) (by kernel_rfl) ?_
      repeat (first|refine sd rfl ?_|refine sdb rfl ?_|refine sds rfl ?_)
      refine ⟨by decide, ?_⟩
      repeat (first|refine sd rfl ?_|refine sdb rfl ?_|refine sds rfl ?_)
      refine D_callW hK (itoaE 1 [49] (itoa_d 1 (by decide)) (by decide) (by decide)) rfl rfl rfl rfl ?_
      repeat (first|refine sd rfl ?_|refine sdb rfl ?_|refine sds rfl ?_)
      repeat (first|refine sc rfl ?_|refine so rfl ?_|refine sb rfl ?_)
      refine O_callW hK [4] (evOpen_W s mg tm 0) (by rfl) (by rfl) (by rfl) (by rfl) (by rfl) ?_
      rintro r' cs' ⟨g, cc, b, rfl, rfl⟩
      repeat (first|refine sc rfl ?_|refine so rfl ?_|refine sb rfl ?_)
      refine O_callA [5, 5] (WriteString_A B u hv (outB 0) lnE1 hH (by decide)) (by rfl) (by rfl) (by rfl) (by rfl) (by rfl) ?_
      rintro r' cs' ⟨rfl, h', hH', rfl⟩
      repeat (first|refine sc rfl ?_|refine so rfl ?_|refine sb rfl ?_)
      refine ⟨(⟨1, g, cc, b, 0, 1⟩, true, h'), ⟨by show 1 ≤ 3; decide, Nat.le_refl _, hH'⟩, by show 3 - 1 < 3 - 0; decide, ?_⟩
      exact Le.pick [6, 0, 0, 0, 0, 0, 1] ⟨rfl, rfl, rfl, rfl, rfl, rfl, trivial⟩ rfl
    · repeat (first|refine sc rfl ?_|refine so rfl ?_|refine sb rfl ?_)
      refine ⟨by decide, ?_⟩
      repeat (first|refine sc rfl ?_|refine so rfl ?_|refine sb rfl ?_)
      refine C_drawU 20 8 rfl (by kernel_rfl) (by kernel_rfl) (by kernel_rfl) ?_
      repeat (first|refine sd rfl ?_|refine sdb rfl ?_|refine sds rfl ?_)
      refine ⟨by decide, ?_⟩
      repeat (first|refine sd rfl ?_|refine sdb rfl ?_|refine sds rfl ?_)
      refine D_callW hK (itoaE 2 [50] (itoa_d 2 (by decide)) (by decide) (by decide)) rfl rfl rfl rfl ?_
      repeat (first|refine sd rfl ?_|refine sdb rfl ?_|refine sds rfl ?_)
      repeat (first|refine sc rfl ?_|refine so rfl ?_|refine sb rfl ?_)
      refine O_callW hK [4, 4, 4] (evRecv_W s mg tm 0 g cc b) (by rfl) (by rfl) (by rfl) (by rfl) (by rfl) ?_
      rintro r' cs' ⟨h, d, hd, rfl, rfl⟩
      repeat (first|refine sc rfl ?_|refine so rfl ?_|refine sb rfl ?_)
      refine O_callA [6, 6] (WriteString_A B u hv (outB 1) lnE2 hH (by decide)) (by rfl) (by rfl) (by rfl) (by rfl) (by rfl) ?_
      rintro r' cs' ⟨rfl, h', hH', rfl⟩
      repeat (first|refine sc rfl ?_|refine so rfl ?_|refine sb rfl ?_)
      rw [rb_eq]
      refine ⟨(⟨2, g, cc, b, h, d⟩, true, h'), ⟨by show 2 ≤ 3; decide, hd, hH'⟩, by show 3 - 2 < 3 - 1; decide, ?_⟩
      exact Le.pick [7, 0, 0, 0, 0, 0, 0, 1] ⟨rfl, rfl, rfl, rfl, rfl, rfl, trivial⟩ rfl
    · repeat (first|refine sc rfl ?_|refine so rfl ?_|refine sb rfl ?_)
      refine ⟨by decide, ?_⟩
      repeat (first|refine sc rfl ?_|refine so rfl ?_|refine sb rfl ?_)
      refine C_drawU 20 8 rfl (by kernel_rfl) (by kernel_rfl) (by kernel_rfl) ?_
      repeat (first|refine sd rfl ?_|refine sdb rfl ?_|refine sds rfl ?_)
      refine ⟨by decide, ?_⟩
      repeat (first|refine sd rfl ?_|refine sdb rfl ?_|refine sds rfl ?_)
      refine D_callW hK (itoaE 3 [51] (itoa_d 3 (by decide)) (by decide) (by decide)) rfl rfl rfl rfl ?_
      repeat (first|refine sd rfl ?_|refine sdb rfl ?_|refine sds rfl ?_)
      repeat (first|refine sc rfl ?_|refine so rfl ?_|refine sb rfl ?_)
      refine O_callW hK [4, 4, 4, 4, 4] (evDeliv_W s mg tm 0 g cc b h2 h d hd) (by rfl) (by rfl) (by rfl) (by rfl) (by rfl) ?_
      rintro r' cs' ⟨rfl, rfl⟩
      repeat (first|refine sc rfl ?_|refine so rfl ?_|refine sb rfl ?_)
      refine O_callA [2, 2] (WriteString_A B u hv (outB 2) lnE3 hH (by decide)) (by rfl) (by rfl) (by rfl) (by rfl) (by rfl) ?_
      rintro r' cs' ⟨rfl, h', hH', rfl⟩
      repeat (first|refine sc rfl ?_|refine so rfl ?_|refine sb rfl ?_)
      refine ⟨(⟨3, 0, 0, 0, 0, 1⟩, true, h'), ⟨by show 3 ≤ 3; decide, Nat.le_refl _, hH'⟩, by show 3 - 3 < 3 - 2; decide, ?_⟩
      exact Le.pick [3, 0, 0] ⟨rfl, rfl, rfl, rfl, rfl, rfl, trivial⟩ rfl
  · obtain rfl : i = 3 := by omega
    repeat (first|refine sc rfl ?_|refine so rfl ?_|refine sb rfl ?_)
    refine C_drawMT PEx 20 5 (fun L => CEx B u hv (L 0)) rfl (by kernel_rfl) (by kernel_rfl) (by kernel_rfl) (by kernel_rfl) (fun L L' h => by show CEx B u hv (L 0) = CEx B u hv (L' 0); rw [h 0 (by decide)]) rfl ?_
    refine SM (.s (outB 3)) rfl (fun L h1 h2 h3 => ?_) ?_
    · show StepX _ _ _ _ _ (CEx B u hv (L 0)) (CEx B u hv true) _ _ _
      rw [show L 0 = false from h3]
      exact X_callA [1, 1] (String_A B u hv _ hH) rfl rfl rfl rfl rfl
    refine sm rfl ⟨trivial, ?_⟩
    refine SM (U64 ((0 : Nat) : Int)) rfl (fun L h1 h2 h3 => ?_) ?_
    · show StepX _ _ _ _ _ (CEx B u hv (L 0)) (CEx B u hv (L 0)) _ _ _
      exact X_stillX rfl rfl rfl trivial
    refine sm rfl ⟨trivial, ?_⟩
    refine SM (SL 4 Evt.c evs3) rfl (fun L h1 h2 h3 => ?_) ?_
    · show StepX _ _ _ _ _ (CEx B u hv (L 0)) (CEx B u hv (L 0)) _ _ _
      exact X_stillX rfl rfl rfl trivial
    refine sm rfl ?_
    refine O_callA [] tallyOf3_A (by rfl) (by rfl) (by rfl) (by rfl) (by rfl) ?_
    rintro r' cs' ⟨t, rfl, rfl⟩
    repeat (first|refine sc rfl ?_|refine so rfl ?_|refine sb rfl ?_)
    refine O_callW hK [0] (text_W t fE4 hf4) (by rfl) (by rfl) (by rfl) (by rfl) (by rfl) ?_
    rintro r' cs' ⟨rfl, rfl⟩
    rw [TX_e4]
    repeat (first|refine sc rfl ?_|refine so rfl ?_|refine sb rfl ?_)
    refine ⟨by decide, ?_⟩
    repeat (first|refine sc rfl ?_|refine so rfl ?_|refine sb rfl ?_)
    exact ⟨_, [], _, rfl, pickA_perm (is := []) (As := []) rfl, rfl, rfl, rfl⟩
theorem awake50_W : FnK 7 [] [] (fun r cs' => r = B true ∧ cs' = []) := by
  refine FnW.intro Tryz.tabOK Tryz.wide_ Tryz.func7 rfl (by decide) rfl (fun X hK => ?_)
  repeat (first|refine sc rfl ?_|refine so rfl ?_|refine sb rfl ?_)
  refine O_callW hK [] Run_W (by rfl) (by rfl) (by rfl) (by rfl) (by rfl) ?_
  rintro r' cs' ⟨rfl, rfl⟩
  repeat (first|refine sc rfl ?_|refine so rfl ?_|refine sb rfl ?_)
  exact ⟨_, [], _, rfl, pickA_perm (is := []) (As := []) rfl, rfl, by rfl, rfl⟩
end Go.Proofs

namespace Go.Proofs
open Go.Sy Go.Lib

def stL (i : Nat) (x : Sht) (k : Bool) (l : List UInt8) : Sht × Bool × Int := match wordsF l with
  | [] => (x, k, 0)
  | w :: ws => if w.head? = some 35 then (x, k, 0)
    else ((addF x ((i + 1 : Nat) : Int) k (w :: ws, false)).1, k || (w == [107, 101, 121]), (addF x ((i + 1 : Nat) : Int) k (w :: ws, false)).2)
theorem rdL_cons (i : Nat) (x : Sht) (k : Bool) (l : List UInt8) (r : List (List UInt8)) :
    rdL i x k (l :: r) = if (stL i x k l).2.2 ≠ 0 then (Sht.nil, (stL i x k l).2.2, i + 1) else rdL (i + 1) (stL i x k l).1 (stL i x k l).2.1 r := by
  unfold stL
  rw [rdL]
  cases wordsF l with
  | nil => simp
  | cons w ws =>
    simp only []
    split
    · simp
    · rfl
theorem stL_nil (i : Nat) (x : Sht) (k : Bool) : stL i x k [] = (x, k, 0) := rfl
theorem addF_eq (x : Sht) (n : Int) (k : Bool) (q : Cu) (h : x.evs.length = x.lns.length) : (addF x n k q).1.evs.length = (addF x n k q).1.lns.length := by
  unfold addF
  split
  · split <;> exact h
  · split
    · exact h
    · split
      · exact h
      · simp [h]
theorem stL_eq (i : Nat) (x : Sht) (k : Bool) (l : List UInt8) (h : x.evs.length = x.lns.length) : (stL i x k l).1.evs.length = (stL i x k l).1.lns.length := by
  unfold stL
  split
  · exact h
  · split
    · exact h
    · exact addF_eq _ _ _ _ h
theorem rdL_eq : ∀ (L : List (List UInt8)) (i : Nat) (x : Sht) (k : Bool), x.evs.length = x.lns.length → (rdL i x k L).1.evs.length = (rdL i x k L).1.lns.length
  | [], _, _, _, h => h
  | l :: r, i, x, k, h => by
    rw [rdL_cons]
    split
    · rfl
    · exact rdL_eq r _ _ _ (stL_eq _ _ _ _ h)
def joinL (A : List (List UInt8)) : List UInt8 := (A.map (· ++ [10])).flatten
end Go.Proofs

namespace Go.Proofs
open Go.Sy Go.Lib

theorem spl_snoc_eq (c : UInt8) (l : List UInt8) : spl c (l ++ [c]) = spl c l ++ [[]] := by
  rw [spl_app]; rfl
theorem spl_snoc_ne (c x : UInt8) (hx : ¬ x = c) : ∀ (l : List UInt8) (d : List (List UInt8)) (w : List UInt8), spl c l = d ++ [w] → spl c (l ++ [x]) = d ++ [w ++ [x]]
  | [], d, w, h => by
    have : d = [] ∧ w = [] := by
      cases d with
      | nil => simp [spl] at h; exact ⟨rfl, h⟩
      | cons a d => simp [spl] at h
    obtain ⟨rfl, rfl⟩ := this
    simp [spl, hx]
  | y :: r, d, w, h => by
    simp only [List.cons_append, spl] at h ⊢
    by_cases hy : y = c
    · rw [if_pos hy] at h ⊢
      cases d with
      | nil =>
        simp only [List.nil_append, List.cons.injEq] at h
        exact absurd h.2 (spl_ne c r)
      | cons a d =>
        simp only [List.cons_append, List.cons.injEq] at h ⊢
        exact ⟨h.1, spl_snoc_ne c x hx r d w h.2⟩
    · rw [if_neg hy] at h ⊢
      cases hs : spl c r with
      | nil => exact absurd hs (spl_ne c r)
      | cons p q =>
        rw [hs] at h
        simp only [] at h
        cases d with
        | nil =>
          simp only [List.nil_append, List.cons.injEq] at h
          obtain ⟨h1, rfl⟩ := h
          rw [spl_snoc_ne c x hx r [] p (by rw [hs]; rfl)]
          simp [← h1]
        | cons a d =>
          simp only [List.cons_append, List.cons.injEq] at h
          obtain ⟨h1, rfl⟩ := h
          rw [spl_snoc_ne c x hx r (p :: d) w (by rw [hs]; rfl)]
          simp [← h1]
theorem Le.vec1 {X : Ctx Tryz.prog Tryz.tab} {n : Nat} (q : Nat) {g cc t : Nat} {row : Nat → List AV} {x : AV} {s : List (Nat × AV)} {c cr : List Ch} (hp : nthA q c = some (vecA (HD g 1 cc) t 1 1 row, cr)) (hr : row 0 = [x]) :
    Le X n ⟨s, c⟩ ⟨s, .abs (slO (HO g 0 1 cc) t 1 [x]) :: cr⟩ := by
  intro e a w r
  refine ⟨e, { r with slots := r.slots, heap := ?_ }⟩
  refine HeapOK.retell (r.heap.perm (nthA_perm hp)) ?_
  rintro bs ⟨rfl, xs, g1, g2⟩
  refine ⟨rfl, ownsRow_slO g1 ?_⟩
  have := g2 0 (by decide)
  rw [hr] at this
  have hl := g1.1
  rw [List.drop_zero, List.take_of_length_le (by omega)] at this
  exact this
theorem reads_sl1 {g o m c : Nat} {t : TypeId} {esz : Nat} {cells : List AV} {j : Nat} {x : AV} (h : cells[j]? = some x) : Reads (slO (HO g o m c) t esz cells) g (o + j) [x] := by
  rintro G w hok i y hy
  cases i with
  | zero =>
    simp only [List.getElem?_cons_zero, Option.some.injEq] at hy
    subst hy
    have := reads_slO (t := t) j G w hok 0 x (by rw [List.getElem?_drop]; simpa using h)
    simpa using this
  | succ i => simp at hy
theorem refSplit_c (s : List UInt8) (c : UInt8) (hs : s.length ≤ 1000000) : FnP Tryz.prog 17 [.s s, .v (.int .u8 (c.toNat : Int))] (· = SL 1 wc1 (spl c s)) := by
  refine FnP.intro Tryz.tabOK Tryz.wide_ Tryz.func17 rfl (by decide) rfl (fun X => ?_)
  repeat (first|refine sc rfl ?_|refine so rfl ?_|refine sb rfl ?_)
  refine C_absv 5 rfl rfl (fun h => by cases h) (fun g0 cc0 => ?_)
  refine C_le _ (Le.vec1 0 rfl (x := .s []) rfl) ?_
  refine C_loop (fun (q : List (List UInt8) × List UInt8 × Nat × Nat × Nat × Nat) => ⟨[(0, .s s), (1, .v (.int .u8 (c.toNat : Int))), (5, .v (HO q.2.2.2.1 q.2.2.2.2.1 (q.1.length + 1) q.2.2.2.2.2)), (6, I64 (q.2.2.1 : Nat))], [.abs (slO (HO q.2.2.2.1 q.2.2.2.2.1 (q.1.length + 1) q.2.2.2.2.2) 9 1 ((q.1 ++ [q.2.1]).map AV.s))]⟩)
    (fun q => q.2.2.1 ≤ s.length ∧ spl c (s.take q.2.2.1) = q.1 ++ [q.2.1] ∧ q.1.length ≤ q.2.2.1 ∧ q.2.1.length ≤ q.2.2.1) (fun q => s.length - q.2.2.1) ([], [], 0, g0, 0, cc0) ⟨Nat.zero_le _, rfl, Nat.le_refl _, Nat.le_refl _⟩ (Le.pick [0] ⟨rfl, rfl, rfl, rfl, trivial⟩ rfl) ?_
  rintro ⟨d, w, i, g, o, cc⟩ ⟨h1, h2, h3, h4⟩
  simp only [] at h1 h2 h3 h4 ⊢
  repeat (first|refine sc rfl ?_|refine so rfl ?_|refine sb rfl ?_)
  refine C_if rfl (fun m1 => ?_) (fun m1 => ?_) <;> simp only [pL] at m1
  · have hi : i < s.length := by omega
    obtain ⟨x, hx⟩ : ∃ x, s.getD i 0 = x := ⟨_, rfl⟩
    have htk : s.take (i + 1) = s.take i ++ [x] := by
      rw [List.take_succ_eq_append_getElem hi, ← hx, List.getD_eq_getElem?_getD, List.getElem?_eq_getElem hi]; rfl
    repeat (first|refine sc rfl ?_|refine so rfl ?_|refine sb rfl ?_)
    refine ⟨by omega, ?_⟩
    simp only [Int.toNat_natCast, hx]
    repeat (first|refine sc rfl ?_|refine so rfl ?_|refine sb rfl ?_)
    refine C_if rfl (fun m2 => ?_) (fun m2 => ?_) <;> simp only [pL] at m2
    · have hxc : x = c := UInt8.toNat_inj.1 (by omega)
      repeat (first|refine sc rfl ?_|refine so rfl ?_|refine sb rfl ?_)
      refine O_le _ (Le.freeze 20 rfl rfl) ?_
      refine O_appendO 0 (x := .s []) rfl rfl rfl rfl rfl rfl rfl (by simp; omega) (by simp [maxLen]; omega) (fun v' hv => ?_)
      refine O_slO 0 rfl (fun _ h => by simp at h) (fun g2 o2 m2 cc2 hv2 hm2 _ _ => ?_)
      obtain rfl : m2 = d.length + 1 + 1 := by simp at hm2; omega
      subst hv2
      repeat (first|refine sc rfl ?_|refine so rfl ?_|refine sb rfl ?_)
      rw [w64 (x := (i : Int) + 1) (by omega) (by omega)]
      refine ⟨(d ++ [w], [], i + 1, g2, o2, cc2), ⟨by simp only []; omega, by simp only []; rw [htk, hxc, spl_snoc_eq, h2], by simp; omega, by simp⟩, by simp only []; omega, ?_⟩
      simp only [List.length_append, List.length_cons, List.length_nil, List.map_append, List.map_cons, List.map_nil]
      exact Le.pick [0] ⟨rfl, rfl, rfl, rfl, trivial⟩ rfl
    · have hxc : ¬ x = c := fun e => m2 (by rw [e])
      repeat (first|refine sc rfl ?_|refine so rfl ?_|refine sb rfl ?_)
      refine C_drawU 20 12 rfl (by kernel_rfl) (by kernel_rfl) (by kernel_rfl) ?_
      repeat (first|refine sd rfl ?_|refine sdb rfl ?_|refine sds rfl ?_)
      rw [w64 (x := ((d.length + 1 : Nat) : Int) - 1) (by omega) (by omega), show ((d.length + 1 : Nat) : Int) - 1 = (d.length : Int) by omega]
      refine ⟨by omega, ?_⟩
      simp only [Int.toNat_natCast]
      repeat (first|refine sd rfl ?_|refine sdb rfl ?_|refine sds rfl ?_)
      rw [Nat.mul_one]
      refine D_X (.s w) (X_loadP 0 (reads_sl1 (x := .s w) (by simp)) rfl rfl rfl rfl rfl rfl) ?_
      repeat (first|refine sd rfl ?_|refine sdb rfl ?_|refine sds rfl ?_)
      rw [w64 (x := (i : Int) + 1) (by omega) (by omega)]
      refine ⟨by omega, ?_⟩
      repeat (first|refine sd rfl ?_|refine sdb rfl ?_|refine sds rfl ?_)
      have hsl : List.take (((i : Int) + 1).toNat - ((i : Nat) : Int).toNat) (List.drop ((i : Nat) : Int).toNat s) = [x] := by
        rw [show ((i : Int) + 1).toNat - ((i : Nat) : Int).toNat = 1 by omega, Int.toNat_natCast, List.drop_eq_getElem_cons hi, ← hx, List.getD_eq_getElem?_getD, List.getElem?_eq_getElem hi]
        rfl
      rw [hsl]
      refine ⟨by simp; omega, ?_⟩
      repeat (first|refine sd rfl ?_|refine sdb rfl ?_|refine sds rfl ?_)
      repeat (first|refine sc rfl ?_|refine so rfl ?_|refine sb rfl ?_)
      refine ⟨by omega, ?_⟩
      simp only [Int.toNat_natCast]
      rw [Nat.mul_one]
      refine O_Xn (X_storeP 0 (writes_slO (x := .s (w ++ [x])) (j := d.length) (by simp)) rfl rfl rfl rfl rfl rfl rfl) ?_
      rw [show (List.map AV.s (d ++ [w])).set d.length (.s (w ++ [x])) = List.map AV.s (d ++ [w ++ [x]]) by simp]
      repeat (first|refine sc rfl ?_|refine so rfl ?_|refine sb rfl ?_)
      rw [w64 (x := (i : Int) + 1) (by omega) (by omega)]
      refine ⟨(d, w ++ [x], i + 1, g, o, cc), ⟨by simp only []; omega, by simp only []; rw [htk]; exact spl_snoc_ne c x hxc _ _ _ h2, by simp only []; omega, by simp; omega⟩, by simp only []; omega, ?_⟩
      exact Le.pick [0] ⟨rfl, rfl, rfl, rfl, trivial⟩ rfl
  · obtain rfl : i = s.length := by omega
    rw [List.take_length] at h2
    refine C_le _ (Le.frSlO 0 (m := (d ++ [w]).length) (fun i => wc1 ((d ++ [w]).getD i default)) rfl (by simp) (by decide) (fun j hj => ?_)) ?_
    · have hj2 : j < ((d ++ [w]).map AV.s).length := by simpa using hj
      rw [Nat.mul_one, List.drop_eq_getElem_cons hj2]
      simp only [List.take_succ_cons, List.take_zero, List.getElem_map]
      rw [List.getD_eq_getElem?_getD, List.getElem?_eq_getElem hj]
      rfl
    refine C_le _ (Le.slotA 0 5 rfl rfl) ?_
    repeat (first|refine sc rfl ?_|refine so rfl ?_|refine sb rfl ?_)
    exact ⟨_, rfl, rfl, by rw [h2]⟩
end Go.Proofs

namespace Go.Proofs
open Go.Sy Go.Lib

theorem lines_c (s : List UInt8) (hs : s.length ≤ 1000000) : FnP Tryz.prog 12 [.s s] (· = SL 1 wc1 (spl 10 s)) := by
  refine FnP.intro Tryz.tabOK Tryz.wide_ Tryz.func12 rfl (by decide) rfl (fun X => ?_)
  repeat (first|refine sc rfl ?_|refine so rfl ?_|refine sb rfl ?_)
  refine O_call (refSplit_c s 10 hs) (by rfl) (by rfl) (by rfl) (by rfl) (fun r hr => ?_)
  subst hr
  repeat (first|refine sc rfl ?_|refine so rfl ?_|refine sb rfl ?_)
  exact ⟨_, rfl, rfl, rfl⟩
theorem much_le {s : List UInt8} (h : muchF s = false) : s.length ≤ 9000 ∧ s.count 10 ≤ 150 := by
  unfold muchF at h
  simp only [decide_eq_false_iff_not, not_or, Nat.not_lt] at h
  exact h
theorem sum_take : ∀ (l : List Nat) (i : Nat), (l.take i).sum ≤ l.sum
  | [], i => by simp
  | a :: l, 0 => by simp
  | a :: l, i + 1 => by
    have := sum_take l i
    simp only [List.take_succ_cons, List.sum_cons]; omega
end Go.Proofs

namespace Go.Proofs
open Go.Sy Go.Lib

theorem words_app (a b : List UInt8) : wordsF (a ++ 32 :: b) = wordsF a ++ wordsF b := by
  unfold wordsF
  rw [spl_app, List.filter_append]
theorem words_sp (b : List UInt8) : wordsF (32 :: b) = wordsF b := words_app [] b
theorem words_end (a : List UInt8) : wordsF (a ++ [32]) = wordsF a := by
  rw [words_app]
  show wordsF a ++ [] = _
  rw [List.append_nil]
def wid (k : Nat) (l : List UInt8) : List UInt8 := l.flatMap fun c => if c = 32 ∧ k % 7 = 3 then [c, 32] else [c]
theorem wid_words (k : Nat) : ∀ (l p : List UInt8), (32 : UInt8) ∉ p → wordsF (p ++ wid k l) = wordsF (p ++ l)
  | [], p, _ => rfl
  | c :: r, p, hp => by
    by_cases hc : c = 32
    · subst hc
      have ih := wid_words k r [] (by simp)
      simp only [List.nil_append] at ih
      have h1 : wid k (32 :: r) = 32 :: ((if k % 7 = 3 then [32] else []) ++ wid k r) := by
        unfold wid
        rw [List.flatMap_cons]
        by_cases h7 : k % 7 = 3 <;> simp [h7]
      rw [h1, words_app, words_app]
      congr 1
      by_cases h7 : k % 7 = 3
      · rw [if_pos h7]
        show wordsF (32 :: wid k r) = _
        rw [words_sp, ih]
      · rw [if_neg h7]
        exact ih
    · have h1 : wid k (c :: r) = [c] ++ wid k r := by
        unfold wid
        rw [List.flatMap_cons, if_neg (fun h => hc h.1)]
      have ih := wid_words k r (p ++ [c]) (by simp only [List.mem_append, List.mem_singleton, not_or]; exact ⟨hp, fun e => hc e.symm⟩)
      rw [h1, ← List.append_assoc, ih, List.append_assoc]
      rfl
abbrev e1L : List UInt8 := [32, 32]
abbrev e2L : List UInt8 := [32, 35, 32, 97, 32, 110, 111, 116, 101]
def ex1 (k : Nat) : List (List UInt8) := if k % 3 = 1 then [e1L] else []
def ex2 (k : Nat) : List (List UInt8) := if k % 5 = 2 then [e2L] else []
def wln (k : Nat) (l : List UInt8) : List UInt8 := (if k % 2 = 1 then e1L else []) ++ wid k l ++ [32]
theorem wln_words (k : Nat) (l : List UInt8) : wordsF (wln k l) = wordsF l := by
  unfold wln
  rw [words_end]
  have h := wid_words k l [] (by simp)
  simp only [List.nil_append] at h
  split
  · show wordsF (32 :: 32 :: wid k l) = _
    rw [words_sp, words_sp, h]
  · exact h
section
variable (ks : Nat → Nat)
def NN : Nat → Nat
  | 0 => 0
  | i + 1 => NN i + (ex1 (ks i)).length + (ex2 (ks i)).length + 1
def WLf : Nat → List (List UInt8) → List (List UInt8)
  | _, [] => []
  | i, l :: R => ex1 (ks i) ++ ex2 (ks i) ++ [wln (ks i) l] ++ WLf (i + 1) R
structure Alk (x y : Sht) (i : Nat) : Prop where
  key : y.key = x.key
  evs : y.evs = x.evs
  lns : y.lns = x.lns.map fun q => ((NN ks q.toNat : Nat) : Int)
  in_ : ∀ q ∈ x.lns, 1 ≤ q ∧ q ≤ (i : Int)
theorem Alk.up {x y : Sht} {i j : Nat} (h : Alk ks x y i) (hij : i ≤ j) : Alk ks x y j := ⟨h.key, h.evs, h.lns, fun q hq => ⟨(h.in_ q hq).1, by have := (h.in_ q hq).2; omega⟩⟩
theorem stL_e1 (i : Nat) (x : Sht) (k : Bool) : stL i x k e1L = (x, k, 0) := rfl
theorem stL_e2 (i : Nat) (x : Sht) (k : Bool) : stL i x k e2L = (x, k, 0) := rfl
theorem rdL_ex1 (i : Nat) (x : Sht) (k : Bool) (m : Nat) (C : List (List UInt8)) : rdL i x k (ex1 m ++ C) = rdL (i + (ex1 m).length) x k C := by
  unfold ex1
  split
  · show rdL i x k (e1L :: C) = _
    rw [rdL_cons, stL_e1]; rfl
  · rfl
theorem rdL_ex2 (i : Nat) (x : Sht) (k : Bool) (m : Nat) (C : List (List UInt8)) : rdL i x k (ex2 m ++ C) = rdL (i + (ex2 m).length) x k C := by
  unfold ex2
  split
  · show rdL i x k (e2L :: C) = _
    rw [rdL_cons, stL_e2]; rfl
  · rfl
theorem addF_alk {x y : Sht} {i : Nat} (h : Alk ks x y i) (k : Bool) (q : Cu) : (addF y ((NN ks (i + 1) : Nat) : Int) k q).2 = (addF x ((i + 1 : Nat) : Int) k q).2 ∧ Alk ks (addF x ((i + 1 : Nat) : Int) k q).1 (addF y ((NN ks (i + 1) : Nat) : Int) k q).1 (i + 1) := by
  have hu := h.up ks (Nat.le_succ i)
  unfold addF
  rw [h.evs, h.key]
  split
  · split
    · exact ⟨rfl, hu⟩
    · exact ⟨rfl, ⟨rfl, rfl, h.lns, hu.in_⟩⟩
  · split
    · exact ⟨rfl, hu⟩
    · split
      · exact ⟨rfl, hu⟩
      · refine ⟨rfl, ⟨rfl, rfl, ?_, fun q hq => ?_⟩⟩
        · simp only [List.map_append, List.map_cons, List.map_nil, h.lns, Int.toNat_natCast]
        · rcases List.mem_append.1 hq with hq | hq
          · exact hu.in_ q hq
          · rw [List.mem_singleton.1 hq]; omega
theorem sim : ∀ (R : List (List UInt8)) (i : Nat) (x y : Sht) (k : Bool), Alk ks x y i →
    (rdL (NN ks i) y k (WLf ks i R ++ [[]])).2.1 = (rdL i x k R).2.1 ∧ Alk ks (rdL i x k R).1 (rdL (NN ks i) y k (WLf ks i R ++ [[]])).1 (i + R.length) ∧
    ((rdL i x k R).2.1 ≠ 0 → i + 1 ≤ (rdL i x k R).2.2 ∧ (rdL i x k R).2.2 ≤ i + R.length ∧ (rdL (NN ks i) y k (WLf ks i R ++ [[]])).2.2 = NN ks (rdL i x k R).2.2)
  | [], i, x, y, k, h => by
    show (rdL (NN ks i) y k [[]]).2.1 = _ ∧ _
    rw [rdL_cons, stL_nil]
    exact ⟨rfl, h, fun h => absurd rfl h⟩
  | l :: R, i, x, y, k, h => by
    have e0 : WLf ks i (l :: R) ++ [[]] = ex1 (ks i) ++ (ex2 (ks i) ++ (wln (ks i) l :: (WLf ks (i + 1) R ++ [[]]))) := by
      simp [WLf]
    rw [e0, rdL_ex1, rdL_ex2, rdL_cons, rdL_cons]
    have e1 : NN ks i + (ex1 (ks i)).length + (ex2 (ks i)).length + 1 = NN ks (i + 1) := rfl
    have key : (stL (NN ks i + (ex1 (ks i)).length + (ex2 (ks i)).length) y k (wln (ks i) l)).2 = (stL i x k l).2 ∧ Alk ks (stL i x k l).1 (stL (NN ks i + (ex1 (ks i)).length + (ex2 (ks i)).length) y k (wln (ks i) l)).1 (i + 1) := by
      unfold stL
      rw [wln_words, e1]
      cases wordsF l with
      | nil => exact ⟨rfl, h.up ks (Nat.le_succ i)⟩
      | cons w ws =>
        simp only []
        split
        · exact ⟨rfl, h.up ks (Nat.le_succ i)⟩
        · obtain ⟨h1, h2⟩ := addF_alk ks h k (w :: ws, false)
          exact ⟨by rw [h1], h2⟩
    rw [e1, key.1]
    by_cases h2 : (stL i x k l).2.2 ≠ 0
    · rw [if_pos h2, if_pos h2]
      refine ⟨rfl, ⟨rfl, rfl, rfl, fun q hq => by cases hq⟩, fun _ => ⟨Nat.le_refl _, by simp only [List.length_cons]; omega, rfl⟩⟩
    · rw [if_neg h2, if_neg h2]
      obtain ⟨g1, g2, g3⟩ := sim R (i + 1) _ _ (stL i x k l).2.1 key.2
      refine ⟨g1, ?_, fun hh => ?_⟩
      · rw [List.length_cons, show i + (R.length + 1) = i + 1 + R.length by omega]; exact g2
      · obtain ⟨k1, k2, k3⟩ := g3 hh
        exact ⟨by omega, by rw [List.length_cons]; omega, k3⟩
end
end Go.Proofs
