/- Contracts of parse: Parse; of desc: Read. -/
import Derived.Test.YtgmdpfoccnalnaaGreatE10
import Derived.Test.YtgmdpfoccnalnaaGreatE7
import Derived.Test.YtgmdpfoccnalnaaGreatE8
import Derived.Test.YtgmdpfoccnalnaaGreatE5
import Derived.Test.YtgmdpfoccnalnaaGreatE3
import Derived.Test.YtgmdpfoccnalnaaGreatE4
import Derived.Laws.StructEq
set_option linter.unusedSimpArgs false
set_option linter.unusedVariables false
set_option maxRecDepth 100000
namespace Go.Proofs
open Go.Sy Go.Lib

theorem mem_getD {α : Type} [Inhabited α] {l : List α} {i : Nat} (h : i < l.length) : l.getD i default ∈ l := by
  rw [getD_at h]; exact List.getElem_mem h
/-! ### The lexer's tokens end by an end -/
theorem oneF_txt {s : List UInt8} {i : Nat} (hs : s.length ≤ 1024) : ∀ t ∈ (oneF s i).2.2, t.text.length ≤ 1024 := by
  have htw : ∀ p : UInt8 → Bool, ((s.drop i).takeWhile p).length ≤ 1024 := fun p => Nat.le_trans (List.takeWhile_sublist p).length_le (by rw [List.length_drop]; omega)
  unfold oneF
  simp only []
  intro t ht
  split at ht
  · unfold wordF at ht
    simp only [] at ht
    split at ht
    · cases ht
    · simp only [List.mem_singleton] at ht; subst ht; exact htw _
  · split at ht
    · unfold nmbF at ht
      simp only [] at ht
      split at ht
      · cases ht
      · split at ht
        · cases ht
        · simp only [List.mem_singleton] at ht; subst ht; exact htw _
    · split at ht
      · split at ht <;> cases ht
      · split at ht
        · cases ht
        · split at ht
          · cases ht
          · simp only [List.mem_singleton] at ht; subst ht; simp

theorem lexF_ok {s : List UInt8} (hs : s.length ≤ 1024) : ∀ (n i : Nat) (ts : List Tok) (at_ : Int) (T : List Tok), s.length - i < n → i ≤ s.length → ts.length ≤ i → (∀ t ∈ ts, t.text.length ≤ 1024) → lexF s n i ts = (0, at_, T) →
    ∃ pre, T = pre ++ [⟨4, [], 0, (s.length : Nat)⟩] ∧ pre.length ≤ s.length ∧ ∀ t ∈ pre, t.text.length ≤ 1024
  | 0, i, ts, at_, T, h, _, _, _, _ => by omega
  | n + 1, i, ts, at_, T, hn, hi, hl, ht, h => by
    simp only [lexF] at h
    by_cases hil : i < s.length
    · rw [if_pos hil] at h
      by_cases h0 : (oneF s i).1 = 0
      · rw [if_pos h0] at h
        have hok := oneF_ok hil h0
        refine lexF_ok hs n _ _ at_ T (by omega) hok.2.1 (by rw [List.length_append]; omega) (fun t hm => ?_) h
        rcases List.mem_append.1 hm with hm | hm
        · exact ht t hm
        · exact oneF_txt hs t hm
      · rw [if_neg h0] at h
        simp only [Prod.mk.injEq] at h
        exact absurd h.1 h0
    · rw [if_neg hil] at h
      simp only [Prod.mk.injEq] at h
      exact ⟨ts, h.2.2.symm, by omega, ht⟩

theorem tokF_ok {s : List UInt8} (h : (tokF s).1 = 0) : TsOK (tokF s).2.2 ∧ 0 < (tokF s).2.2.length := by
  unfold tokF at h ⊢
  split at h
  · cases h
  · rename_i hs
    rw [if_neg hs]
    have hs' : s.length ≤ 1024 := by omega
    obtain ⟨pre, h1, h2, h3⟩ := lexF_ok hs' (s.length + 1) 0 [] (lexF s (s.length + 1) 0 []).2.1 (lexF s (s.length + 1) 0 []).2.2 (by omega) (Nat.zero_le _) (Nat.le_refl _) (fun t ht => absurd ht (by simp)) (by rw [← h])
    rw [h1]
    refine ⟨⟨by rw [List.length_append, List.length_singleton]; omega, fun i hi hk => ?_, fun i hi => ?_⟩, by simp⟩
    · rw [List.length_append, List.length_singleton] at hi ⊢
      rcases Nat.lt_or_ge i pre.length with hlt | hge
      · omega
      · exfalso
        have hie : i = pre.length := by omega
        subst hie
        rw [List.getD_eq_getElem?_getD, List.getElem?_append_right (Nat.le_refl _), Nat.sub_self] at hk
        simp at hk
    · have := mem_getD hi
      rcases List.mem_append.1 this with hm | hm
      · exact h3 _ hm
      · simp only [List.mem_singleton] at hm; rw [hm]; simp

/-! ### Parse -/
def parF (ts : List Tok) : Nat → PS → List Dcl → List Dcl × PS
  | 0, p, out => (out, p)
  | n + 1, p, out => if p.err = 0 ∧ (nowF ts p).kind ≠ 4 then (if out.length = 16 then (out, failF ts 3 p) else parF ts n (declF ts p).2 (out ++ [(declF ts p).1])) else (out, p)
/-- What a text is read as. -/
def parseF (s : List UInt8) : List Dcl × Int × Int :=
  if (tokF s).1 ≠ 0 then ([], (tokF s).1, (tokF s).2.1) else
  ((parF (tokF s).2.2 ((tokF s).2.2.length + 1) ⟨0, 0, 0⟩ []).1, (parF (tokF s).2.2 ((tokF s).2.2.length + 1) ⟨0, 0, 0⟩ []).2.err, (parF (tokF s).2.2 ((tokF s).2.2.length + 1) ⟨0, 0, 0⟩ []).2.fat)
/-- What Parse gives. -/
def ParP (s : List UInt8) (r : AV) : Prop :=
  ((parseF s).2.1 ≠ 0 ∧ r = .tup [.v (.slice none 0 0), .agg [I64 (parseF s).2.1, I64 (parseF s).2.2]]) ∨ ((parseF s).2.1 = 0 ∧ r = .tup [SL 5 Dcl.c (parseF s).1, .agg [I64 0, I64 0]])

/-- What is known of a number of the library. -/
def glbA (m : Int) : Abs where
  bs := []
  ok := fun G w => G 0 0 = some (.int .i64 m)
  keep := fun hG _ h => hG.1 _ _ _ h

theorem head_adv {ts : List Tok} (p : PS) : p.i ≤ (headF ts p).2.2.i ∧ ((headF ts p).2.2.err = 0 → p.i + 1 ≤ (headF ts p).2.2.i) := by
  unfold headF
  repeat' split
  all_goals first
    | exact ⟨Nat.le_succ _, fun _ => Nat.le_refl _⟩
    | exact ⟨by show p.i ≤ (failF ts 5 p).i; rw [failF_i]; exact Nat.le_refl _, fun h => absurd h (failF_err ts (by decide) p)⟩
theorem failF_keep {ts : List Tok} {e : Int} {p : PS} (h : p.err ≠ 0) : failF ts e p = p := by unfold failF; rw [if_neg h]
theorem need_keep {ts : List Tok} {s : List UInt8} {p : PS} (h : p.err ≠ 0) : (needF ts s p).err ≠ 0 := by
  have hm : mayF ts s p = false := by unfold mayF; rw [show (p.err == 0) = false by simpa using h]; rfl
  unfold needF
  rw [hm, if_neg (by decide), failF_keep h]; exact h
theorem name_keep {ts : List Tok} {p : PS} (h : p.err ≠ 0) : (nameP ts p).err ≠ 0 := by
  have hb : (nmB ts p).err ≠ 0 := by
    unfold nmB; split
    · rw [failF_keep h]; exact h
    · exact h
  unfold nameP
  rw [if_pos hb]; exact hb
theorem rows_keep {ts : List Tok} {R : PS → Dcl → Dcl × PS} {n k : Nat} {p : PS} {d : Dcl} (h : p.err ≠ 0) : (rowsF ts R n k p d).2.err ≠ 0 := by
  cases n with
  | zero => exact h
  | succ n => unfold rowsF; rw [if_neg h]; exact h
theorem headR {ts : List Tok} (p : PS) : ∀ (q : PS) (d : Dcl), q.i ≤ ((headF ts p).2.1 q d).2.i := by
  intro q d
  unfold headF
  repeat' split
  all_goals first
    | exact field_ge q d
    | exact enum_ge q d
    | exact meth_ge q d
theorem decl_adv {ts : List Tok} (p : PS) (h : (declF ts p).2.err = 0) : p.i + 1 ≤ (declF ts p).2.i := by
  have ha := head_adv (ts := ts) p
  by_cases h0 : (headF ts p).2.2.err = 0
  · have h1 := ha.2 h0
    refine Nat.le_trans h1 ?_
    exact Nat.le_trans (name_ge _) (Nat.le_trans (need_ge [123] _) (rows_ge (headR p) _ _ _ _))
  · exact absurd h (rows_keep (need_keep (name_keep h0)))
theorem headRlt {ts : List Tok} (hT : TsOK ts) (p : PS) : ∀ (q : PS) (d : Dcl), q.i < ts.length → ((headF ts p).2.1 q d).2.i < ts.length := by
  intro q d hq
  unfold headF
  repeat' split
  all_goals first
    | exact field_lt hT q d hq
    | exact enum_lt hT q d hq
    | exact meth_lt hT q d hq
theorem head_lt {ts : List Tok} (hT : TsOK ts) {p : PS} (hp : p.i < ts.length) : (headF ts p).2.2.i < ts.length := by
  unfold headF
  split
  · exact next_lt hT hp (by assumption)
  · split
    · exact next_lt hT hp (by assumption)
    · split
      · exact next_lt hT hp (by assumption)
      · split
        · exact next_lt hT hp (by assumption)
        · show (failF ts 5 p).i < _; rw [failF_i]; exact hp
theorem decl_lt {ts : List Tok} (hT : TsOK ts) {p : PS} (hp : p.i < ts.length) : (declF ts p).2.i < ts.length :=
  rows_lt hT (headRlt hT p) _ _ _ _ (need_lt hT (name_lt hT (head_lt hT hp)) _)
abbrev outA (h : Value) (out : List Dcl) : Abs := vecA h 60 5 out.length (fun i => Dcl.c (out.getD i default))

theorem Parse_A (m : Int) (s : List UInt8) : FnA Tryz.prog 67 [.s s] [glbA m] (fun r cs' => ParP s r ∧ cs' = [glbA m]) := by
  refine FnA.intro Tryz.tabOK Tryz.wide_ Tryz.func67 rfl (by decide) rfl (fun X => ?_)
  repeat (first | refine sc rfl ?_ | refine so rfl ?_ | refine sb rfl ?_)
  refine O_call (Tokens_c s) (by rfl) (by rfl) (by rfl) (by rfl) (fun r hr => ?_)
  rcases hr with ⟨h0, rfl⟩ | ⟨h0, rfl⟩
  · repeat (first | refine sc rfl ?_ | refine so rfl ?_ | refine sb rfl ?_)
    refine C_true rfl (by simp [h0]) ?_
    repeat (first | refine sc rfl ?_ | refine so rfl ?_ | refine sb rfl ?_)
    refine C_drawU 20 2 rfl (by kernel_rfl) (by kernel_rfl) (by kernel_rfl) ?_
    repeat (first | refine sd rfl ?_ | refine sdb rfl ?_ | refine sds rfl ?_)
    repeat (first | refine sc rfl ?_ | refine so rfl ?_ | refine sb rfl ?_)
    have e : parseF s = ([], (tokF s).1, (tokF s).2.1) := by unfold parseF; rw [if_pos h0]
    exact ⟨_, [glbA m], _, rfl, pickA_perm (is := [2]) (As := [_]) rfl, rfl, .inl ⟨by rw [e]; exact h0, by rw [e]; rfl⟩, rfl⟩
  · obtain ⟨hT, hpos⟩ := tokF_ok h0
    have hP : parseF s = ((parF (tokF s).2.2 ((tokF s).2.2.length + 1) ⟨0, 0, 0⟩ []).1, (parF (tokF s).2.2 ((tokF s).2.2.length + 1) ⟨0, 0, 0⟩ []).2.err, (parF (tokF s).2.2 ((tokF s).2.2.length + 1) ⟨0, 0, 0⟩ []).2.fat) := by unfold parseF; rw [if_neg (fun h => h h0)]
    generalize (tokF s).2.2 = ts at *
    repeat (first | refine sc rfl ?_ | refine so rfl ?_ | refine sb rfl ?_)
    refine C_false rfl rfl ?_
    iterate 9 (first | refine sc rfl ?_ | refine so rfl ?_ | refine sb rfl ?_)
    refine C_absb 6 rfl rfl rfl (fun b => ?_)
    refine C_le _ (Le.absPerm (As := [boxA b 219 (PS.c ts ⟨0, 0, 0⟩), glbA m]) (As' := [psA m b ts ⟨0, 0, 0⟩]) (pickA_perm (is := [0, 2]) rfl) (by simp [blocks, psA, boxA, glbA]) (fun G w h A hA => ?_)) ?_
    · simp only [List.mem_singleton] at hA
      subst hA
      exact ⟨h _ (by simp), h (glbA m) (by simp)⟩
    generalize hFF : parF ts (ts.length + 1) ⟨0, 0, 0⟩ [] = F at *
    repeat (first | refine sc rfl ?_ | refine so rfl ?_ | refine sb rfl ?_)
    refine O_makeBound rfl rfl rfl rfl ?_
    refine O_le _ (Le.addVec 60 5 (fun i => Dcl.c (([] : List Dcl).getD i default))) ?_
    iterate 7 (first | refine sc rfl ?_ | refine so rfl ?_ | refine sb rfl ?_)
    refine C_joinE (α := PS × List Dcl × Value) (fun q => ⟨[(3, .bp 3 0), (6, PT b 0), (8, .v q.2.2)], [.abs (psA m b ts q.1), .abs (outA q.2.2 q.2.1), .box 3 50 [I64 0, I64 0]]⟩) (fun q => F = (q.2.1, q.1)) ?_ ?_
    · repeat (first | refine sc rfl ?_ | refine so rfl ?_ | refine sb rfl ?_)
      refine C_loop (fun q : PS × List Dcl × Value => ⟨[(3, .bp 3 0), (6, PT b 0), (7, .p (bndRP 113 [PT b 0])), (8, .v q.2.2)], [.abs (psA m b ts q.1), .abs (outA q.2.2 q.2.1), .box 3 50 [I64 0, I64 0]]⟩)
        (fun q => q.1.i < ts.length ∧ q.2.1.length ≤ 16 ∧ ∃ n, (q.1.err = 0 → ts.length - q.1.i < n) ∧ parF ts n q.1 q.2.1 = F) (fun q => if q.1.err = 0 then ts.length - q.1.i + 1 else 0) (⟨0, 0, 0⟩, [], .slice none 0 0) ⟨hpos, Nat.zero_le _, ts.length + 1, fun _ => by simp only []; omega, hFF⟩ (Le.pick [1, 0, 1] ⟨rfl, rfl, rfl, rfl, trivial⟩ rfl) ?_
      rintro ⟨p, out, h⟩ ⟨g1, g2, n, g6, g7⟩
      simp only [] at g1 g2 g6 g7
      repeat (first | refine sc rfl ?_ | refine so rfl ?_ | refine sb rfl ?_)
      first
        | refine O_callA [0] (well_A m b ts p) (by rfl) (by rfl) (by rfl) (by rfl) (by rfl) ?_
        | refine O_callA [1] (well_A m b ts p) (by rfl) (by rfl) (by rfl) (by rfl) (by rfl) ?_
        | refine O_callA [2] (well_A m b ts p) (by rfl) (by rfl) (by rfl) (by rfl) (by rfl) ?_
        | refine O_callA [3] (well_A m b ts p) (by rfl) (by rfl) (by rfl) (by rfl) (by rfl) ?_
        | refine O_callA [4] (well_A m b ts p) (by rfl) (by rfl) (by rfl) (by rfl) (by rfl) ?_
      rintro r cs' ⟨rfl, rfl⟩
      repeat (first | refine sc rfl ?_ | refine so rfl ?_ | refine sb rfl ?_)
      cases hw : p.err == 0 with
      | false =>
        have hw' : p.err ≠ 0 := by simpa using hw
        have hF : F = (out, p) := by
          rw [← g7]
          cases n with
          | zero => rfl
          | succ n => simp only [parF]; rw [if_neg (fun h => hw' h.1)]
        repeat (first | refine sc rfl ?_ | refine so rfl ?_ | refine sb rfl ?_)
        refine C_false rfl rfl ?_
        repeat (first | refine sc rfl ?_ | refine so rfl ?_ | refine sb rfl ?_)
        exact ⟨(p, out, h), hF, Le.pick [0, 0, 0] ⟨rfl, rfl, rfl, trivial⟩ rfl⟩
      | true =>
      have hw' : p.err = 0 := by simpa using hw
      obtain ⟨n, rfl⟩ : ∃ n', n = n' + 1 := ⟨n - 1, by have := g6 hw'; omega⟩
      have g6' := g6 hw'
      simp only [parF] at g7
      repeat (first | refine sc rfl ?_ | refine so rfl ?_ | refine sb rfl ?_)
      first
        | refine O_callA [0] (now_A m b ts hT p g1) (by rfl) (by rfl) (by rfl) (by rfl) (by rfl) ?_
        | refine O_callA [1] (now_A m b ts hT p g1) (by rfl) (by rfl) (by rfl) (by rfl) (by rfl) ?_
        | refine O_callA [2] (now_A m b ts hT p g1) (by rfl) (by rfl) (by rfl) (by rfl) (by rfl) ?_
        | refine O_callA [3] (now_A m b ts hT p g1) (by rfl) (by rfl) (by rfl) (by rfl) (by rfl) ?_
        | refine O_callA [4] (now_A m b ts hT p g1) (by rfl) (by rfl) (by rfl) (by rfl) (by rfl) ?_
      rintro r cs' ⟨rfl, rfl⟩
      repeat (first | refine sc rfl ?_ | refine so rfl ?_ | refine sb rfl ?_)
      refine O_Xd (X_field Tryz.underlying222 rfl rfl rfl rfl rfl rfl rfl) ?_
      repeat (first | refine sc rfl ?_ | refine so rfl ?_ | refine sb rfl ?_)
      refine C_if rfl (fun c1 => ?_) (fun c1 => ?_) <;> simp only [decide_eq_true_eq, decide_eq_false_iff_not, Bool.not_eq_true', Bool.not_eq_false', beq_iff_eq, beq_eq_false_iff_ne, bne_iff_ne, ne_eq, bne_eq_false_iff_eq, Decidable.not_not] at c1
      rotate_left
      · rw [if_neg (fun h => h.2 c1)] at g7
        repeat (first | refine sc rfl ?_ | refine so rfl ?_ | refine sb rfl ?_)
        exact ⟨(p, out, h), g7.symm, Le.pick [0, 0, 0] ⟨rfl, rfl, rfl, trivial⟩ rfl⟩
      rw [if_pos ⟨hw', c1⟩] at g7
      repeat (first | refine sc rfl ?_ | refine so rfl ?_ | refine sb rfl ?_)
      refine O_Xd (X_lenV (d := some 32) 1 rfl rfl rfl rfl rfl) ?_
      repeat (first | refine sc rfl ?_ | refine so rfl ?_ | refine sb rfl ?_)
      refine C_if rfl (fun c2 => ?_) (fun c2 => ?_) <;> simp only [decide_eq_true_eq, decide_eq_false_iff_not, Bool.not_eq_true', Bool.not_eq_false', beq_iff_eq, beq_eq_false_iff_ne, bne_iff_ne, ne_eq, bne_eq_false_iff_eq, Decidable.not_not] at c2
      · rw [if_pos (by omega)] at g7
        repeat (first | refine sc rfl ?_ | refine so rfl ?_ | refine sb rfl ?_)
        first
          | refine O_callA [0] (fail_A m b ts hT p g1 3) (by rfl) (by rfl) (by rfl) (by rfl) (by rfl) ?_
          | refine O_callA [1] (fail_A m b ts hT p g1 3) (by rfl) (by rfl) (by rfl) (by rfl) (by rfl) ?_
          | refine O_callA [2] (fail_A m b ts hT p g1 3) (by rfl) (by rfl) (by rfl) (by rfl) (by rfl) ?_
          | refine O_callA [3] (fail_A m b ts hT p g1 3) (by rfl) (by rfl) (by rfl) (by rfl) (by rfl) ?_
          | refine O_callA [4] (fail_A m b ts hT p g1 3) (by rfl) (by rfl) (by rfl) (by rfl) (by rfl) ?_
        rintro r cs' ⟨rfl, rfl⟩
        repeat (first | refine sc rfl ?_ | refine so rfl ?_ | refine sb rfl ?_)
        exact ⟨(failF ts 3 p, out, h), g7.symm, Le.pick [0, 0, 0] ⟨rfl, rfl, rfl, trivial⟩ rfl⟩
      rw [if_neg (by omega)] at g7
      have hdl := decl_lt hT g1
      have hda := decl_adv (ts := ts) p
      repeat (first | refine sc rfl ?_ | refine so rfl ?_ | refine sb rfl ?_)
      refine O_callBound [0] (avs := []) (decl_A m b ts hT p g1) rfl rfl rfl rfl rfl rfl ?_
      rintro r cs' ⟨rfl, rfl⟩
      repeat (first | refine sc rfl ?_ | refine so rfl ?_ | refine sb rfl ?_)
      refine O_le _ (Le.freeze 39 rfl rfl) ?_
      refine O_appendV 1 (m2 := 1) (m3 := out.length + 1) (row3 := fun i => Dcl.c ((out ++ [(declF ts p).1]).getD i default)) rfl rfl rfl rfl rfl rfl (fun i hi => ?_) rfl (by show (out.length + 1) * 80 ≤ 140737488355328; omega) (by show out.length + 1 ≤ maxLen; simp only [maxLen]; omega) rfl (fun i hi => ?_) (fun v' hv' => ?_)
      · show (chunkRow 5 (Dcl.c ((declF ts p).1)) i).length = 5
        have h0 : i = 0 := by have : i < 1 := hi; omega
        subst h0; rfl
      · unfold appRow
        by_cases hik : i < out.length
        · rw [if_pos hik]
          show Dcl.c (out.getD i default) = _
          rw [List.getD_eq_getElem?_getD, List.getD_eq_getElem?_getD, List.getElem?_append_left hik]
        · rw [if_neg hik]
          obtain rfl : i = out.length := by omega
          rw [Nat.sub_self, List.getD_eq_getElem?_getD, List.getElem?_append_right (Nat.le_refl _), Nat.sub_self]; rfl
      obtain ⟨g9, cc9, rfl⟩ := hv'.resolve_left (fun h => by omega)
      repeat (first | refine sc rfl ?_ | refine so rfl ?_ | refine sb rfl ?_)
      refine ⟨((declF ts p).2, out ++ [(declF ts p).1], HD g9 (out.length + 1) cc9), ⟨hdl, by simp only [List.length_append, List.length_singleton]; omega, n, fun h => by simp only [] at h ⊢; have := hda h; omega, g7⟩, ?_, ?_⟩
      · simp only [if_pos hw']
        split
        · rename_i h; have := hda h; omega
        · omega
      · have e : outA (HD g9 (out.length + 1) cc9) (out ++ [(declF ts p).1]) = vecA (HD g9 (out.length + 1) cc9) 60 5 (out.length + 1) (fun i => Dcl.c ((out ++ [(declF ts p).1]).getD i default)) := by rw [outA, List.length_append]; rfl
        simp only []
        rw [e]
        exact Le.pick [1, 0, 0] ⟨rfl, rfl, rfl, rfl, trivial⟩ rfl
    · rintro ⟨p, out, h⟩ st9 ⟨hF⟩ hs
      simp only [] at hs
      refine C_le _ hs ?_
      have hP2 : (parseF s).1 = out ∧ (parseF s).2.1 = p.err ∧ (parseF s).2.2 = p.fat := by rw [hP]; exact ⟨rfl, rfl, rfl⟩
      repeat (first | refine sc rfl ?_ | refine so rfl ?_ | refine sb rfl ?_)
      first
        | refine O_callA [0] (well_A m b ts p) (by rfl) (by rfl) (by rfl) (by rfl) (by rfl) ?_
        | refine O_callA [1] (well_A m b ts p) (by rfl) (by rfl) (by rfl) (by rfl) (by rfl) ?_
        | refine O_callA [2] (well_A m b ts p) (by rfl) (by rfl) (by rfl) (by rfl) (by rfl) ?_
        | refine O_callA [3] (well_A m b ts p) (by rfl) (by rfl) (by rfl) (by rfl) (by rfl) ?_
        | refine O_callA [4] (well_A m b ts p) (by rfl) (by rfl) (by rfl) (by rfl) (by rfl) ?_
      rintro r cs' ⟨rfl, rfl⟩
      repeat (first | refine sc rfl ?_ | refine so rfl ?_ | refine sb rfl ?_)
      refine C_if rfl (fun c1 => ?_) (fun c1 => ?_) <;> simp only [decide_eq_true_eq, decide_eq_false_iff_not, Bool.not_eq_true', Bool.not_eq_false', beq_iff_eq, beq_eq_false_iff_ne, bne_iff_ne, ne_eq, bne_eq_false_iff_eq, Decidable.not_not] at c1
      · repeat (first | refine sc rfl ?_ | refine so rfl ?_ | refine sb rfl ?_)
        refine C_le _ (Le.absPerm (As := [psA m b ts p]) (As' := [boxA b 219 (PS.c ts p), glbA m]) (pickA_perm (is := [0]) rfl) (by simp [blocks, psA, boxA, glbA]) (fun G w h A hA => ?_)) ?_
        · have := h (psA m b ts p) (by simp)
          simp only [List.mem_cons, List.not_mem_nil, or_false] at hA
          rcases hA with rfl | rfl
          · exact this.1
          · exact this.2
        refine C_drawU 20 5 rfl (by kernel_rfl) (by kernel_rfl) (by kernel_rfl) ?_
        repeat (first | refine sd rfl ?_ | refine sdb rfl ?_ | refine sds rfl ?_)
        refine D_X (.agg [I64 p.err, I64 p.fat]) (X_loadP 0 (reads_box 2) rfl rfl rfl rfl rfl rfl) ?_
        repeat (first | refine sd rfl ?_ | refine sdb rfl ?_ | refine sds rfl ?_)
        repeat (first | refine sc rfl ?_ | refine so rfl ?_ | refine sb rfl ?_)
        exact ⟨_, [glbA m], _, rfl, pickA_perm (is := [2]) (As := [_]) rfl, rfl, .inl ⟨by rw [hP2.2.1]; exact c1, by rw [hP2.2.1, hP2.2.2]; rfl⟩, rfl⟩
      · refine C_le _ (Le.frVec 1 (fun i => Dcl.c (out.getD i default)) rfl (fun i hi => rfl)) ?_
        refine C_le _ (Le.slotA 0 8 rfl rfl) ?_
        refine C_le _ (Le.absPerm (As := [psA m b ts p]) (As' := [boxA b 219 (PS.c ts p), glbA m]) (pickA_perm (is := [1]) rfl) (by simp [blocks, psA, boxA, glbA]) (fun G w h A hA => ?_)) ?_
        · have := h (psA m b ts p) (by simp)
          simp only [List.mem_cons, List.not_mem_nil, or_false] at hA
          rcases hA with rfl | rfl
          · exact this.1
          · exact this.2
        repeat (first | refine sc rfl ?_ | refine so rfl ?_ | refine sb rfl ?_)
        exact ⟨_, [glbA m], _, rfl, pickA_perm (is := [2]) (As := [_]) rfl, rfl, .inr ⟨by rw [hP2.2.1]; exact c1, by rw [hP2.1]; rfl⟩, rfl⟩
end Go.Proofs

/- Rows of a schema: plain law. -/
set_option linter.unusedSimpArgs false
set_option linter.unusedVariables false
set_option maxRecDepth 100000
namespace Go.Proofs
open Go.Sy Go.Lib

theorem mem_getDf {l : List Fld} {i : Nat} (h : i < l.length) : l.getD i default ∈ l := by
  rw [getD_at h]; exact List.getElem_mem h
theorem getD_mem {α : Type} [Inhabited α] {l : List α} {x : α} (h : x ∈ l) : ∃ i, i < l.length ∧ l.getD i default = x := by
  obtain ⟨i, hi, rfl⟩ := List.mem_iff_getElem.1 h
  exact ⟨i, hi, getD_at hi⟩
theorem nodup_tag {F : List Fld} (h : (F.map (·.tag)).Nodup) {i j : Nat} (hi : i < F.length) (hj : j < F.length) (e : (F.getD i default).tag = (F.getD j default).tag) : i = j := by
  rw [getD_at hi, getD_at hj] at e
  have := (List.getElem_inj (xs := F.map (·.tag)) (i := i) (j := j) (h₀ := by simpa using hi) (h₁ := by simpa using hj) h).1 (by simpa using e)
  exact this

theorem tagZ_iff {F : List Fld} (h : (F.map (·.tag)).Nodup) {t : Int} {i : Nat} : tagZ t F = some i ↔ i < F.length ∧ (F.getD i default).tag = t := by
  constructor
  · intro h0
    refine ⟨tagZ_lt h0, ?_⟩
    have key : ∀ {F : List Fld} {j : Nat}, tagZ t F = some j → (F.getD j default).tag = t := by
      intro F
      induction F with
      | nil => intro j h; simp [tagZ] at h
      | cons d l ih =>
        intro j h
        simp only [tagZ] at h
        split at h
        · cases h; simpa
        · obtain ⟨k, hk, rfl⟩ := Option.map_eq_some_iff.1 h
          simpa using ih hk
    exact key h0
  · rintro ⟨h1, h2⟩
    exact tagZ_first h1 (fun j hj e => by
      have := nodup_tag h (i := j) (j := i) (by omega) h1 (by rw [e, h2])
      omega) h2

theorem rowZ_iff {l : List Dcl} {nm : List UInt8} {F : List Fld} (hF : fldsL l nm = F) (h : (F.map (·.tag)).Nodup) {t : Int} {f : Fld} : rowZ l nm t = some f ↔ f ∈ F ∧ f.tag = t := by
  unfold rowZ
  rw [hF, Option.map_eq_some_iff]
  constructor
  · rintro ⟨j, h1, rfl⟩
    obtain ⟨h2, h3⟩ := (tagZ_iff h).1 h1
    exact ⟨mem_getDf h2, h3⟩
  · rintro ⟨h1, h2⟩
    obtain ⟨i, hi, rfl⟩ := getD_mem h1
    exact ⟨i, (tagZ_iff h).2 ⟨hi, h2⟩, rfl⟩

theorem one_tag {F : List Fld} (h : (F.map (·.tag)).Nodup) {x y : Fld} (hx : x ∈ F) (hy : y ∈ F) (e : x.tag = y.tag) : x = y := by
  obtain ⟨i, hi, rfl⟩ := getD_mem hx
  obtain ⟨j, hj, rfl⟩ := getD_mem hy
  rw [nodup_tag h hi hj e]

/-- Sorted rows: members, and the order is strict. -/
theorem SrtOf.facts {F R : List Fld} (h : SrtOf F R) (hn : (F.map (·.tag)).Nodup) : (∀ x, x ∈ R ↔ x ∈ F) ∧ ∀ i j, i < j → j < R.length → (R.getD i default).tag < (R.getD j default).tag := by
  obtain ⟨h1, ⟨p, r, h2, _⟩, h3⟩ := h
  refine ⟨fun x => ⟨fun hx => ?_, fun hx => ?_⟩, fun i j hij hj => ?_⟩
  · obtain ⟨i, hi, rfl⟩ := getD_mem hx
    obtain ⟨q1, _, _, _, q5⟩ := h2 i (Nat.zero_le _) (by omega)
    simp only [] at q5
    rw [q5]; exact mem_getDf q1.2
  · obtain ⟨i, hi, rfl⟩ := getD_mem hx
    obtain ⟨_, q2, q3, _, _⟩ := h2 i (Nat.zero_le _) hi
    obtain ⟨_, _, _, _, s5⟩ := h2 (r i) (Nat.zero_le _) q2.2
    simp only [] at s5
    rw [q3] at s5
    rw [← s5]; exact mem_getDf (by omega)
  · have hle := h3 i j (Nat.zero_le _) (by omega) (by omega)
    simp only [] at hle
    obtain ⟨a1, _, _, a4, a5⟩ := h2 i (Nat.zero_le _) (by omega)
    obtain ⟨b1, _, _, b4, b5⟩ := h2 j (Nat.zero_le _) (by omega)
    simp only [] at a5 b5
    rcases Int.lt_or_eq_of_le hle with hlt | he
    · exact hlt
    · rw [a5, b5] at he
      have := nodup_tag hn a1.2 b1.2 he
      have : i = j := by rw [← a4, ← b4, this]
      omega

theorem srt_eq : ∀ {A B : List Fld}, A.Pairwise (fun a b => a.tag < b.tag) → B.Pairwise (fun a b => a.tag < b.tag) → (∀ x, x ∈ A ↔ x ∈ B) → A = B
  | [], [], _, _, _ => rfl
  | [], b :: B, _, _, h => by have := (h b).2 (by simp); cases this
  | a :: A, [], _, _, h => by have := (h a).1 (by simp); cases this
  | a :: A, b :: B, hA, hB, h => by
    obtain ⟨a1, a2⟩ := List.pairwise_cons.1 hA
    obtain ⟨b1, b2⟩ := List.pairwise_cons.1 hB
    have e : a = b := by
      rcases List.mem_cons.1 ((h a).1 (by simp)) with h1 | h1
      · exact h1
      · rcases List.mem_cons.1 ((h b).2 (by simp)) with h2 | h2
        · exact h2.symm
        · have := b1 a h1
          have := a1 b h2
          omega
    subst e
    have : A = B := srt_eq a2 b2 (fun x => by
      constructor
      · intro hx
        rcases List.mem_cons.1 ((h x).1 (by simp [hx])) with h1 | h1
        · subst h1; have := a1 x hx; omega
        · exact h1
      · intro hx
        rcases List.mem_cons.1 ((h x).2 (by simp [hx])) with h1 | h1
        · subst h1; have := b1 x hx; omega
        · exact h1)
    rw [this]

theorem SrtOf.pw {F R : List Fld} (h : SrtOf F R) (hn : (F.map (·.tag)).Nodup) : R.Pairwise (fun a b => a.tag < b.tag) := by
  rw [List.pairwise_iff_getElem]
  intro i j hi hj hij
  have := (h.facts hn).2 i j hij hj
  rwa [getD_at hi, getD_at hj] at this
theorem SrtOf.uniq {F R R' : List Fld} (h : SrtOf F R) (h' : SrtOf F R') (hn : (F.map (·.tag)).Nodup) : R = R' :=
  srt_eq (h.pw hn) (h'.pw hn) (fun x => by rw [(h.facts hn).1, (h'.facts hn).1])

/-- The rows that a schema has of a name. -/
noncomputable def rowsU (l : List Dcl) (nm : List UInt8) : List Fld := rowsL l (Classical.epsilon (RowsOK l)) nm
theorem rowsU_eq {l : List Dcl} (hW : WellL l) {Rs : List (List Fld)} (hR : RowsOK l Rs) (nm : List UInt8) : rowsL l Rs nm = rowsU l nm := by
  have hR' : RowsOK l (Classical.epsilon (RowsOK l)) := Classical.epsilon_spec ⟨Rs, hR⟩
  unfold rowsU rowsL
  cases hf : fndL nm l with
  | none => rfl
  | some j =>
    have hj := fndL_lt hf
    exact (hR.2 j hj).uniq (hR'.2 j hj) (List.nodup_append.1 (hW j hj).tags).1
end Go.Proofs

/- Contracts of desc: Read, of a text that is one; schemas in whatever state. -/
set_option linter.unusedSimpArgs false
set_option linter.unusedVariables false
set_option maxRecDepth 100000
namespace Go.Proofs
open Go.Sy Go.Lib

/-- One of a family, over the same blocks. -/
def exA {α : Type} (I : α → Prop) (A : α → Abs) (bs : List Nat) (hbs : ∀ q, (A q).bs = bs) : Abs where
  bs := bs
  ok := fun G w => ∃ q, I q ∧ (A q).ok G w
  keep := fun hG hb ⟨q, h1, h2⟩ => ⟨q, h1, (A q).keep hG (by rw [hbs]; exact hb) h2⟩

theorem FnA_ex {α : Type} {I : α → Prop} {A : α → Abs} {bs : List Nat} {hbs : ∀ q, (A q).bs = bs} {P : Program} {f : FuncId} {args : List AV} {φ : AV → Prop}
    (h : ∀ q, I q → FnA P f args [A q] (fun r cs' => φ r ∧ ∃ q', I q' ∧ cs' = [A q'])) (hc : Callable P f) : FnA P f args [exA I A bs hbs] (fun r cs' => φ r ∧ cs' = [exA I A bs hbs]) := by
  refine ⟨hc, fun G w cargs him hr hok => ?_⟩
  have hx : (exA I A bs hbs).ok G w := hok.1 _ (List.mem_singleton.2 rfl)
  obtain ⟨q, hq, hqo⟩ := hx
  have e1 : ∀ q, blocks [A q] = bs := fun q => by simp [blocks, hbs]
  have e2 : blocks [exA I A bs hbs] = bs := by simp [blocks, exA]
  have hok' : AbsOK G w [A q] := ⟨fun B hB => by simp only [List.mem_singleton] at hB; subst hB; exact hqo, by rw [e1, ← e2]; exact hok.2.1, by rw [e1, ← e2]; exact hok.2.2⟩
  refine ((h q hq).2 G w cargs him hr hok').mono ?_
  rintro en w' ⟨r, cr, cs', G', ⟨hφ, q', hq', rfl⟩, g1, g2, g3, g4, g5, g6, g7, g8⟩
  rw [e1] at g4 g7 g8
  refine ⟨r, cr, _, G', ⟨hφ, rfl⟩, g1, g2, g3, by rw [e2]; exact g4, g5, ⟨fun B hB => by simp only [List.mem_singleton] at hB; subst hB; exact ⟨q', hq', g6.1 _ (by simp)⟩, by rw [e2, ← e1 q']; exact g6.2.1, by rw [e2, ← e1 q']; exact g6.2.2⟩, ?_, ?_⟩
  · rw [e2]; intro b hb; rw [e1] at g7; exact g7 b hb
  · rw [e2]; exact g8

/-- A schema, raw or ready. -/
def dscS (b : Nat) (l : List Dcl) : Abs := exA (Rdy l) (dsc b l) [b] (fun q => by cases q <;> rfl)

theorem DKind_S (b : Nat) (l : List Dcl) (hP : Prep l) (nm : List UInt8) : FnA Tryz.prog 82 [PT b 0, .s nm] [dscS b l] (fun r cs' => r = I64 (kindL l nm) ∧ cs' = [dscS b l]) :=
  FnA_ex (φ := fun r => r = I64 (kindL l nm)) (fun q hq => (DKind_A b l hP q hq nm).mono (fun r cs' ⟨h1, Rs, h2, h3⟩ => ⟨h1, some Rs, fun _ h => by cases h; exact h2, h3⟩)) (DKind_A b l hP none (fun _ h => by cases h) nm).1

/-- A text that is a schema. -/
theorem Read_A (m : Int) (s : List UInt8) (l : List Dcl) (hl : parseF s = (l, 0, 0) ∨ (parseF s).1 = l ∧ (parseF s).2.1 = 0) (hfew : FewL l) (hok : WellL l ∧ FinL l) :
    FnA Tryz.prog 21 [.s s] [glbA m] (fun r cs' => ∃ b, r = .tup [PT b 0, .agg [I64 0, I64 0]] ∧ cs' = [dscS b l, glbA m]) := by
  have hl' : (parseF s).1 = l ∧ (parseF s).2.1 = 0 := by
    rcases hl with h | h
    · rw [h]; exact ⟨rfl, rfl⟩
    · exact h
  refine FnA.intro Tryz.tabOK Tryz.wide_ Tryz.func21 rfl (by decide) rfl (fun X => ?_)
  repeat (first | refine sc rfl ?_ | refine so rfl ?_ | refine sb rfl ?_)
  refine O_callA [1] (Parse_A m s) (by rfl) (by rfl) (by rfl) (by rfl) (by rfl) ?_
  rintro r cs' ⟨h0 | h0, rfl⟩
  · exact absurd hl'.2 h0.1
  obtain ⟨_, rfl⟩ := h0
  rw [hl'.1]
  repeat (first | refine sc rfl ?_ | refine so rfl ?_ | refine sb rfl ?_)
  refine C_false rfl rfl ?_
  repeat (first | refine sc rfl ?_ | refine so rfl ?_ | refine sb rfl ?_)
  refine O_callA [] (Of_A l hfew) (by rfl) (by rfl) (by rfl) (by rfl) (by rfl) ?_
  rintro r cs' (⟨f, rfl, hn, rfl⟩ | ⟨b, rfl, hy, rfl⟩)
  · exact absurd hok hn
  refine O_le _ (Le.absPerm (As := [dsc b l none]) (As' := [dscS b l]) (pickA_perm (is := [0]) rfl) (.refl _) (fun G w h A hA => ?_)) ?_
  · simp only [List.mem_singleton] at hA
    subst hA
    exact ⟨none, (fun _ h => by cases h), h _ (by simp)⟩
  repeat (first | refine sc rfl ?_ | refine so rfl ?_ | refine sb rfl ?_)
  first
    | exact ⟨_, [_, _], _, rfl, pickA_perm (is := [1, 2]) (As := [_, _]) rfl, rfl, b, rfl, rfl⟩
    | exact ⟨_, [_, _], _, rfl, pickA_perm (is := [1, 1]) (As := [_, _]) rfl, rfl, b, rfl, rfl⟩
    | exact ⟨_, [_, _], _, rfl, pickA_perm (is := [0, 1]) (As := [_, _]) rfl, rfl, b, rfl, rfl⟩
end Go.Proofs

/- What is read without a fault is not great: plain law. -/
set_option linter.unusedSimpArgs false
set_option linter.unusedVariables false
set_option maxRecDepth 100000
namespace Go.Proofs
open Go.Sy Go.Lib

theorem oneF_kind {s : List UInt8} {i : Nat} : ∀ t ∈ (oneF s i).2.2, t.kind ≠ 4 := by
  unfold oneF
  simp only []
  intro t ht
  split at ht
  · unfold wordF at ht
    simp only [] at ht
    split at ht
    · cases ht
    · simp only [List.mem_singleton] at ht; subst ht; show (1 : Int) ≠ 4; decide
  · split at ht
    · unfold nmbF at ht
      simp only [] at ht
      split at ht
      · cases ht
      · split at ht
        · cases ht
        · simp only [List.mem_singleton] at ht; subst ht; show (2 : Int) ≠ 4; decide
    · split at ht
      · split at ht <;> cases ht
      · split at ht
        · cases ht
        · split at ht
          · cases ht
          · simp only [List.mem_singleton] at ht; subst ht; show (3 : Int) ≠ 4; decide
def EndT (ts : List Tok) : Prop := ∀ t ∈ ts, t.kind = 4 → t.text = []
theorem lexF_end {s : List UInt8} : ∀ (n i : Nat) (ts : List Tok), EndT ts → EndT (lexF s n i ts).2.2
  | 0, i, ts, h => h
  | n + 1, i, ts, h => by
    simp only [lexF]
    split
    · split
      · refine lexF_end n _ _ (fun t ht hk => ?_)
        rcases List.mem_append.1 ht with hm | hm
        · exact h t hm hk
        · exact absurd hk (oneF_kind t hm)
      · intro t ht; cases ht
    · intro t ht hk
      rcases List.mem_append.1 ht with hm | hm
      · exact h t hm hk
      · simp only [List.mem_singleton] at hm; subst hm; rfl
theorem tokF_end (s : List UInt8) : EndT (tokF s).2.2 := by
  unfold tokF
  split
  · intro t ht; cases ht
  · exact lexF_end _ _ _ (fun t ht => by cases ht)

section
variable {ts : List Tok} (hE : EndT ts)
theorem fewT_d : FewT (default : Ty) := .mk (Nat.zero_le _) (fun i hi => absurd hi (Nat.not_lt_zero _))
theorem fewT_n {k : Int} {nm : List UInt8} : FewT ⟨k, nm, []⟩ := .mk (Nat.zero_le _) (fun i hi => absurd hi (Nat.not_lt_zero _))
theorem fewT_1 {k : Int} {nm : List UInt8} {x : Ty} (h : FewT x) : FewT ⟨k, nm, [x]⟩ := .mk (by show 1 ≤ 1000; decide) (fun i hi => by
  obtain rfl : i = 0 := by have : i < 1 := hi; omega
  exact h)
theorem fewT_2 {k : Int} {nm : List UInt8} {x y : Ty} (h : FewT x) (h' : FewT y) : FewT ⟨k, nm, [x, y]⟩ := .mk (by show 2 ≤ 1000; decide) (fun i hi => by
  have h2 : i < 2 := hi
  rcases i with _ | _ | i
  · exact h
  · exact h'
  · omega)
theorem base_few {rec : Int → PS → Ty × PS} (hr : ∀ d p, FewT (rec d p).1) (deep : Int) (p : PS) : FewT (baseF ts rec deep p).1 := by
  unfold baseF
  split
  · exact fewT_n
  · split
    · exact fewT_1 (hr _ _)
    · split
      · exact fewT_2 (hr _ _) (hr _ _)
      · exact fewT_n
theorem typ_few : ∀ (n : Nat) (deep : Int) (p : PS), FewT (typF ts n deep p).1
  | 0, _, _ => fewT_d
  | n + 1, deep, p => by
    unfold typF
    split
    · exact fewT_n
    · split
      · exact fewT_1 (base_few (fun d p => typ_few n d p) _ _)
      · exact base_few (fun d p => typ_few n d p) _ _

theorem nowF_end {p : PS} (hE : EndT ts) (hp : p.i < ts.length) (h : (nowF ts p).kind = 4) : (nowF ts p).text = [] := hE _ (mem_getD hp) h
theorem num_bad {p : PS} (h : (nowF ts p).kind = 4) : (numP ts p).err ≠ 0 := by
  have h1 : (numB ts p).err ≠ 0 := by
    unfold numB
    rw [if_pos (by rw [h]; decide)]
    exact failF_err ts (by decide) p
  unfold numP
  rw [if_pos h1]; exact h1
theorem typ_keep : ∀ (n : Nat) (deep : Int) {p : PS}, p.err ≠ 0 → (typF ts n deep p).2.err ≠ 0
  | 0, _, _, h => h
  | n + 1, deep, p, h => by
    have hd : dpP ts deep p = p := by unfold dpP; split; exact failF_keep h; rfl
    unfold typF
    rw [hd, if_pos h]
    exact h
/-- A row that fails at an end. -/
def RowK (ts : List Tok) (R : PS → Dcl → Dcl × PS) : Prop :=
  (∀ p d, p.i < ts.length → (nowF ts p).kind = 4 → (R p d).2.err ≠ 0) ∧ ∀ p d, (R p d).1.fields.length ≤ d.fields.length + 1 ∧ (R p d).1.methods.length ≤ d.methods.length + 1 ∧ ((∀ f ∈ d.fields, FewT f.ty) → ∀ f ∈ (R p d).1.fields, FewT f.ty)
theorem fieldK : RowK ts (fieldR ts) := ⟨fun p d _ h => typ_keep 10 0 (need_keep (name_keep (num_bad h))), fun p d => ⟨by simp [fieldR], by simp [fieldR], fun hd f hf => by
  rcases List.mem_append.1 hf with hm | hm
  · exact hd f hm
  · simp only [List.mem_singleton] at hm; subst hm; exact typ_few 10 0 _⟩⟩
theorem enumK : RowK ts (enumR ts) := ⟨fun p d _ h => name_keep (num_bad h), fun p d => ⟨by simp [enumR], by simp [enumR], fun hd f hf => by
  rcases List.mem_append.1 hf with hm | hm
  · exact hd f hm
  · simp only [List.mem_singleton] at hm; subst hm; exact fewT_n⟩⟩
include hE in
theorem methK : RowK ts (methR ts) := ⟨fun p d hp h => by
  have ht := nowF_end hE hp h
  have hm : mayP ts [111, 110, 101, 119, 97, 121] p = p := by
    unfold mayP
    have : mayF ts [111, 110, 101, 119, 97, 121] p = false := by
      unfold mayF
      rw [ht]
      cases p.err == 0 <;> rfl
    rw [this]; rfl
  refine name_keep (need_keep (need_keep (name_keep (need_keep (name_keep ?_)))))
  unfold m1P
  rw [hm]
  exact num_bad h, fun p d => ⟨by simp [methR], by simp [methR], fun hd f hf => hd f hf⟩⟩

/-- Few rows. -/
def FewW (d : Dcl) : Prop := d.fields.length ≤ 16 ∧ d.methods.length ≤ 16 ∧ ∀ f ∈ d.fields, FewT f.ty
theorem rows_few {R : PS → Dcl → Dcl × PS} (hR : RowK ts R) (hlt : ∀ (p : PS) (d : Dcl), p.i < ts.length → (R p d).2.i < ts.length) (hT : TsOK ts) : ∀ (n k : Nat) (p : PS) (d : Dcl), p.i < ts.length → (p.err = 0 → k ≤ 16) → d.fields.length ≤ k → d.methods.length ≤ k → (∀ f ∈ d.fields, FewT f.ty) → (rowsF ts R n k p d).2.err = 0 → FewW (rowsF ts R n k p d).1
  | 0, k, p, d, hp, hk, h1, h2, h3, he => ⟨Nat.le_trans h1 (hk he), Nat.le_trans h2 (hk he), h3⟩
  | n + 1, k, p, d, hp, hk, h1, h2, h3, he => by
    unfold rowsF at he ⊢
    by_cases h0 : p.err = 0
    · rw [if_pos h0] at he ⊢
      by_cases hm : mayF ts [125] p = true
      · rw [if_pos hm] at he ⊢
        exact ⟨Nat.le_trans h1 (hk h0), Nat.le_trans h2 (hk h0), h3⟩
      · rw [if_neg hm] at he ⊢
        have hk0 := hk h0
        have hb := body_lt hT (R := R) (k := k) (d := d) hlt hp
        have key : (((bodyF ts R k p d).2.err = 0 → k + 1 ≤ 16) ∧ (bodyF ts R k p d).1.fields.length ≤ k + 1 ∧ (bodyF ts R k p d).1.methods.length ≤ k + 1 ∧ ∀ f ∈ (bodyF ts R k p d).1.fields, FewT f.ty) := by
          unfold bodyF
          simp only []
          by_cases hc : k = 16 ∧ (nowF ts p).kind ≠ 4
          · rw [if_pos hc, if_neg (failF_err ts (by decide) p)]
            exact ⟨fun h => absurd h (failF_err ts (by decide) p), Nat.le_succ_of_le h1, Nat.le_succ_of_le h2, h3⟩
          · rw [if_neg hc, if_pos h0]
            obtain ⟨q1, q2, q3⟩ := hR.2 p d
            refine ⟨fun h => ?_, by simp only []; omega, by simp only []; omega, q3 h3⟩
            by_cases hk6 : k = 16
            · have h4 : (nowF ts p).kind = 4 := by
                by_cases h4 : (nowF ts p).kind = 4
                · exact h4
                · exact absurd ⟨hk6, h4⟩ hc
              exact absurd h (need_keep (hR.1 p d hp h4))
            · omega
        exact rows_few hR hlt hT n (k + 1) _ _ hb key.1 key.2.1 key.2.2.1 key.2.2.2 he
    · rw [if_neg h0] at he
      exact absurd he h0

include hE in
theorem headK (p : PS) : RowK ts (headF ts p).2.1 := by
  unfold headF
  repeat' split
  all_goals first
    | exact fieldK
    | exact enumK
    | exact methK hE
include hE in
theorem decl_few (hT : TsOK ts) {p : PS} (hp : p.i < ts.length) (he : (declF ts p).2.err = 0) : FewW (declF ts p).1 :=
  rows_few (headK hE p) (headRlt hT p) hT _ 0 _ _ (need_lt hT (name_lt hT (head_lt hT hp)) _) (fun _ => by omega) (Nat.le_refl _) (Nat.le_refl _) (fun f hf => by cases hf) he
include hE in
theorem par_few (hT : TsOK ts) : ∀ (n : Nat) (p : PS) (out : List Dcl), p.i < ts.length → out.length ≤ 16 → (p.err = 0 → ∀ d ∈ out, FewW d) → (parF ts n p out).2.err = 0 → (parF ts n p out).1.length ≤ 16 ∧ ∀ d ∈ (parF ts n p out).1, FewW d
  | 0, p, out, hp, hl, h, he => ⟨hl, h he⟩
  | n + 1, p, out, hp, hl, h, he => by
    unfold parF at he ⊢
    by_cases h0 : p.err = 0 ∧ (nowF ts p).kind ≠ 4
    · rw [if_pos h0] at he ⊢
      by_cases h16 : out.length = 16
      · rw [if_pos h16] at he
        exact absurd he (failF_err ts (by decide) p)
      · rw [if_neg h16] at he ⊢
        refine par_few hT n _ _ (decl_lt hT hp) (by rw [List.length_append, List.length_singleton]; omega) (fun h1 d hd => ?_) he
        rcases List.mem_append.1 hd with hm | hm
        · exact h h0.1 d hm
        · simp only [List.mem_singleton] at hm; subst hm; exact decl_few hE hT hp h1
    · rw [if_neg h0] at he ⊢
      exact ⟨hl, h he⟩
end
theorem parse_few {s : List UInt8} (h : (parseF s).2.1 = 0) : (parseF s).1.length ≤ 16 ∧ ∀ d ∈ (parseF s).1, FewW d := by
  unfold parseF at h ⊢
  split at h
  · rename_i h0; exact absurd h h0
  · rename_i h0
    have h0' : (tokF s).1 = 0 := Decidable.not_not.1 h0
    rw [if_neg h0]
    obtain ⟨hT, hpos⟩ := tokF_ok h0'
    exact par_few (tokF_end s) hT _ ⟨0, 0, 0⟩ [] hpos (Nat.zero_le _) (fun _ d hd => by cases hd) h
theorem FewW.toD {d : Dcl} (h : FewW d) : FewD d := ⟨⟨Nat.le_trans h.1 (by decide), fun i hi => h.2.2 _ (mem_getDf hi)⟩, Nat.le_trans h.2.1 (by decide)⟩
theorem parse_fewL {s : List UInt8} (h : (parseF s).2.1 = 0) : FewL (parseF s).1 :=
  ⟨Nat.le_trans (parse_few h).1 (by decide), fun i hi => ((parse_few h).2 _ (mem_getD hi)).toD⟩
theorem parse_prep {s : List UInt8} (h : (parseF s).2.1 = 0) (hW : WellL (parseF s).1) : Prep (parseF s).1 :=
  ⟨parse_fewL h, fun i hi => Nat.le_trans ((parse_few h).2 _ (mem_getD hi)).1 (by decide), fun i hi => (hW i hi).at_⟩
end Go.Proofs

/- Two laws that stand in JR4 and JR6 too (a claim's size is bounded). -/
set_option linter.unusedSimpArgs false
set_option linter.unusedVariables false
set_option maxRecDepth 100000
namespace Go.Proofs
open Go.Sy Go.Lib

theorem fewU {l : List Dcl} {nm : List UInt8} (hP : Prep l) (hW : WellL l) (hex : ∃ Rs, RowsOK l Rs) : (rowsU l nm).length ≤ 1000 ∧ ∀ f, f ∈ rowsU l nm → FewT f.ty := by
  obtain ⟨Rs, hRs⟩ := hex
  rw [← rowsU_eq hW hRs]
  unfold rowsL
  cases hf : fndL nm l with
  | none => exact ⟨Nat.zero_le _, fun f h => by cases h⟩
  | some j =>
    have hj := fndL_lt hf
    have := (hRs.2 j hj).few (hP.few.2 j hj).f
    exact ⟨this.1, fun f h => by obtain ⟨i, hi, rfl⟩ := getD_mem h; exact this.2 i hi⟩

theorem tyOK0 (l : List Dcl) (b : Bool) {k : Int} (hk : k = 2 ∨ k = 4) : TyOK l b ⟨k, [], []⟩ := by
  refine .mk ?_ (fun _ => rfl) (fun h => ?_) (fun h => ?_) (fun h => ?_) (fun i hi => absurd hi (Nat.not_lt_zero _))
  · rcases hk with rfl | rfl <;> rfl
  all_goals (simp only [] at h; omega)
end Go.Proofs

/- Contracts of desc: fields and declarations that are handed out, owned. -/
set_option linter.unusedSimpArgs false
set_option linter.unusedVariables false
set_option maxRecDepth 100000
namespace Go.Proofs
open Go.Sy Go.Lib

/-- Fields, owned. -/
abbrev fvA (h : Value) (F : List Fld) : Abs := vecA h 65 5 F.length (fun i => Fld.c (F.getD i default))

/-- A declaration in memory whose fields are owned. -/
abbrev drow (d : Dcl) (h : Value) : List AV := [I64 d.kind, .s d.name, .v h, SL 5 Mth.c d.methods, I64 d.fat]
abbrev hsD (hs : List Value) (i : Nat) : Value := hs.getD i (.slice none 0 0)
abbrev dvA (h : Value) (l : List Dcl) (hs : List Value) (n : Nat) : Abs := vecA h 60 5 n (fun i => drow (l.getD i default) (hsD hs i))

end Go.Proofs

/- Contracts of desc: Decls and Rows, owned. -/
set_option linter.unusedSimpArgs false
set_option linter.unusedVariables false
set_option maxRecDepth 100000
namespace Go.Proofs
open Go.Sy Go.Lib

end Go.Proofs

/- Contracts of desc: fields and declarations of what is owned. -/
set_option linter.unusedSimpArgs false
set_option linter.unusedVariables false
set_option maxRecDepth 100000
namespace Go.Proofs
open Go.Sy Go.Lib

end Go.Proofs

/- The symbolic walk, part 61: owned memory lent to a callee that only reads. -/
set_option linter.unusedSimpArgs false
set_option linter.unusedVariables false
namespace Go.Sy
open Go.RowKit Go.WideShapes Go.ChangeShapes

end Go.Sy

/- Contracts of desc: Of, of declarations that are owned. -/
set_option linter.unusedSimpArgs false
set_option linter.unusedVariables false
set_option maxRecDepth 100000
namespace Go.Proofs
open Go.Sy Go.Lib

end Go.Proofs

/- The symbolic walk, part 62: structs of numbers and texts compared. -/
set_option linter.unusedSimpArgs false
set_option linter.unusedVariables false
namespace Go.Sy
open Go.RowKit
section
variable {P : Program} {T : Tab} {X : Ctx P T} {n : Nat} {e : Env} {st : St} {a : Act} {w : World} {ops : Array Oper} {K : St → Prop}

end
end Go.Sy

/- Contracts of desc: Same, of a schema with one that is the same. -/
set_option linter.unusedSimpArgs false
set_option linter.unusedVariables false
set_option maxRecDepth 100000
namespace Go.Proofs
open Go.Sy Go.Lib

end Go.Proofs

/- The law's own example (chapter 13): read, and its rows. -/
set_option linter.unusedSimpArgs false
set_option linter.unusedVariables false
set_option maxRecDepth 100000
namespace Go.Proofs
open Go.Sy Go.Lib

end Go.Proofs

/- Contracts of desc: Read, of any text. -/
set_option linter.unusedSimpArgs false
set_option linter.unusedVariables false
set_option maxRecDepth 100000
namespace Go.Proofs
open Go.Sy Go.Lib

end Go.Proofs

/- The law DescOwn: what is handed out is written into. -/
set_option linter.unusedSimpArgs false
set_option linter.unusedVariables false
set_option maxRecDepth 100000
namespace Go.Proofs
open Go.Sy Go.Lib

end Go.Proofs

/- The law DescOwn. -/
set_option linter.unusedSimpArgs false
set_option linter.unusedVariables false
set_option maxRecDepth 100000
namespace Go.Proofs
open Go.Sy Go.Lib

end Go.Proofs

/- Values: data. -/
set_option linter.unusedSimpArgs false
set_option linter.unusedVariables false
set_option maxRecDepth 100000
namespace Go.Proofs
open Go.Sy Go.Lib

structure Val where
  kind : Int
  num : Int
  text : List UInt8
  tags : List Int
  items : List Val

instance : Inhabited Val := ⟨⟨0, 0, [], [], []⟩⟩
mutual
def Val.cells : Val → List AV
  | ⟨a0, a1, a2, a3, a4⟩ => [I64 a0, I64 a1, .s a2, SL 1 INTc a3, .sl a4.length 5 (Val.rows a4)]
def Val.rows : List Val → Nat → List AV
  | [], _ => []
  | x :: _, 0 => Val.cells x
  | _ :: xs, i + 1 => Val.rows xs i
end
def Val.c (x : Val) : List AV := [I64 x.kind, I64 x.num, .s x.text, SL 1 INTc x.tags, .sl x.items.length 5 (Val.rows x.items)]
theorem Val.rows_eq : ∀ (l : List Val) (i : Nat), i < l.length → Val.rows l i = Val.c (l.getD i default)
  | [], i, h => absurd h (Nat.not_lt_zero _)
  | ⟨a0, a1, a2, a3, a4⟩ :: xs, 0, _ => by simp only [Val.rows, Val.cells, Val.c, List.getD_cons_zero]
  | x :: xs, i + 1, h => by simp only [Val.rows, List.getD_cons_succ]; exact Val.rows_eq xs i (by simpa using h)
theorem items_lt {v : Val} {i : Nat} (h : i < v.items.length) : SizeOf.sizeOf (v.items.getD i default) < SizeOf.sizeOf v := by
  have h1 : v.items.getD i default ∈ v.items := by
    rw [List.getD_eq_getElem?_getD, List.getElem?_eq_getElem h]; exact List.getElem_mem h
  have h2 := List.sizeOf_lt_of_mem h1
  have h3 : SizeOf.sizeOf v.items < SizeOf.sizeOf v := by cases v; simp; omega
  omega
end Go.Proofs

/- Contracts of the document's values: Size. -/
set_option linter.unusedSimpArgs false
set_option linter.unusedVariables false
set_option maxRecDepth 100000
namespace Go.Proofs
open Go.Sy Go.Lib

/-- A value that is not great. -/
inductive FewV : Val → Prop
  | mk {v : Val} : v.items.length ≤ 60 → v.tags.length ≤ 300 → v.text.length ≤ 2000 → (∀ i, i < v.items.length → FewV (v.items.getD i default)) → FewV v

mutual
/-- The size, as it is reckoned. -/
def sizeF : Val → Int
  | ⟨_, _, t, _, l⟩ => sizesF l (IntKind.i64.wrap (8 + (t.length : Nat)))
def sizesF : List Val → Int → Int
  | [], n => n
  | x :: xs, n => sizesF xs (IntKind.i64.wrap (n + sizeF x))
end
theorem sizesF_snoc (x : Val) : ∀ (l : List Val) (n : Int), sizesF (l ++ [x]) n = IntKind.i64.wrap (sizesF l n + sizeF x)
  | [], n => rfl
  | y :: l, n => by simp only [List.cons_append, sizesF]; exact sizesF_snoc x l _
theorem sizeF_eq (v : Val) : sizeF v = sizesF v.items (IntKind.i64.wrap (8 + (v.text.length : Nat))) := by cases v; rfl

theorem Size_c : ∀ (n : Nat) (v : Val), SizeOf.sizeOf v ≤ n → FewV v → FnP Tryz.prog 79 [.agg (Val.c v)] (fun r => r = I64 (sizeF v))
  | 0, v, hn, _ => by cases v; simp at hn
  | n + 1, v, hn, ⟨h1, h2, h3, h4⟩ => by
    refine FnP.intro Tryz.tabOK Tryz.wide_ Tryz.func79 rfl (by decide) rfl (fun X => ?_)
    have hrec : ∀ i, i < v.items.length → FnP Tryz.prog 79 [.agg (Val.c (v.items.getD i default))] (fun r => r = I64 (sizeF (v.items.getD i default))) := fun i hi => Size_c n _ (by have := items_lt hi; omega) (h4 i hi)
    repeat (first | refine sc rfl ?_ | refine so rfl ?_ | refine sb rfl ?_)
    refine C_loop (fun i : Nat => ⟨[(1, .bp 1 0), (3, I64 (sizesF (v.items.take i) (IntKind.i64.wrap (8 + (v.text.length : Nat))))), (4, I64 (i : Nat))], [.box 1 70 (Val.c v)]⟩) (fun i => i ≤ v.items.length) (fun i => v.items.length - i) 0 (Nat.zero_le _) (Le.sub [1] ⟨rfl, rfl, rfl, trivial⟩ rfl) ?_
    intro i hi
    repeat (first | refine sc rfl ?_ | refine so rfl ?_ | refine sb rfl ?_)
    refine C_if rfl (fun m1 => ?_) (fun m1 => ?_) <;> simp only [decide_eq_true_eq, decide_eq_false_iff_not, Bool.not_eq_true', Bool.not_eq_false', beq_iff_eq, beq_eq_false_iff_ne, bne_iff_ne, ne_eq, bne_eq_false_iff_eq, Decidable.not_not] at m1
    · have hil : i < v.items.length := by omega
      repeat (first | refine O_le _ (Le.one 18 (SL 5 Val.c v.items) rfl (.row (Val.rows_eq _))) ?_ | refine sc rfl ?_ | refine so rfl ?_ | refine sb rfl ?_)
      refine ⟨by omega, ?_⟩
      rw [Int.toNat_natCast]
      repeat (first | refine sc rfl ?_ | refine so rfl ?_ | refine sb rfl ?_)
      refine O_call (hrec i hil) (by rfl) (by rfl) (by rfl) (by rfl) (fun r hr => ?_)
      subst hr
      repeat (first | refine sc rfl ?_ | refine so rfl ?_ | refine sb rfl ?_)
      rw [w64 (x := (i : Int) + 1) (by omega) (by omega)]
      refine ⟨i + 1, hil, by omega, ?_⟩
      rw [List.take_succ_eq_append_getElem hil, ← getD_at hil, sizesF_snoc]
      exact Le.sub [1] ⟨rfl, rfl, rfl, trivial⟩ rfl
    · obtain rfl : i = v.items.length := by omega
      rw [List.take_length]
      repeat (first | refine sc rfl ?_ | refine so rfl ?_ | refine sb rfl ?_)
      exact ⟨_, rfl, rfl, by rw [sizeF_eq]⟩
end Go.Proofs

/- Contracts of the document's values: Great, Deep. -/
set_option linter.unusedSimpArgs false
set_option linter.unusedVariables false
set_option maxRecDepth 100000
namespace Go.Proofs
open Go.Sy Go.Lib

mutual
def Val.deep : Val → Nat
  | ⟨_, _, _, _, l⟩ => 1 + Val.deeps l
def Val.deeps : List Val → Nat
  | [] => 0
  | x :: xs => max (Val.deep x) (Val.deeps xs)
end
theorem deep_eq (v : Val) : v.deep = 1 + Val.deeps v.items := by cases v; rfl
theorem deeps_le {l : List Val} {d : Nat} (h : ∀ i, i < l.length → (l.getD i default).deep ≤ d) : Val.deeps l ≤ d := by
  induction l with
  | nil => exact Nat.zero_le _
  | cons x xs ih =>
    simp only [Val.deeps]
    have h0 := h 0 (by simp)
    have h1 := ih (fun i hi => by have := h (i + 1) (by simpa using hi); simpa using this)
    simp at h0
    omega
mutual
def greatF : Val → Nat → Bool
  | ⟨_, _, t, g, l⟩, d => if 40 < d ∨ 60 < l.length ∨ 300 < g.length ∨ 2000 < t.length then true else greatsF l (d + 1 + l.length / 4) 0
def greatsF : List Val → Nat → Int → Bool
  | [], _, n => decide (20000 < n)
  | x :: xs, d, n => greatF x d || greatsF xs d (min (IntKind.i64.wrap (n + sizeF x)) 100000)
end
theorem greatF_eq (v : Val) (d : Nat) : greatF v d = if 40 < d ∨ 60 < v.items.length ∨ 300 < v.tags.length ∨ 2000 < v.text.length then true else greatsF v.items (d + 1 + v.items.length / 4) 0 := by cases v; rfl
theorem greatsF_all : ∀ (l : List Val) (d : Nat) (n : Int), greatsF l d n = false → ∀ i, i < l.length → greatF (l.getD i default) d = false
  | [], d, n, _, i, hi => absurd hi (Nat.not_lt_zero _)
  | x :: xs, d, n, h, 0, _ => by
    simp only [greatsF, Bool.or_eq_false_iff] at h
    simpa using h.1
  | x :: xs, d, n, h, i + 1, hi => by
    simp only [greatsF, Bool.or_eq_false_iff] at h
    simpa using greatsF_all xs d _ h.2 i (by simpa using hi)
theorem greatF_few : ∀ (n : Nat) (v : Val) (d : Nat), SizeOf.sizeOf v ≤ n → greatF v d = false → FewV v ∧ v.deep + d ≤ 41
  | 0, v, d, hn, _ => by cases v; simp at hn
  | n + 1, v, d, hn, h => by
    rw [greatF_eq] at h
    split at h
    · cases h
    · rename_i hc
      have hrec : ∀ i, i < v.items.length → FewV (v.items.getD i default) ∧ (v.items.getD i default).deep + (d + 1 + v.items.length / 4) ≤ 41 := fun i hi => greatF_few n _ _ (by have := items_lt hi; omega) (greatsF_all _ _ _ h i hi)
      refine ⟨.mk (by omega) (by omega) (by omega) (fun i hi => (hrec i hi).1), ?_⟩
      have hd2 := deeps_le (l := v.items) (d := 40 - d) (fun j hj => by have := (hrec j hj).2; omega)
      rw [deep_eq]
      omega

theorem greatsF_cons (x : Val) (xs : List Val) (d : Nat) (n : Int) : greatsF (x :: xs) d n = (greatF x d || greatsF xs d (min (IntKind.i64.wrap (n + sizeF x)) 100000)) := rfl
theorem drop_at {l : List Val} {i : Nat} (h : i < l.length) : l.drop i = l.getD i default :: l.drop (i + 1) := by
  rw [List.drop_eq_getElem_cons h, getD_at h]
/-- Great, exactly. -/
theorem Great15_c : ∀ (n : Nat) (v : Val), SizeOf.sizeOf v ≤ n → ∀ d : Nat, d ≤ 1000 → FnP Tryz.prog 28 [.agg (Val.c v), I64 (d : Nat)] (fun r => r = B (greatF v d))
  | 0, v, hn, _, _ => by cases v; simp at hn
  | n + 1, v, hn, d, hd => by
    refine FnP.intro Tryz.tabOK Tryz.wide_ Tryz.func28 rfl (by decide) rfl (fun X => ?_)
    have hrec : ∀ i, i < v.items.length → ∀ d : Nat, d ≤ 1000 → FnP Tryz.prog 28 [.agg (Val.c (v.items.getD i default)), I64 (d : Nat)] (fun r => r = B (greatF (v.items.getD i default) d)) := fun i hi => Great15_c n _ (by have := items_lt hi; omega)
    rw [greatF_eq]
    repeat (first | refine sc rfl ?_ | refine so rfl ?_ | refine sb rfl ?_)
    refine O_case 9 rfl (fun c1 => ?_) (fun c1 => ?_) <;> simp only [decide_eq_true_eq, decide_eq_false_iff_not, Bool.not_eq_true', Bool.not_eq_false', beq_iff_eq, beq_eq_false_iff_ne, bne_iff_ne, ne_eq, bne_eq_false_iff_eq, Decidable.not_not] at c1
    · repeat (first | refine sc rfl ?_ | refine so rfl ?_ | refine sb rfl ?_)
      refine C_true rfl rfl ?_
      repeat (first | refine sc rfl ?_ | refine so rfl ?_ | refine sb rfl ?_)
      exact ⟨_, rfl, rfl, by rw [if_pos (by omega)]⟩
    repeat (first | refine sc rfl ?_ | refine so rfl ?_ | refine sb rfl ?_)
    refine O_case 15 rfl (fun c2 => ?_) (fun c2 => ?_) <;> simp only [decide_eq_true_eq, decide_eq_false_iff_not, Bool.not_eq_true', Bool.not_eq_false', beq_iff_eq, beq_eq_false_iff_ne, bne_iff_ne, ne_eq, bne_eq_false_iff_eq, Decidable.not_not] at c2
    · repeat (first | refine sc rfl ?_ | refine so rfl ?_ | refine sb rfl ?_)
      refine C_true rfl rfl ?_
      repeat (first | refine sc rfl ?_ | refine so rfl ?_ | refine sb rfl ?_)
      exact ⟨_, rfl, rfl, by rw [if_pos (by omega)]⟩
    repeat (first | refine sc rfl ?_ | refine so rfl ?_ | refine sb rfl ?_)
    refine O_case 21 rfl (fun c3 => ?_) (fun c3 => ?_) <;> simp only [decide_eq_true_eq, decide_eq_false_iff_not, Bool.not_eq_true', Bool.not_eq_false', beq_iff_eq, beq_eq_false_iff_ne, bne_iff_ne, ne_eq, bne_eq_false_iff_eq, Decidable.not_not] at c3
    · repeat (first | refine sc rfl ?_ | refine so rfl ?_ | refine sb rfl ?_)
      refine C_true rfl rfl ?_
      repeat (first | refine sc rfl ?_ | refine so rfl ?_ | refine sb rfl ?_)
      exact ⟨_, rfl, rfl, by rw [if_pos (by omega)]⟩
    repeat (first | refine sc rfl ?_ | refine so rfl ?_ | refine sb rfl ?_)
    refine C_if rfl (fun c4 => ?_) (fun c4 => ?_) <;> simp only [decide_eq_true_eq, decide_eq_false_iff_not, Bool.not_eq_true', Bool.not_eq_false', beq_iff_eq, beq_eq_false_iff_ne, bne_iff_ne, ne_eq, bne_eq_false_iff_eq, Decidable.not_not] at c4
    · repeat (first | refine sc rfl ?_ | refine so rfl ?_ | refine sb rfl ?_)
      exact ⟨_, rfl, rfl, by rw [if_pos (by omega)]⟩
    rw [if_neg (by omega)]
    generalize hg : greatsF v.items (d + 1 + v.items.length / 4) 0 = g
    repeat (first | refine sc rfl ?_ | refine so rfl ?_ | refine sb rfl ?_)
    refine C_loop (fun q : Nat × Int => ⟨[(1, I64 (d : Nat)), (2, .bp 2 0), (5, I64 q.2), (6, I64 (q.1 : Nat))], [.box 2 70 (Val.c v)]⟩) (fun q => q.1 ≤ v.items.length ∧ greatsF (v.items.drop q.1) (d + 1 + v.items.length / 4) q.2 = g ∧ ∀ j, j < q.1 → FewV (v.items.getD j default)) (fun q => v.items.length - q.1) (0, 0) ⟨Nat.zero_le _, hg, fun j hj => absurd hj (Nat.not_lt_zero _)⟩ (Le.sub [2] ⟨rfl, rfl, rfl, rfl, trivial⟩ rfl) ?_
    rintro ⟨i, x⟩ ⟨hi, hgr, hall⟩
    simp only [] at hi hgr hall
    repeat (first | refine sc rfl ?_ | refine so rfl ?_ | refine sb rfl ?_)
    refine C_if rfl (fun m1 => ?_) (fun m1 => ?_) <;> simp only [decide_eq_true_eq, decide_eq_false_iff_not, Bool.not_eq_true', Bool.not_eq_false', beq_iff_eq, beq_eq_false_iff_ne, bne_iff_ne, ne_eq, bne_eq_false_iff_eq, Decidable.not_not] at m1
    · have hil : i < v.items.length := by omega
      rw [drop_at hil, greatsF_cons] at hgr
      repeat (first | refine sc rfl ?_ | refine so rfl ?_ | refine sb rfl ?_)
      refine C_drawD rfl (by kernel_rfl) ?_
      refine sd rfl ?_
      refine sdw (SL 5 Val.c v.items) rfl rfl rfl (.row (Val.rows_eq _)) ?_
      refine sd rfl ?_
      refine sd rfl ⟨by omega, ?_⟩
      rw [Int.toNat_natCast]
      refine sd rfl ?_
      refine sd rfl ?_
      refine sd rfl ?_
      refine sd rfl ?_
      refine sd rfl ?_
      refine sd rfl ?_
      refine D_X (I64 (IntKind.i64.wrap (((v.items.length : Nat) : Int).tdiv 4))) (X_stillX rfl rfl rfl (by decide)) ?_
      refine sd rfl ?_
      rw [quo64 (by omega) (by omega) (by omega), w64 (x := (d : Int) + 1) (by omega) (by omega), w64 (by omega) (by omega), show (d : Int) + 1 + (v.items.length : Int) / 4 = ((d + 1 + v.items.length / 4 : Nat) : Int) by omega]
      refine D_call (hrec i hil _ (by omega)) rfl rfl rfl rfl ?_
      refine sd rfl ?_
      repeat (first | refine sc rfl ?_ | refine so rfl ?_ | refine sb rfl ?_)
      cases hb : greatF (v.items.getD i default) (d + 1 + v.items.length / 4) with
      | true =>
        rw [hb] at hgr
        refine C_true rfl rfl ?_
        repeat (first | refine sc rfl ?_ | refine so rfl ?_ | refine sb rfl ?_)
        exact ⟨_, rfl, rfl, by rw [← hgr]; rfl⟩
      | false =>
        rw [hb] at hgr
        have hfe := (greatF_few _ _ _ (Nat.le_refl _) hb).1
        refine C_false rfl rfl ?_
        repeat (first | refine O_le _ (Le.one 49 (SL 5 Val.c v.items) rfl (.row (Val.rows_eq _))) ?_ | refine sc rfl ?_ | refine so rfl ?_ | refine sb rfl ?_)
        refine ⟨by omega, ?_⟩
        rw [Int.toNat_natCast]
        repeat (first | refine sc rfl ?_ | refine so rfl ?_ | refine sb rfl ?_)
        refine O_call (Size_c _ _ (Nat.le_refl _) hfe) (by rfl) (by rfl) (by rfl) (by rfl) (fun r hr => ?_)
        subst hr
        repeat (first | refine sc rfl ?_ | refine so rfl ?_ | refine sb rfl ?_)
        rw [w64 (x := (i : Int) + 1) (by omega) (by omega)]
        refine ⟨(i + 1, min (IntKind.i64.wrap (x + sizeF (v.items.getD i default))) 100000), ⟨hil, hgr, fun j hj => ?_⟩, by simp only []; omega, Le.sub [2] ⟨rfl, rfl, rfl, rfl, trivial⟩ rfl⟩
        by_cases hji : j < i
        · exact hall j hji
        · obtain rfl : j = i := by simp only [] at hj; omega
          exact hfe
    · obtain rfl : i = v.items.length := by omega
      rw [List.drop_length] at hgr
      repeat (first | refine sc rfl ?_ | refine so rfl ?_ | refine sb rfl ?_)
      exact ⟨_, rfl, rfl, by rw [← hgr]; rfl⟩
end Go.Proofs

/- Contracts: the document's Bad (which byte of a text is wrong). -/
set_option linter.unusedSimpArgs false
set_option linter.unusedVariables false
set_option maxRecDepth 100000
namespace Go.Proofs
open Go.Sy Go.Lib

def by_ (l : List UInt8) (i : Nat) : Nat := (l.getD i 0).toNat
theorem by_lt (l : List UInt8) (i : Nat) : by_ l i < 256 := by unfold by_; exact UInt8.toNat_lt _
theorem by_drop (l : List UInt8) (p i : Nat) : by_ (l.drop p) i = by_ l (p + i) := by
  unfold by_; rw [List.getD_eq_getElem?_getD, List.getD_eq_getElem?_getD, List.getElem?_drop]
def more? (l : List UInt8) (i : Nat) : Option Nat := if i < l.length ∧ 128 ≤ by_ l i ∧ by_ l i ≤ 191 then some (by_ l i - 128) else none
def startN (c : Nat) : Nat × Nat × Nat := if 240 ≤ c ∧ c < 248 then (c - 240, 4, 65536) else if 224 ≤ c ∧ c < 240 then (c - 224, 3, 2048) else if 192 ≤ c ∧ c < 224 then (c - 192, 2, 128) else (0, 0, 0)
def runN (l : List UInt8) : Nat → Nat → Nat → Option Nat
  | 0, _, n => some n
  | f + 1, i, n => match more? l i with
    | none => none
    | some x => runN l f (i + 1) (n * 64 + x)
def finN (k least : Nat) : Option Nat → Nat
  | none => 0
  | some n => if n < least ∨ 1114112 ≤ n ∨ 55296 ≤ n ∧ n < 57344 then 0 else k
def refWd (l : List UInt8) : Nat := if by_ l 0 < 128 then 1 else finN (startN (by_ l 0)).2.1 (startN (by_ l 0)).2.2 (runN l ((startN (by_ l 0)).2.1 - 1) 1 (startN (by_ l 0)).1)

theorem more_pos {l : List UInt8} {i : Nat} (h : i < l.length ∧ by_ l i / 64 = 2) : more? l i = some (by_ l i - 128) := by
  unfold more?; rw [if_pos (by omega)]
theorem more_neg {l : List UInt8} {i : Nat} (h : ¬ (i < l.length ∧ by_ l i / 64 = 2)) : more? l i = none := by
  unfold more?; rw [if_neg (by omega)]

theorem getD_by (l : List UInt8) (i : Nat) : (l.getD i 0).toNat = by_ l i := rfl

theorem more_p (l : List UInt8) (i : Nat) : FnP Tryz.prog 262 [.s l, I64 (i : Int)] (· = .tup [I64 (((more? l i).getD 0 : Nat) : Int), B (more? l i).isSome]) := by
  refine FnP.intro Tryz.tabOK Tryz.wide_ Tryz.func262 rfl (by decide) rfl (fun X => ?_)
  repeat (first | refine sc rfl ?_ | refine so rfl ?_ | refine sb rfl ?_)
  refine O_join ⟨[(0, .s l), (1, I64 (i : Int)), (21, B (!(more? l i).isSome))], []⟩ ?_ (fun s h => C_le _ h ?_)
  · refine O_case 10 rfl (fun h => ?_) (fun h => ?_) <;> simp at h
    · repeat (first | refine sc rfl ?_ | refine so rfl ?_ | refine sb rfl ?_)
      exact Le.sub [] ⟨rfl, rfl, congrArg (fun x => some (B x)) (by rw [more_neg (by omega)]; rfl), trivial⟩ rfl
    · repeat (first | refine sc rfl ?_ | refine so rfl ?_ | refine sb rfl ?_ | refine ⟨by simp; omega, ?_⟩)
      refine O_case 16 rfl (fun h2 => ?_) (fun h2 => ?_)
      · have h3 : by_ l i < 128 := by have := of_decide_eq_true h2; rw [Int.toNat_natCast, getD_by] at this; omega
        repeat (first | refine sc rfl ?_ | refine so rfl ?_ | refine sb rfl ?_)
        exact Le.sub [] ⟨rfl, rfl, congrArg (fun x => some (B x)) (by rw [more_neg (by omega)]; rfl), trivial⟩ rfl
      · have h3 : ¬ by_ l i < 128 := by have := of_decide_eq_false h2; rw [Int.toNat_natCast, getD_by] at this; omega
        repeat (first | refine sc rfl ?_ | refine so rfl ?_ | refine sb rfl ?_ | refine ⟨by simp; omega, ?_⟩)
        refine Le.sub [] ⟨rfl, rfl, congrArg (fun x => some (B x)) ?_, trivial⟩ rfl
        rw [Int.toNat_natCast, getD_by]
        by_cases h4 : by_ l i ≤ 191
        · rw [more_pos (by omega)]; simp; omega
        · rw [more_neg (by omega)]; simp; omega
  refine C_if rfl (fun h => ?_) (fun h => ?_)
  · have e : more? l i = none := by simpa using h
    rw [e]
    repeat (first | refine sc rfl ?_ | refine so rfl ?_ | refine sb rfl ?_)
    exact ⟨_, rfl, rfl, rfl⟩
  · obtain ⟨x, e⟩ : ∃ x, more? l i = some x := by
      cases e : more? l i with
      | none => rw [e] at h; cases h
      | some x => exact ⟨x, rfl⟩
    rw [e]
    have e2 := e
    unfold more? at e2
    split at e2
    · rename_i h5
      cases e2
      repeat (first | refine sc rfl ?_ | refine so rfl ?_ | refine sb rfl ?_ | refine ⟨by simp; omega, ?_⟩)
      refine ⟨_, rfl, rfl, ?_⟩
      rw [Int.toNat_natCast, getD_by, w64 (x := (by_ l i : Int)) (by omega) (by omega), w64 (by omega) (by omega), show ((by_ l i : Int) - 128) = ((by_ l i - 128 : Nat) : Int) by omega]
      rfl
    · cases e2
def st1 (c : Nat) : Nat × Nat × Nat := if 192 ≤ c ∧ c < 224 then (c - 192, 2, 128) else (0, 0, 0)
def st2 (c : Nat) : Nat × Nat × Nat := if 224 ≤ c ∧ c < 240 then (c - 224, 3, 2048) else st1 c
theorem startN_eq (c : Nat) : startN c = if 240 ≤ c ∧ c < 248 then (c - 240, 4, 65536) else st2 c := rfl
theorem more_drop (l : List UInt8) (p i : Nat) : more? (l.drop p) i = more? l (p + i) := by
  unfold more?
  rw [by_drop, List.length_drop]
  by_cases h : p + i < l.length
  · simp only [show (i < l.length - p) = True from eq_true (by omega), show (p + i < l.length) = True from eq_true h]
  · simp only [show (i < l.length - p) = False from eq_false (by omega), show (p + i < l.length) = False from eq_false h]
theorem startN_bd (c : Nat) (h : c < 256) : (startN c).1 ≤ 31 ∧ (startN c).2.1 ≤ 4 ∧ (startN c).2.2 ≤ 65536 := by
  unfold startN
  repeat' split
  all_goals simp only []
  all_goals omega
def nb (i : Nat) : Nat := if i ≤ 1 then 63 else if i ≤ 2 then 4095 else if i ≤ 3 then 262143 else 16777215
theorem more_le {l : List UInt8} {i x : Nat} (h : more? l i = some x) : x ≤ 63 := by
  unfold more? at h
  split at h
  · cases h; omega
  · cases h

theorem Rune_p (l : List UInt8) (p : Nat) (hp : p < l.length) (hl : l.length ≤ 9223372036854775000) : FnP Tryz.prog 214 [.s l, I64 (p : Int)] (· = I64 (refWd (l.drop p) : Nat)) := by
  refine FnP.intro Tryz.tabOK Tryz.wide_ Tryz.func214 rfl (by decide) rfl (fun X => ?_)
  have hb : by_ (l.drop p) 0 = by_ l p := by_drop l p 0
  obtain ⟨c, hc⟩ : ∃ c, by_ l p = c := ⟨_, rfl⟩
  have hc256 : c < 256 := by rw [← hc]; exact by_lt l p
  have hsb := startN_bd c hc256
  unfold refWd
  rw [hb, hc]
  repeat (first | refine sc rfl ?_ | refine so rfl ?_ | refine sb rfl ?_ | refine ⟨by omega, ?_⟩)
  rw [Int.toNat_natCast, getD_by, w64 (x := (by_ l p : Int)) (by omega) (by omega), hc]
  repeat (first | refine sc rfl ?_ | refine so rfl ?_ | refine sb rfl ?_ | refine ⟨by omega, ?_⟩)
  refine C_if rfl (fun h => ?_) (fun h => ?_) <;> simp only [decide_eq_true_eq, decide_eq_false_iff_not] at h
  · repeat (first | refine sc rfl ?_ | refine so rfl ?_ | refine sb rfl ?_)
    exact ⟨_, rfl, rfl, by rw [if_pos (by omega)]; rfl⟩
  rw [if_neg (by omega)]
  repeat (first | refine sc rfl ?_ | refine so rfl ?_ | refine sb rfl ?_)
  refine O_join ⟨[(0, .s l), (1, I64 (p : Int)), (5, I64 c), (6, I64 0), (7, I64 0), (8, I64 0), (23, B (decide (192 ≤ c ∧ c < 224)))], []⟩ ?_ (fun s h => C_le _ h ?_)
  · refine O_case 20 rfl (fun h => ?_) (fun h => ?_) <;> simp at h
    · repeat (first | refine sc rfl ?_ | refine so rfl ?_ | refine sb rfl ?_)
      exact Le.sub [] ⟨rfl, rfl, rfl, rfl, rfl, rfl, congrArg (fun x => some (B x)) (by rw [Bool.eq_iff_iff]; simp; omega), trivial⟩ rfl
    · repeat (first | refine sc rfl ?_ | refine so rfl ?_ | refine sb rfl ?_)
      exact Le.sub [] ⟨rfl, rfl, rfl, rfl, rfl, rfl, congrArg (fun x => some (B x)) (by rw [Bool.eq_iff_iff]; simp; omega), trivial⟩ rfl
  refine C_ifJ ⟨[(0, .s l), (1, I64 (p : Int)), (5, I64 c), (6, I64 ((st1 c).1 : Nat)), (7, I64 ((st1 c).2.1 : Nat)), (8, I64 ((st1 c).2.2 : Nat))], []⟩ rfl (fun h => ?_) (fun h => ?_) (fun s h => C_le _ h ?_)
  · have h5 := of_decide_eq_true h
    repeat (first | refine sc rfl ?_ | refine so rfl ?_ | refine sb rfl ?_)
    rw [w64 (by omega) (by omega)]
    unfold st1
    rw [if_pos h5]
    repeat (first | refine sc rfl ?_ | refine so rfl ?_ | refine sb rfl ?_)
    exact Le.sub [] ⟨rfl, rfl, rfl, congrArg (fun x => some (I64 x)) (by simp only []; omega), rfl, rfl, trivial⟩ rfl
  · have h5 := of_decide_eq_false h
    unfold st1
    rw [if_neg h5]
    repeat (first | refine sc rfl ?_ | refine so rfl ?_ | refine sb rfl ?_)
    exact Le.sub [] ⟨rfl, rfl, rfl, rfl, rfl, rfl, trivial⟩ rfl
  repeat (first | refine sc rfl ?_ | refine so rfl ?_ | refine sb rfl ?_)
  refine O_join ⟨[(0, .s l), (1, I64 (p : Int)), (5, I64 c), (6, I64 ((st1 c).1 : Nat)), (7, I64 ((st1 c).2.1 : Nat)), (8, I64 ((st1 c).2.2 : Nat)), (31, B (decide (224 ≤ c ∧ c < 240)))], []⟩ ?_ (fun s h => C_le _ h ?_)
  · refine O_case 28 rfl (fun h => ?_) (fun h => ?_) <;> simp at h
    · repeat (first | refine sc rfl ?_ | refine so rfl ?_ | refine sb rfl ?_)
      exact Le.sub [] ⟨rfl, rfl, rfl, rfl, rfl, rfl, congrArg (fun x => some (B x)) (by rw [Bool.eq_iff_iff]; simp; omega), trivial⟩ rfl
    · repeat (first | refine sc rfl ?_ | refine so rfl ?_ | refine sb rfl ?_)
      exact Le.sub [] ⟨rfl, rfl, rfl, rfl, rfl, rfl, congrArg (fun x => some (B x)) (by rw [Bool.eq_iff_iff]; simp; omega), trivial⟩ rfl
  refine C_ifJ ⟨[(0, .s l), (1, I64 (p : Int)), (5, I64 c), (6, I64 ((st2 c).1 : Nat)), (7, I64 ((st2 c).2.1 : Nat)), (8, I64 ((st2 c).2.2 : Nat))], []⟩ rfl (fun h => ?_) (fun h => ?_) (fun s h => C_le _ h ?_)
  · have h5 := of_decide_eq_true h
    repeat (first | refine sc rfl ?_ | refine so rfl ?_ | refine sb rfl ?_)
    rw [w64 (by omega) (by omega)]
    unfold st2
    rw [if_pos h5]
    repeat (first | refine sc rfl ?_ | refine so rfl ?_ | refine sb rfl ?_)
    exact Le.sub [] ⟨rfl, rfl, rfl, congrArg (fun x => some (I64 x)) (by simp only []; omega), rfl, rfl, trivial⟩ rfl
  · have h5 := of_decide_eq_false h
    unfold st2
    rw [if_neg h5]
    repeat (first | refine sc rfl ?_ | refine so rfl ?_ | refine sb rfl ?_)
    exact Le.sub [] ⟨rfl, rfl, rfl, rfl, rfl, rfl, trivial⟩ rfl
  repeat (first | refine sc rfl ?_ | refine so rfl ?_ | refine sb rfl ?_)
  refine O_join ⟨[(0, .s l), (1, I64 (p : Int)), (5, I64 c), (6, I64 ((st2 c).1 : Nat)), (7, I64 ((st2 c).2.1 : Nat)), (8, I64 ((st2 c).2.2 : Nat)), (39, B (decide (240 ≤ c ∧ c < 248)))], []⟩ ?_ (fun s h => C_le _ h ?_)
  · refine O_case 36 rfl (fun h => ?_) (fun h => ?_) <;> simp at h
    · repeat (first | refine sc rfl ?_ | refine so rfl ?_ | refine sb rfl ?_)
      exact Le.sub [] ⟨rfl, rfl, rfl, rfl, rfl, rfl, congrArg (fun x => some (B x)) (by rw [Bool.eq_iff_iff]; simp; omega), trivial⟩ rfl
    · repeat (first | refine sc rfl ?_ | refine so rfl ?_ | refine sb rfl ?_)
      exact Le.sub [] ⟨rfl, rfl, rfl, rfl, rfl, rfl, congrArg (fun x => some (B x)) (by rw [Bool.eq_iff_iff]; simp; omega), trivial⟩ rfl
  refine C_ifJ ⟨[(0, .s l), (1, I64 (p : Int)), (5, I64 c), (6, I64 ((startN c).1 : Nat)), (7, I64 ((startN c).2.1 : Nat)), (8, I64 ((startN c).2.2 : Nat))], []⟩ rfl (fun h => ?_) (fun h => ?_) (fun s h => C_le _ h ?_)
  · have h5 := of_decide_eq_true h
    repeat (first | refine sc rfl ?_ | refine so rfl ?_ | refine sb rfl ?_)
    rw [w64 (by omega) (by omega)]
    rw [startN_eq, if_pos h5]
    repeat (first | refine sc rfl ?_ | refine so rfl ?_ | refine sb rfl ?_)
    exact Le.sub [] ⟨rfl, rfl, rfl, congrArg (fun x => some (I64 x)) (by simp only []; omega), rfl, rfl, trivial⟩ rfl
  · have h5 := of_decide_eq_false h
    rw [startN_eq, if_neg h5]
    repeat (first | refine sc rfl ?_ | refine so rfl ?_ | refine sb rfl ?_)
    exact Le.sub [] ⟨rfl, rfl, rfl, rfl, rfl, rfl, trivial⟩ rfl
  obtain ⟨n0, hn0⟩ : ∃ n0, (startN c).1 = n0 := ⟨_, rfl⟩
  obtain ⟨k, hk⟩ : ∃ k, (startN c).2.1 = k := ⟨_, rfl⟩
  obtain ⟨least, hle⟩ : ∃ x, (startN c).2.2 = x := ⟨_, rfl⟩
  rw [hn0, hk, hle]
  rw [hn0, hk, hle] at hsb
  repeat (first | refine sc rfl ?_ | refine so rfl ?_ | refine sb rfl ?_)
  refine C_loop (fun q : Nat × Nat => ⟨[(0, .s l), (1, I64 (p : Int)), (6, I64 (q.2 : Nat)), (7, I64 (k : Nat)), (8, I64 (least : Nat)), (9, I64 (q.1 : Nat))], []⟩)
    (fun q => 1 ≤ q.1 ∧ (q.1 = 1 ∨ q.1 ≤ k) ∧ q.2 ≤ nb q.1 ∧ runN (l.drop p) (k - q.1) q.1 q.2 = runN (l.drop p) (k - 1) 1 n0) (fun q => k - q.1) (1, n0) ⟨by simp only []; omega, .inl rfl, by show n0 ≤ 63; omega, rfl⟩
    (Le.sub [] ⟨rfl, rfl, rfl, rfl, rfl, rfl, trivial⟩ rfl) ?_
  rintro ⟨i, n⟩ ⟨hi1, hik, hnb, hrun⟩
  simp only [] at hi1 hik hnb hrun
  repeat (first | refine sc rfl ?_ | refine so rfl ?_ | refine sb rfl ?_)
  refine C_if rfl (fun h => ?_) (fun h => ?_) <;> simp only [decide_eq_true_eq, decide_eq_false_iff_not] at h
  · have hik' : i < k := by omega
    repeat (first | refine sc rfl ?_ | refine so rfl ?_ | refine sb rfl ?_)
    rw [w64 (by omega) (by omega), show ((p : Int) + (i : Int)) = ((p + i : Nat) : Int) by omega]
    refine O_call (more_p l (p + i)) (by rfl) (by rfl) (by rfl) (by rfl) (fun r hr => ?_)
    subst hr
    rw [← more_drop]
    have hstep : runN (l.drop p) (k - i) i n = match more? (l.drop p) i with
        | none => none
        | some x => runN (l.drop p) (k - (i + 1)) (i + 1) (n * 64 + x) := by
      rw [show k - i = (k - (i + 1)) + 1 by omega]; rfl
    cases hm : more? (l.drop p) i with
    | none =>
      rw [hm] at hstep
      repeat (first | refine sc rfl ?_ | refine so rfl ?_ | refine sb rfl ?_)
      refine C_true rfl rfl ?_
      repeat (first | refine sc rfl ?_ | refine so rfl ?_ | refine sb rfl ?_)
      exact ⟨_, rfl, rfl, by rw [← hrun, hstep]; rfl⟩
    | some x =>
      rw [hm] at hstep
      have hx := more_le hm
      repeat (first | refine sc rfl ?_ | refine so rfl ?_ | refine sb rfl ?_)
      refine C_false rfl rfl ?_
      have hb1 : n * 64 + x ≤ nb (i + 1) := by
        unfold nb at hnb ⊢
        split at hnb
        · rw [if_neg (by omega), if_pos (by omega)]; omega
        · split at hnb
          · rw [if_neg (by omega), if_neg (by omega), if_pos (by omega)]; omega
          · split at hnb
            · rw [if_neg (by omega), if_neg (by omega), if_neg (by omega)]; omega
            · omega
      have hb2 : nb (i + 1) ≤ 16777215 := by unfold nb; (repeat' split) <;> omega
      repeat (first | refine sc rfl ?_ | refine so rfl ?_ | refine sb rfl ?_)
      rw [show (some x).getD 0 = x from rfl, w64 (x := (n : Int) * 64) (by omega) (by omega), w64 (x := (n : Int) * 64 + (x : Int)) (by omega) (by omega), w64 (by omega) (by omega)]
      repeat (first | refine sc rfl ?_ | refine so rfl ?_ | refine sb rfl ?_)
      refine ⟨(i + 1, n * 64 + x), ⟨by simp only []; omega, by simp only []; omega, hb1, ?_⟩, by simp only []; omega, Le.sub [] ⟨rfl, rfl, congrArg (fun x => some (I64 x)) (by omega), rfl, rfl, rfl, trivial⟩ rfl⟩
      simp only []
      rw [← hrun, hstep]
  · have hlast : runN (l.drop p) (k - 1) 1 n0 = some n := by
      rw [← hrun, show k - i = 0 by omega]; rfl
    rw [hlast]
    repeat (first | refine sc rfl ?_ | refine so rfl ?_ | refine sb rfl ?_)
    refine O_join ⟨[(7, I64 (k : Nat)), (75, B (decide (n < least ∨ 1114112 ≤ n ∨ 55296 ≤ n ∧ n < 57344)))], []⟩ ?_ (fun s h => C_le _ h ?_)
    · have fin : ∀ b : Bool, b = decide (n < least ∨ 1114112 ≤ n ∨ 55296 ≤ n ∧ n < 57344) → some (B b) = some (B (decide (n < least ∨ 1114112 ≤ n ∨ 55296 ≤ n ∧ n < 57344))) := fun b hb => by rw [hb]
      refine O_case 64 rfl (fun h1 => ?_) (fun h1 => ?_) <;> simp at h1
      · repeat (first | refine sc rfl ?_ | refine so rfl ?_ | refine sb rfl ?_)
        exact Le.sub [] ⟨rfl, fin _ (by rw [Bool.eq_iff_iff]; simp; omega), trivial⟩ rfl
      · repeat (first | refine sc rfl ?_ | refine so rfl ?_ | refine sb rfl ?_)
        refine O_case 68 rfl (fun h2 => ?_) (fun h2 => ?_) <;> simp at h2
        · repeat (first | refine sc rfl ?_ | refine so rfl ?_ | refine sb rfl ?_)
          exact Le.sub [] ⟨rfl, fin _ (by rw [Bool.eq_iff_iff]; simp; omega), trivial⟩ rfl
        · repeat (first | refine sc rfl ?_ | refine so rfl ?_ | refine sb rfl ?_)
          refine O_case 71 rfl (fun h3 => ?_) (fun h3 => ?_) <;> simp at h3
          · repeat (first | refine sc rfl ?_ | refine so rfl ?_ | refine sb rfl ?_)
            exact Le.sub [] ⟨rfl, fin _ (by rw [Bool.eq_iff_iff]; simp; omega), trivial⟩ rfl
          · repeat (first | refine sc rfl ?_ | refine so rfl ?_ | refine sb rfl ?_)
            exact Le.sub [] ⟨rfl, fin _ (by rw [Bool.eq_iff_iff]; simp; omega), trivial⟩ rfl
    unfold finN
    refine C_if rfl (fun h => ?_) (fun h => ?_)
    · repeat (first | refine sc rfl ?_ | refine so rfl ?_ | refine sb rfl ?_)
      exact ⟨_, rfl, rfl, by simp only []; rw [if_pos (of_decide_eq_true h)]; rfl⟩
    · repeat (first | refine sc rfl ?_ | refine so rfl ?_ | refine sb rfl ?_)
      exact ⟨_, rfl, rfl, by simp only []; rw [if_neg (of_decide_eq_false h)]⟩

theorem refWd_le4 (l : List UInt8) : refWd l ≤ 4 := by
  have h := startN_bd (by_ l 0) (by_lt l 0)
  unfold refWd
  split
  · omega
  · unfold finN
    split
    · omega
    · split <;> omega
def badR (l : List UInt8) : Nat → Nat → Int
  | 0, _ => -1
  | f + 1, p => if l.length ≤ p then -1 else if refWd (l.drop p) = 0 then (p : Int) else badR l f (p + refWd (l.drop p))
theorem refBad_c (l : List UInt8) (hl : l.length ≤ 9000000000000000000) : FnP Tryz.prog 147 [.s l] (· = I64 (badR l (l.length + 1) 0)) := by
  obtain ⟨R, hR⟩ : ∃ R, badR l (l.length + 1) 0 = R := ⟨_, rfl⟩
  rw [hR]
  refine FnP.intro Tryz.tabOK Tryz.wide_ Tryz.func147 rfl (by decide) rfl (fun X => ?_)
  repeat (first | refine sc rfl ?_ | refine so rfl ?_ | refine sb rfl ?_)
  refine C_loop (fun q : Nat × Nat => ⟨[(0, .s l), (3, I64 (q.2 : Nat))], []⟩) (fun q => q.2 ≤ l.length + 4 ∧ l.length + 1 ≤ q.1 + q.2 ∧ badR l q.1 q.2 = R) (fun q => q.1) (l.length + 1, 0) ⟨by simp only []; omega, by simp only []; omega, hR⟩ (Le.sub [] ⟨rfl, rfl, trivial⟩ rfl) ?_
  rintro ⟨f, p⟩ ⟨hp1, hp2, hp3⟩
  simp only [] at hp1 hp2 hp3
  repeat (first | refine sc rfl ?_ | refine so rfl ?_ | refine sb rfl ?_)
  refine C_if rfl (fun h => ?_) (fun h => ?_) <;> simp only [decide_eq_true_eq, decide_eq_false_iff_not] at h
  · have h' : p < l.length := by omega
    obtain ⟨f, rfl⟩ : ∃ g, f = g + 1 := ⟨f - 1, by omega⟩
    have h4 := refWd_le4 (l.drop p)
    simp only [badR] at hp3
    rw [if_neg (by omega)] at hp3
    repeat (first | refine sc rfl ?_ | refine so rfl ?_ | refine sb rfl ?_)
    refine O_call (Rune_p l p h' (by omega)) (by rfl) (by rfl) (by rfl) (by rfl) (fun r hr => ?_)
    subst hr
    repeat (first | refine sc rfl ?_ | refine so rfl ?_ | refine sb rfl ?_)
    refine C_if rfl (fun hc => ?_) (fun hc => ?_)
    · have hw : refWd (l.drop p) = 0 := by simp at hc; omega
      rw [if_pos hw] at hp3
      repeat (first | refine sc rfl ?_ | refine so rfl ?_ | refine sb rfl ?_)
      exact ⟨_, rfl, rfl, by rw [← hp3]⟩
    · have hw : refWd (l.drop p) ≠ 0 := by simp at hc; omega
      rw [if_neg hw] at hp3
      repeat (first | refine sc rfl ?_ | refine so rfl ?_ | refine sb rfl ?_)
      rw [w64 (by omega) (by omega)]
      repeat (first | refine sc rfl ?_ | refine so rfl ?_ | refine sb rfl ?_)
      exact ⟨(f, p + refWd (l.drop p)), ⟨by simp only []; omega, by simp only []; omega, hp3⟩, by simp only []; omega, Le.sub [] ⟨rfl, congrArg (fun x => some (I64 x)) (by simp only []; omega), trivial⟩ rfl⟩
  · have he : badR l f p = -1 := by
      cases f with
      | zero => rfl
      | succ f => simp only [badR]; rw [if_pos (by omega)]
    repeat (first | refine sc rfl ?_ | refine so rfl ?_ | refine sb rfl ?_)
    exact ⟨_, rfl, rfl, by rw [← hp3, he]⟩
end Go.Proofs

/- Contracts of the document's values: Deep, Well. -/
set_option linter.unusedSimpArgs false
set_option linter.unusedVariables false
set_option maxRecDepth 100000
namespace Go.Proofs
open Go.Sy Go.Lib

theorem deeps_snoc (x : Val) : ∀ (l : List Val), Val.deeps (l ++ [x]) = max (Val.deeps l) x.deep
  | [] => by simp [Val.deeps]
  | y :: l => by simp only [List.cons_append, Val.deeps]; rw [deeps_snoc x l]; omega
theorem deeps_ge : ∀ {l : List Val} {i : Nat}, i < l.length → (l.getD i default).deep ≤ Val.deeps l
  | [], i, h => absurd h (Nat.not_lt_zero _)
  | x :: l, 0, _ => by simp only [Val.deeps, List.getD_cons_zero]; omega
  | x :: l, i + 1, h => by
    have := deeps_ge (l := l) (i := i) (by simpa using h)
    simp only [Val.deeps, List.getD_cons_succ]; omega
theorem deeps_take {l : List Val} (i : Nat) : Val.deeps (l.take i) ≤ Val.deeps l := by
  induction l generalizing i with
  | nil => simp
  | cons x l ih =>
    cases i with
    | zero => simp [Val.deeps]
    | succ i => simp only [List.take_succ_cons, Val.deeps]; have := ih i; omega

theorem Deep_c : ∀ (n : Nat) (v : Val), SizeOf.sizeOf v ≤ n → FewV v → v.deep ≤ 1000 → FnP Tryz.prog 33 [.agg (Val.c v)] (fun r => r = I64 (v.deep : Nat))
  | 0, v, hn, _, _ => by cases v; simp at hn
  | n + 1, v, hn, ⟨h1, h2, h3, h4⟩, hd => by
    refine FnP.intro Tryz.tabOK Tryz.wide_ Tryz.func33 rfl (by decide) rfl (fun X => ?_)
    rw [deep_eq] at hd
    have hrec : ∀ i, i < v.items.length → FnP Tryz.prog 33 [.agg (Val.c (v.items.getD i default))] (fun r => r = I64 ((v.items.getD i default).deep : Nat)) := fun i hi => Deep_c n _ (by have := items_lt hi; omega) (h4 i hi) (by have := deeps_ge hi; omega)
    repeat (first | refine sc rfl ?_ | refine so rfl ?_ | refine sb rfl ?_)
    refine C_loop (fun i : Nat => ⟨[(1, .bp 1 0), (3, I64 ((1 + Val.deeps (v.items.take i) : Nat) : Int)), (4, I64 (i : Nat))], [.box 1 70 (Val.c v)]⟩) (fun i => i ≤ v.items.length) (fun i => v.items.length - i) 0 (Nat.zero_le _) (Le.sub [1] ⟨rfl, rfl, rfl, trivial⟩ rfl) ?_
    intro i hi
    repeat (first | refine sc rfl ?_ | refine so rfl ?_ | refine sb rfl ?_)
    refine C_if rfl (fun m1 => ?_) (fun m1 => ?_) <;> simp only [decide_eq_true_eq, decide_eq_false_iff_not, Bool.not_eq_true', Bool.not_eq_false', beq_iff_eq, beq_eq_false_iff_ne, bne_iff_ne, ne_eq, bne_eq_false_iff_eq, Decidable.not_not] at m1
    · have hil : i < v.items.length := by omega
      have hg := deeps_ge hil
      have ht := deeps_take (l := v.items) i
      repeat (first | refine O_le _ (Le.one 14 (SL 5 Val.c v.items) rfl (.row (Val.rows_eq _))) ?_ | refine sc rfl ?_ | refine so rfl ?_ | refine sb rfl ?_)
      refine ⟨by omega, ?_⟩
      rw [Int.toNat_natCast]
      repeat (first | refine sc rfl ?_ | refine so rfl ?_ | refine sb rfl ?_)
      refine O_call (hrec i hil) (by rfl) (by rfl) (by rfl) (by rfl) (fun r hr => ?_)
      subst hr
      repeat (first | refine sc rfl ?_ | refine so rfl ?_ | refine sb rfl ?_)
      rw [w64 (x := 1 + ((v.items.getD i default).deep : Int)) (by omega) (by omega), w64 (x := (i : Int) + 1) (by omega) (by omega)]
      refine ⟨i + 1, hil, by omega, ?_⟩
      rw [List.take_succ_eq_append_getElem hil, ← getD_at hil, deeps_snoc]
      exact Le.sub [1] ⟨rfl, congrArg (fun x => some (I64 x)) (by omega), rfl, trivial⟩ rfl
    · obtain rfl : i = v.items.length := by omega
      rw [List.take_length]
      repeat (first | refine sc rfl ?_ | refine so rfl ?_ | refine sb rfl ?_)
      exact ⟨_, rfl, rfl, by rw [deep_eq]⟩

def keyB (k : Int) : Bool := (decide (1 ≤ k) && decide (k ≤ 4)) || decide (k = 6)
theorem Key_c (k : Int) : FnP Tryz.prog 215 [I64 k] (fun r => r = B (keyB k)) := by
  refine FnP.intro Tryz.tabOK Tryz.wide_ Tryz.func215 rfl (by decide) rfl (fun X => ?_)
  unfold keyB
  repeat (first | refine sc rfl ?_ | refine so rfl ?_ | refine sb rfl ?_)
  refine O_case 5 rfl (fun c1 => ?_) (fun c1 => ?_) <;> simp only [decide_eq_true_eq, decide_eq_false_iff_not, Bool.not_eq_true', Bool.not_eq_false', beq_iff_eq, beq_eq_false_iff_ne, bne_iff_ne, ne_eq, bne_eq_false_iff_eq, Decidable.not_not] at c1
  · repeat (first | refine sc rfl ?_ | refine so rfl ?_ | refine sb rfl ?_)
    refine O_case 9 rfl (fun c2 => ?_) (fun c2 => ?_) <;> simp only [decide_eq_true_eq, decide_eq_false_iff_not, Bool.not_eq_true', Bool.not_eq_false', beq_iff_eq, beq_eq_false_iff_ne, bne_iff_ne, ne_eq, bne_eq_false_iff_eq, Decidable.not_not] at c2
    · repeat (first | refine sc rfl ?_ | refine so rfl ?_ | refine sb rfl ?_)
      exact ⟨_, rfl, rfl, by simp [c1, c2]⟩
    · repeat (first | refine sc rfl ?_ | refine so rfl ?_ | refine sb rfl ?_)
      exact ⟨_, rfl, rfl, congrArg (fun b => B b) (by rw [Bool.eq_iff_iff]; simp; omega)⟩
  · repeat (first | refine sc rfl ?_ | refine so rfl ?_ | refine sb rfl ?_)
    exact ⟨_, rfl, rfl, congrArg (fun b => B b) (by rw [Bool.eq_iff_iff]; simp; omega)⟩

def ordF (x y : Bool) : Int := if x then -1 else if y then 1 else 0
theorem order_c (x y : Bool) : FnP Tryz.prog 263 [B x, B y] (fun r => r = I64 (ordF x y)) := by
  refine FnP.intro Tryz.tabOK Tryz.wide_ Tryz.func263 rfl (by decide) rfl (fun X => ?_)
  cases x <;> cases y <;> repeat (first | refine sc rfl ?_ | refine so rfl ?_ | refine sb rfl ?_)
  · refine C_false rfl rfl ?_
    repeat (first | refine sc rfl ?_ | refine so rfl ?_ | refine sb rfl ?_)
    refine C_false rfl rfl ?_
    repeat (first | refine sc rfl ?_ | refine so rfl ?_ | refine sb rfl ?_)
    exact ⟨_, rfl, rfl, rfl⟩
  · refine C_false rfl rfl ?_
    repeat (first | refine sc rfl ?_ | refine so rfl ?_ | refine sb rfl ?_)
    refine C_true rfl rfl ?_
    repeat (first | refine sc rfl ?_ | refine so rfl ?_ | refine sb rfl ?_)
    exact ⟨_, rfl, rfl, rfl⟩
  · refine C_true rfl rfl ?_
    repeat (first | refine sc rfl ?_ | refine so rfl ?_ | refine sb rfl ?_)
    exact ⟨_, rfl, rfl, rfl⟩
  · refine C_true rfl rfl ?_
    repeat (first | refine sc rfl ?_ | refine so rfl ?_ | refine sb rfl ?_)
    exact ⟨_, rfl, rfl, rfl⟩

theorem Cmp_ex (a b : Val) : ∃ x, FnP Tryz.prog 216 [.agg (Val.c a), .agg (Val.c b)] (fun r => r = I64 x) := by
  by_cases k1 : a.kind = b.kind
  · by_cases k2 : keyB a.kind = true
    · by_cases k3 : a.kind = 4
      · refine ⟨ordF (Op.bytesLess a.text b.text) (!(Op.bytesLess a.text b.text || a.text == b.text)), FnP.intro Tryz.tabOK Tryz.wide_ Tryz.func216 rfl (by decide) rfl (fun X => ?_)⟩
        repeat (first | refine sc rfl ?_ | refine so rfl ?_ | refine sb rfl ?_)
        refine O_case 10 rfl (fun c => ?_) (fun c => ?_) <;> simp only [decide_eq_true_eq, decide_eq_false_iff_not, Bool.not_eq_true', Bool.not_eq_false', beq_iff_eq, beq_eq_false_iff_ne, bne_iff_ne, ne_eq, bne_eq_false_iff_eq, Decidable.not_not] at c
        · exact absurd k1 c
        repeat (first | refine sc rfl ?_ | refine so rfl ?_ | refine sb rfl ?_)
        refine O_call (Key_c a.kind) (by rfl) (by rfl) (by rfl) (by rfl) (fun r hr => ?_)
        subst hr
        rw [k2]
        repeat (first | refine sc rfl ?_ | refine so rfl ?_ | refine sb rfl ?_)
        refine C_false rfl rfl ?_
        repeat (first | refine sc rfl ?_ | refine so rfl ?_ | refine sb rfl ?_)
        refine C_true rfl (by simp [k3]) ?_
        repeat (first | refine sc rfl ?_ | refine so rfl ?_ | refine sb rfl ?_)
        refine O_call (order_c _ _) (by rfl) (by rfl) (by rfl) (by rfl) (fun r hr => ?_)
        subst hr
        repeat (first | refine sc rfl ?_ | refine so rfl ?_ | refine sb rfl ?_)
        exact ⟨_, rfl, rfl, rfl⟩
      · by_cases k4 : a.kind = 3 ∧ (decide (a.num < 0)) ≠ (decide (b.num < 0))
        · refine ⟨ordF (decide (b.num < 0)) (decide (a.num < 0)), FnP.intro Tryz.tabOK Tryz.wide_ Tryz.func216 rfl (by decide) rfl (fun X => ?_)⟩
          repeat (first | refine sc rfl ?_ | refine so rfl ?_ | refine sb rfl ?_)
          refine O_case 10 rfl (fun c => ?_) (fun c => ?_) <;> simp only [decide_eq_true_eq, decide_eq_false_iff_not, Bool.not_eq_true', Bool.not_eq_false', beq_iff_eq, beq_eq_false_iff_ne, bne_iff_ne, ne_eq, bne_eq_false_iff_eq, Decidable.not_not] at c
          · exact absurd k1 c
          repeat (first | refine sc rfl ?_ | refine so rfl ?_ | refine sb rfl ?_)
          refine O_call (Key_c a.kind) (by rfl) (by rfl) (by rfl) (by rfl) (fun r hr => ?_)
          subst hr
          rw [k2]
          repeat (first | refine sc rfl ?_ | refine so rfl ?_ | refine sb rfl ?_)
          refine C_false rfl rfl ?_
          repeat (first | refine sc rfl ?_ | refine so rfl ?_ | refine sb rfl ?_)
          refine C_false rfl (by simp [k3]) ?_
          repeat (first | refine sc rfl ?_ | refine so rfl ?_ | refine sb rfl ?_)
          refine O_case 44 rfl (fun c => ?_) (fun c => ?_) <;> simp only [decide_eq_true_eq, decide_eq_false_iff_not, Bool.not_eq_true', Bool.not_eq_false', beq_iff_eq, beq_eq_false_iff_ne, bne_iff_ne, ne_eq, bne_eq_false_iff_eq, Decidable.not_not] at c
          · repeat (first | refine sc rfl ?_ | refine so rfl ?_ | refine sb rfl ?_)
            refine C_true rfl (by simpa using k4.2) ?_
            repeat (first | refine sc rfl ?_ | refine so rfl ?_ | refine sb rfl ?_)
            refine O_call (order_c _ _) (by rfl) (by rfl) (by rfl) (by rfl) (fun r hr => ?_)
            subst hr
            repeat (first | refine sc rfl ?_ | refine so rfl ?_ | refine sb rfl ?_)
            exact ⟨_, rfl, rfl, rfl⟩
          · exact absurd k4.1 c
        · refine ⟨ordF (decide (a.num < b.num)) (decide (b.num < a.num)), FnP.intro Tryz.tabOK Tryz.wide_ Tryz.func216 rfl (by decide) rfl (fun X => ?_)⟩
          repeat (first | refine sc rfl ?_ | refine so rfl ?_ | refine sb rfl ?_)
          refine O_case 10 rfl (fun c => ?_) (fun c => ?_) <;> simp only [decide_eq_true_eq, decide_eq_false_iff_not, Bool.not_eq_true', Bool.not_eq_false', beq_iff_eq, beq_eq_false_iff_ne, bne_iff_ne, ne_eq, bne_eq_false_iff_eq, Decidable.not_not] at c
          · exact absurd k1 c
          repeat (first | refine sc rfl ?_ | refine so rfl ?_ | refine sb rfl ?_)
          refine O_call (Key_c a.kind) (by rfl) (by rfl) (by rfl) (by rfl) (fun r hr => ?_)
          subst hr
          rw [k2]
          repeat (first | refine sc rfl ?_ | refine so rfl ?_ | refine sb rfl ?_)
          refine C_false rfl rfl ?_
          repeat (first | refine sc rfl ?_ | refine so rfl ?_ | refine sb rfl ?_)
          refine C_false rfl (by simp [k3]) ?_
          repeat (first | refine sc rfl ?_ | refine so rfl ?_ | refine sb rfl ?_)
          refine O_case 44 rfl (fun c => ?_) (fun c => ?_) <;> simp only [decide_eq_true_eq, decide_eq_false_iff_not, Bool.not_eq_true', Bool.not_eq_false', beq_iff_eq, beq_eq_false_iff_ne, bne_iff_ne, ne_eq, bne_eq_false_iff_eq, Decidable.not_not] at c
          · have k5 : decide (a.num < 0) = decide (b.num < 0) := Classical.byContradiction (fun h => k4 ⟨c, h⟩)
            repeat (first | refine sc rfl ?_ | refine so rfl ?_ | refine sb rfl ?_)
            refine C_false rfl (by simpa using k5) ?_
            repeat (first | refine sc rfl ?_ | refine so rfl ?_ | refine sb rfl ?_)
            refine O_call (order_c (decide (a.num < b.num)) (decide (b.num < a.num))) (by rfl) (by rfl) (by rfl) (by rfl) (fun r hr => ?_)
            subst hr
            repeat (first | refine sc rfl ?_ | refine so rfl ?_ | refine sb rfl ?_)
            exact ⟨_, rfl, rfl, rfl⟩
          · repeat (first | refine sc rfl ?_ | refine so rfl ?_ | refine sb rfl ?_)
            refine C_false rfl rfl ?_
            repeat (first | refine sc rfl ?_ | refine so rfl ?_ | refine sb rfl ?_)
            refine O_call (order_c (decide (a.num < b.num)) (decide (b.num < a.num))) (by rfl) (by rfl) (by rfl) (by rfl) (fun r hr => ?_)
            subst hr
            repeat (first | refine sc rfl ?_ | refine so rfl ?_ | refine sb rfl ?_)
            exact ⟨_, rfl, rfl, rfl⟩
    · refine ⟨ordF (decide (a.kind < b.kind)) (decide (b.kind < a.kind)), FnP.intro Tryz.tabOK Tryz.wide_ Tryz.func216 rfl (by decide) rfl (fun X => ?_)⟩
      repeat (first | refine sc rfl ?_ | refine so rfl ?_ | refine sb rfl ?_)
      refine O_case 10 rfl (fun c => ?_) (fun c => ?_) <;> simp only [decide_eq_true_eq, decide_eq_false_iff_not, Bool.not_eq_true', Bool.not_eq_false', beq_iff_eq, beq_eq_false_iff_ne, bne_iff_ne, ne_eq, bne_eq_false_iff_eq, Decidable.not_not] at c
      · exact absurd k1 c
      repeat (first | refine sc rfl ?_ | refine so rfl ?_ | refine sb rfl ?_)
      refine O_call (Key_c a.kind) (by rfl) (by rfl) (by rfl) (by rfl) (fun r hr => ?_)
      subst hr
      rw [show keyB a.kind = false by simpa using k2]
      repeat (first | refine sc rfl ?_ | refine so rfl ?_ | refine sb rfl ?_)
      refine C_true rfl rfl ?_
      repeat (first | refine sc rfl ?_ | refine so rfl ?_ | refine sb rfl ?_)
      refine O_call (order_c _ _) (by rfl) (by rfl) (by rfl) (by rfl) (fun r hr => ?_)
      subst hr
      repeat (first | refine sc rfl ?_ | refine so rfl ?_ | refine sb rfl ?_)
      exact ⟨_, rfl, rfl, rfl⟩
  · refine ⟨ordF (decide (a.kind < b.kind)) (decide (b.kind < a.kind)), FnP.intro Tryz.tabOK Tryz.wide_ Tryz.func216 rfl (by decide) rfl (fun X => ?_)⟩
    repeat (first | refine sc rfl ?_ | refine so rfl ?_ | refine sb rfl ?_)
    refine O_case 10 rfl (fun c => ?_) (fun c => ?_) <;> simp only [decide_eq_true_eq, decide_eq_false_iff_not, Bool.not_eq_true', Bool.not_eq_false', beq_iff_eq, beq_eq_false_iff_ne, bne_iff_ne, ne_eq, bne_eq_false_iff_eq, Decidable.not_not] at c
    · repeat (first | refine sc rfl ?_ | refine so rfl ?_ | refine sb rfl ?_)
      refine C_true rfl rfl ?_
      repeat (first | refine sc rfl ?_ | refine so rfl ?_ | refine sb rfl ?_)
      refine O_call (order_c _ _) (by rfl) (by rfl) (by rfl) (by rfl) (fun r hr => ?_)
      subst hr
      repeat (first | refine sc rfl ?_ | refine so rfl ?_ | refine sb rfl ?_)
      exact ⟨_, rfl, rfl, rfl⟩
    · exact absurd c k1

theorem plain_t (v : Val) : FnP Tryz.prog 146 [.agg (Val.c v)] (fun r => ∃ b, r = B b) := by
  refine FnP.intro Tryz.tabOK Tryz.wide_ Tryz.func146 rfl (by decide) rfl (fun X => ?_)
  repeat (first | refine sc rfl ?_ | refine so rfl ?_ | refine sb rfl ?_)
  refine O_case 7 rfl (fun c => ?_) (fun c => ?_)
  all_goals repeat (first | refine sc rfl ?_ | refine so rfl ?_ | refine sb rfl ?_)
  all_goals exact ⟨_, rfl, rfl, _, rfl⟩

theorem tags_t (l : List Int) (hl : l.length ≤ 1000) : FnP Tryz.prog 149 [SL 1 INTc l] (fun r => ∃ b, r = B b) := by
  refine FnP.intro Tryz.tabOK Tryz.wide_ Tryz.func149 rfl (by decide) rfl (fun X => ?_)
  repeat (first | refine sc rfl ?_ | refine so rfl ?_ | refine sb rfl ?_)
  refine C_loop (fun i : Nat => ⟨[(0, SL 1 INTc l), (3, I64 (i : Nat))], []⟩) (fun i => i ≤ l.length) (fun i => l.length - i) 0 (Nat.zero_le _) (Le.sub [] ⟨rfl, rfl, trivial⟩ rfl) ?_
  intro i hi
  repeat (first | refine sc rfl ?_ | refine so rfl ?_ | refine sb rfl ?_)
  refine C_if rfl (fun m1 => ?_) (fun m1 => ?_) <;> simp only [decide_eq_true_eq, decide_eq_false_iff_not, Bool.not_eq_true', Bool.not_eq_false', beq_iff_eq, beq_eq_false_iff_ne, bne_iff_ne, ne_eq, bne_eq_false_iff_eq, Decidable.not_not] at m1
  · have hil : i < l.length := by omega
    repeat (first | refine sc rfl ?_ | refine so rfl ?_ | refine sb rfl ?_)
    refine C_drawD rfl (by kernel_rfl) ?_
    repeat (first | refine sd rfl ?_ | refine sdb rfl ?_ | refine sds rfl ?_)
    refine ⟨by omega, ?_⟩
    rw [Int.toNat_natCast]
    repeat (first | refine sd rfl ?_ | refine sdb rfl ?_ | refine sds rfl ?_)
    refine D_case 5 rfl (fun g1 => ?_) (fun g1 => ?_)
    · repeat (first | refine sd rfl ?_ | refine sdb rfl ?_ | refine sds rfl ?_)
      repeat (first | refine sc rfl ?_ | refine so rfl ?_ | refine sb rfl ?_)
      refine C_if rfl (fun _ => ?_) (fun _ => ?_)
      · repeat (first | refine sc rfl ?_ | refine so rfl ?_ | refine sb rfl ?_)
        exact ⟨_, rfl, rfl, _, rfl⟩
      · repeat (first | refine sc rfl ?_ | refine so rfl ?_ | refine sb rfl ?_)
        rw [w64 (x := (i : Int) + 1) (by omega) (by omega)]
        exact ⟨i + 1, hil, by omega, Le.sub [] ⟨rfl, rfl, trivial⟩ rfl⟩
    repeat (first | refine sd rfl ?_ | refine sdb rfl ?_ | refine sds rfl ?_)
    refine ⟨by omega, ?_⟩
    rw [Int.toNat_natCast]
    repeat (first | refine sd rfl ?_ | refine sdb rfl ?_ | refine sds rfl ?_)
    refine D_case 12 rfl (fun g2 => ?_) (fun g2 => ?_)
    · repeat (first | refine sd rfl ?_ | refine sdb rfl ?_ | refine sds rfl ?_)
      repeat (first | refine sc rfl ?_ | refine so rfl ?_ | refine sb rfl ?_)
      refine C_if rfl (fun _ => ?_) (fun _ => ?_)
      · repeat (first | refine sc rfl ?_ | refine so rfl ?_ | refine sb rfl ?_)
        exact ⟨_, rfl, rfl, _, rfl⟩
      · repeat (first | refine sc rfl ?_ | refine so rfl ?_ | refine sb rfl ?_)
        rw [w64 (x := (i : Int) + 1) (by omega) (by omega)]
        exact ⟨i + 1, hil, by omega, Le.sub [] ⟨rfl, rfl, trivial⟩ rfl⟩
    repeat (first | refine sd rfl ?_ | refine sdb rfl ?_ | refine sds rfl ?_)
    refine D_case 15 rfl (fun g3 => ?_) (fun g3 => ?_) <;> simp only [decide_eq_true_eq, decide_eq_false_iff_not, Bool.not_eq_true', Bool.not_eq_false', beq_iff_eq, beq_eq_false_iff_ne, bne_iff_ne, ne_eq, bne_eq_false_iff_eq, Decidable.not_not] at g3
    · repeat (first | refine sd rfl ?_ | refine sdb rfl ?_ | refine sds rfl ?_)
      rw [w64 (x := (i : Int) - 1) (by omega) (by omega)]
      refine ⟨by omega, ?_⟩
      rw [show ((i : Int) - 1).toNat = i - 1 by omega]
      repeat (first | refine sd rfl ?_ | refine sdb rfl ?_ | refine sds rfl ?_)
      refine ⟨by omega, ?_⟩
      rw [Int.toNat_natCast]
      repeat (first | refine sd rfl ?_ | refine sdb rfl ?_ | refine sds rfl ?_)
      repeat (first | refine sc rfl ?_ | refine so rfl ?_ | refine sb rfl ?_)
      refine C_if rfl (fun _ => ?_) (fun _ => ?_)
      · repeat (first | refine sc rfl ?_ | refine so rfl ?_ | refine sb rfl ?_)
        exact ⟨_, rfl, rfl, _, rfl⟩
      · repeat (first | refine sc rfl ?_ | refine so rfl ?_ | refine sb rfl ?_)
        rw [w64 (x := (i : Int) + 1) (by omega) (by omega)]
        exact ⟨i + 1, hil, by omega, Le.sub [] ⟨rfl, rfl, trivial⟩ rfl⟩
    · repeat (first | refine sd rfl ?_ | refine sdb rfl ?_ | refine sds rfl ?_)
      repeat (first | refine sc rfl ?_ | refine so rfl ?_ | refine sb rfl ?_)
      refine C_if rfl (fun _ => ?_) (fun _ => ?_)
      · repeat (first | refine sc rfl ?_ | refine so rfl ?_ | refine sb rfl ?_)
        exact ⟨_, rfl, rfl, _, rfl⟩
      · repeat (first | refine sc rfl ?_ | refine so rfl ?_ | refine sb rfl ?_)
        rw [w64 (x := (i : Int) + 1) (by omega) (by omega)]
        exact ⟨i + 1, hil, by omega, Le.sub [] ⟨rfl, rfl, trivial⟩ rfl⟩
  · repeat (first | refine sc rfl ?_ | refine so rfl ?_ | refine sb rfl ?_)
    exact ⟨_, rfl, rfl, _, rfl⟩
end Go.Proofs
