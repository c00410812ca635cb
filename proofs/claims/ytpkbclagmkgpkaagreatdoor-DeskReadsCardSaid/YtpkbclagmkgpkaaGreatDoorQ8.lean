/- The server's parts: dice, tags (of a new server). -/
import Derived.Test.YtpkbclagmkgpkaaGreatDoorQ7
import Derived.Test.YtpkbclagmkgpkaaGreatDoorQ5
import Derived.Test.YtpkbclagmkgpkaaGreatDoorQ6
import Derived.Lib.AppendStr
import Derived.Lib.UnsafeStr
import Derived.Lib.Builder
set_option linter.unusedSimpArgs false
set_option linter.unusedVariables false
set_option maxRecDepth 100000
namespace Go.Proofs
open Go.Sy Go.Lib

abbrev z63 : List AV := [U64 0,U64 0,U64 0,U64 0,U64 0,U64 0,U64 0,U64 0,U64 0,U64 0,U64 0,U64 0,U64 0,U64 0,U64 0,U64 0,U64 0,U64 0,U64 0,U64 0,U64 0,U64 0,U64 0,U64 0,U64 0,U64 0,U64 0,U64 0,U64 0,U64 0,U64 0,U64 0,U64 0,U64 0,U64 0,U64 0,U64 0,U64 0,U64 0,U64 0,U64 0,U64 0,U64 0,U64 0,U64 0,U64 0,U64 0,U64 0,U64 0,U64 0,U64 0,U64 0,U64 0,U64 0,U64 0,U64 0,U64 0,U64 0,U64 0,U64 0,U64 0,U64 0,U64 0]
abbrev diceA (g : Nat) (x f k : Int) : Abs := boxA g 99 (U64 x :: (z63 ++ [I64 f, I64 k]))
theorem diceNew_A : FnA Tryz.prog 43 [] [] (fun r cs' => ∃ g, r = PT g 0 ∧ cs' = [diceA g 0 0 0]) := by
  refine FnA.intro Tryz.tabOK Tryz.wide_ Tryz.func43 rfl (by decide) rfl (fun X => ?_)
  iterate 9 (first | refine sc rfl ?_ | refine so rfl ?_)
  refine O_absb 0 rfl rfl rfl (fun g => ?_)
  repeat (first | refine sc rfl ?_ | refine so rfl ?_)
  exact ⟨_, [_], _, rfl, pickA_perm (is := [0]) (As := [_]) rfl, rfl, g, rfl, rfl⟩
theorem dicePut_A (g : Nat) (x : Int) : FnA Tryz.prog 44 [PT g 0, U64 x] [diceA g 0 0 0] (fun r cs' => r = B true ∧ cs' = [diceA g x 0 1]) := by
  refine FnA.intro Tryz.tabOK Tryz.wide_ Tryz.func44 rfl (by decide) rfl (fun X => ?_)
  repeat (first | refine sc rfl ?_ | refine so rfl ?_)
  refine O_Xd (X_ptrnil Tryz.underlying116 rfl rfl rfl) ?_
  repeat refine so rfl ?_
  refine O_loadP 0 (reads_box 65) rfl rfl rfl rfl rfl rfl ?_
  repeat refine so rfl ?_
  refine C_false rfl rfl ?_
  repeat refine sc rfl ?_
  refine C_drawU 20 14 rfl (by kernel_rfl) (by kernel_rfl) (by kernel_rfl) ?_
  repeat refine sd rfl ?_
  refine D_X (I64 0) (X_loadP 0 (reads_box 64) rfl rfl rfl rfl rfl rfl) ?_
  repeat refine sd rfl ?_
  refine D_X (I64 0) (X_loadP 0 (reads_box 65) rfl rfl rfl rfl rfl rfl) ?_
  repeat refine sd rfl ?_
  refine ⟨by decide, ?_⟩
  repeat refine sd rfl ?_
  repeat refine sc rfl ?_
  refine O_Xd (X_idxP (i := 0) (len := 64) rfl rfl (by decide) (by decide) rfl rfl rfl rfl) ?_
  repeat refine sc rfl ?_
  refine O_Xn (X_storeP 0 (writes_box (by show 0 < 66; decide)) rfl rfl rfl rfl rfl rfl rfl) ?_
  repeat (first | refine sc rfl ?_ | refine so rfl ?_)
  refine O_loadP 0 (reads_box 65) rfl rfl rfl rfl rfl rfl ?_
  repeat refine so rfl ?_
  refine O_Xn (X_storeP 0 (writes_box (by show 65 < 66; decide)) rfl rfl rfl rfl rfl rfl rfl) ?_
  repeat (first | refine sc rfl ?_ | refine so rfl ?_)
  exact ⟨_, [_], _, rfl, pickA_perm (is := [0]) (As := [_]) rfl, rfl, rfl, rfl⟩
theorem diceTake_A (g : Nat) (x : Int) : FnA Tryz.prog 82 [PT g 0] [diceA g x 0 1] (fun r cs' => r = .tup [U64 x, B true] ∧ cs' = [diceA g x 1 0]) := by
  refine FnA.intro Tryz.tabOK Tryz.wide_ Tryz.func82 rfl (by decide) rfl (fun X => ?_)
  repeat (first | refine sc rfl ?_ | refine so rfl ?_)
  refine O_Xd (X_ptrnil Tryz.underlying116 rfl rfl rfl) ?_
  repeat refine so rfl ?_
  refine O_loadP 0 (reads_box 65) rfl rfl rfl rfl rfl rfl ?_
  repeat refine so rfl ?_
  refine C_false rfl rfl ?_
  repeat refine sc rfl ?_
  refine C_drawU 20 9 rfl (by kernel_rfl) (by kernel_rfl) (by kernel_rfl) ?_
  repeat refine sd rfl ?_
  refine D_X (I64 0) (X_loadP 0 (reads_box 64) rfl rfl rfl rfl rfl rfl) ?_
  repeat refine sd rfl ?_
  refine D_X _ (X_idxP (i := 0) (len := 64) rfl rfl (by decide) (by decide) rfl rfl rfl rfl) ?_
  repeat refine sd rfl ?_
  refine D_X (U64 x) (X_loadP 0 (reads_box 0) rfl rfl rfl rfl rfl rfl) ?_
  repeat refine sd rfl ?_
  repeat (first | refine sc rfl ?_ | refine so rfl ?_)
  refine O_loadP 0 (reads_box 64) rfl rfl rfl rfl rfl rfl ?_
  repeat refine so rfl ?_
  refine ⟨by decide, ?_⟩
  repeat refine so rfl ?_
  refine O_Xn (X_storeP 0 (writes_box (by show 64 < 66; decide)) rfl rfl rfl rfl rfl rfl rfl) ?_
  repeat (first | refine sc rfl ?_ | refine so rfl ?_)
  refine O_loadP 0 (reads_box 65) rfl rfl rfl rfl rfl rfl ?_
  repeat refine so rfl ?_
  refine O_Xn (X_storeP 0 (writes_box (by show 65 < 66; decide)) rfl rfl rfl rfl rfl rfl rfl) ?_
  repeat (first | refine sc rfl ?_ | refine so rfl ?_)
  exact ⟨_, [_], _, rfl, pickA_perm (is := [0]) (As := [_]) rfl, rfl, rfl, rfl⟩
theorem mix_c (a b : Int) : FnP Tryz.prog 83 [U64 a, U64 b] (fun r => ∃ x, r = U64 x) := by
  refine FnP.intro Tryz.tabOK Tryz.wide_ Tryz.func83 rfl (by decide) rfl (fun X => ?_)
  repeat (first | refine sc rfl ?_ | refine so rfl ?_)
  refine ⟨by decide, ?_⟩
  repeat (first | refine sc rfl ?_ | refine so rfl ?_)
  refine ⟨by decide, ?_⟩
  repeat (first | refine sc rfl ?_ | refine so rfl ?_)
  exact ⟨_, rfl, rfl, _, rfl⟩
theorem owns0_c : FnP Tryz.prog 81 [I64 0] (· = B true) := by
  refine FnP.intro Tryz.tabOK Tryz.wide_ Tryz.func81 rfl (by decide) rfl (fun X => ?_)
  repeat (first | refine sc rfl ?_ | refine so rfl ?_)
  exact ⟨_, rfl, rfl, rfl⟩

abbrev mac0 (g : Nat) : Abs := boxA g 165 [I64 0,I64 0,I64 0,I64 0,I64 0,I64 0,I64 0,I64 0,I64 0,I64 0,U64 0,I64 0,U64 0,I64 0,U64 0,I64 0,U64 0,I64 0,U64 0,I64 0,U64 0,I64 0,U64 0,I64 0,U64 0,I64 0,U64 0]
abbrev mac1 (g : Nat) (c : Int) : Abs := boxA g 165 [I64 1,I64 0,I64 0,I64 0,I64 0,I64 0,I64 0,I64 0,I64 0,I64 1,U64 c,I64 0,U64 0,I64 0,U64 0,I64 0,U64 0,I64 0,U64 0,I64 0,U64 0,I64 0,U64 0,I64 0,U64 0,I64 0,U64 0]
theorem macNew_A : FnA Tryz.prog 40 [] [] (fun r cs' => ∃ g, r = PT g 0 ∧ cs' = [mac0 g]) := by
  refine FnA.intro Tryz.tabOK Tryz.wide_ Tryz.func40 rfl (by decide) rfl (fun X => ?_)
  iterate 9 (first | refine sc rfl ?_ | refine so rfl ?_)
  refine O_absb 0 rfl rfl rfl (fun g => ?_)
  repeat (first | refine sc rfl ?_ | refine so rfl ?_)
  exact ⟨_, [_], _, rfl, pickA_perm (is := [0]) (As := [_]) rfl, rfl, g, rfl, rfl⟩
theorem issue_A (g d : Nat) (x : Int) : FnA Tryz.prog 45 [PT g 0, I64 0, PT d 0] [mac0 g, diceA d x 0 1] (fun r cs' => ∃ c, r = .tup [I64 1, U64 c, I64 0] ∧ cs' = [mac1 g c, diceA d x 1 0]) := by
  refine FnA.intro Tryz.tabOK Tryz.wide_ Tryz.func45 rfl (by decide) rfl (fun X => ?_)
  repeat (first | refine sc rfl ?_ | refine so rfl ?_)
  refine O_Xd (X_ptrnil Tryz.underlying85 rfl rfl rfl) ?_
  repeat refine so rfl ?_
  refine C_false rfl rfl ?_
  repeat (first | refine sc rfl ?_ | refine so rfl ?_)
  refine O_call owns0_c (by rfl) (by rfl) (by rfl) (by rfl) (fun r' hr => ?_)
  subst hr
  repeat refine so rfl ?_
  refine C_false rfl rfl ?_
  repeat (first | refine sc rfl ?_ | refine so rfl ?_)
  refine O_callA [1] (diceTake_A d x) (by rfl) (by rfl) (by rfl) (by rfl) (by rfl) ?_
  rintro r' cs' ⟨rfl, rfl⟩
  repeat (first | refine sc rfl ?_ | refine so rfl ?_)
  refine C_false rfl rfl ?_
  repeat refine sc rfl ?_
  refine C_drawU 20 9 rfl (by kernel_rfl) (by kernel_rfl) (by kernel_rfl) ?_
  repeat refine sd rfl ?_
  refine D_X _ (X_idxP (i := 0) (len := 9) rfl rfl (by decide) (by decide) rfl rfl rfl rfl) ?_
  repeat refine sd rfl ?_
  refine D_X (I64 0) (X_loadP 1 (reads_box 0) rfl rfl rfl rfl rfl rfl) ?_
  repeat refine sd rfl ?_
  repeat refine sc rfl ?_
  refine O_Xd (X_idxP (i := 0) (len := 9) rfl rfl (by decide) (by decide) rfl rfl rfl rfl) ?_
  repeat refine sc rfl ?_
  refine O_Xn (X_storeP 1 (writes_box (by show 0 < 27; decide)) rfl rfl rfl rfl rfl rfl rfl) ?_
  repeat (first | refine sc rfl ?_ | refine so rfl ?_)
  refine O_Xd (X_idxP (i := 0) (len := 9) rfl rfl (by decide) (by decide) rfl rfl rfl rfl) ?_
  repeat refine sc rfl ?_
  refine O_loadP 0 (reads_box 0) rfl rfl rfl rfl rfl rfl ?_
  repeat (first | refine sc rfl ?_ | refine so rfl ?_)
  refine ⟨by decide, ?_⟩
  repeat refine so rfl ?_
  refine O_call (mix_c _ _) (by rfl) (by rfl) (by rfl) (by rfl) (fun r' hr => ?_)
  obtain ⟨c, rfl⟩ := hr
  repeat (first | refine sc rfl ?_ | refine so rfl ?_)
  refine O_Xd (X_idxP (i := 0) (len := 9) rfl rfl (by decide) (by decide) rfl rfl rfl rfl) ?_
  repeat refine sc rfl ?_
  refine O_Xn (X_storeB 0 (writesN_box (cells := [I64 1,I64 0,I64 0,I64 0,I64 0,I64 0,I64 0,I64 0,I64 0,I64 0,U64 0,I64 0,U64 0,I64 0,U64 0,I64 0,U64 0,I64 0,U64 0,I64 0,U64 0,I64 0,U64 0,I64 0,U64 0,I64 0,U64 0]) (new := [I64 1, U64 (max c 1)]) (o := 9) (by show 9 + 2 ≤ 27; decide)) rfl rfl rfl rfl rfl rfl rfl) ?_
  repeat (first | refine sc rfl ?_ | refine so rfl ?_)
  exact ⟨_, [_, _], _, rfl, pickA_perm (is := [0, 0]) (As := [_, _]) rfl, rfl, max c 1, rfl, rfl⟩
end Go.Proofs

namespace Go.Sy
open Go.RowKit
section
variable {P : Program} {T : Tab} {X : Ctx P T} {n : Nat} {e : Env} {st : St} {a : Act} {w : World} {ops : Array Oper} {K : St → Prop}

theorem Rel.newMu {s : List (Nat × AV)} {c : List Ch} (r : Rel X n e ⟨s, c⟩ a w) (d b : Nat) (hd : Nat.blt d n = true) (hf : freshS d s = true) (hc : freshC d c = true) : Rel X n { e with μ := upd e.μ d b } ⟨s, c⟩ a w := by
  have hd' : d < n := by have := hd; simp [Nat.blt] at this; omega
  have hnod : ∀ {x : AV}, x.no d = true → ∀ j, x.no j = false → j ≠ d := fun hx j hj he => by subst he; rw [hx] at hj; cases hj
  have hid : ∀ (q : Nat), q ≠ d → upd e.μ d b q = e.μ q := fun q hq => by simp [upd, hq]
  refine { r with slots := ?_, heap := ?_, fix := ?_ }
  · intro j x hx
    obtain ⟨v', h1, h2⟩ := r.slots j x hx
    exact ⟨v', h1, Rep.mono (e := e) (f := { e with μ := upd e.μ d b }) (IM.le_refl _) x (fun q hq => ⟨hid q (hnod (freshS_get hf j x hx) q hq), rfl⟩) h2⟩
  · refine HeapOK.grow r.heap (IM.le_refl _) (fun x hcm j hj => ⟨hid j ?_, rfl⟩) (fun b hb => rfl) (Nat.le_refl _) (fun b _ h => h)
    intro he; subst he; rw [freshC_mem hc x hcm] at hj; cases hj
  · intro k hk
    show upd e.μ d b k = _
    rw [hid k (by omega)]
    exact r.fix k hk

theorem X_callNew {p : Pl} {f : FuncId} {dst : Nat} {args : Array Operand} {tys : Array TypeId} {ty : TypeId} {pos : String} {aft : Array Edge} {gd : Option (Nat × Bool)} {j : Nat} {avs : List AV} {t : TypeId} {cells : List AV}
    {Si : List (Nat × AV)} {c : List Ch} (hf : FnA P f avs [] (fun r cs' => ∃ g, r = PT g 0 ∧ cs' = [boxA g t cells])) (hg : guardA ops ⟨Si, c⟩ ⟨some dst, .call ⟨.value (.func f), args, tys⟩, ty, pos, aft, gd⟩ = some true) (ha : opds Si args.toList = some avs) (himm : AV.imm.immL avs = true)
    (hd : Nat.blt dst n = true) (hcre : (j, dst) ∈ p.cre) (hc : freshC dst c = true) (hno : AV.no.noL dst cells = true) :
    StepX X n ops p Si c (.box dst t cells :: c) j ⟨some dst, .call ⟨.value (.func f), args, tys⟩, ty, pos, aft, gd⟩ (.bp dst 0) := by
  intro e a w S K Q r hS hcr hk
  have r' : Rel X n e ⟨Si, c⟩ a w := r.less hS (fun h => h)
  rw [if_pos (guardA_sound r' hg)]
  refine .inl ?_
  unfold Oper.wp
  rw [run_call hf.1 a.eval rfl w, Oper.upon_enter]
  have h1 := RepT.toI avs himm (opds_sound r' ha)
  rw [map_eval]
  have hp : c.Perm (([] : List Abs).map Ch.abs ++ c) := .refl _
  have hd2 := (r.heap.perm hp).absOK
  have hfree : ∀ k y, get S k = some y → y.no dst = true := fun k y h => hcr k y h (j, dst) hcre rfl
  refine (hf.2 e.G w _ ⟨r.im, r.mz⟩ h1 hd2.1).mono ?_
  rintro en w' ⟨rv, cv, cs', G', ⟨g, rfl, rfl⟩, rfl, g1, g2, g3, g4, g5, g6, o1, o2, o3, o4, o5⟩
  have r2 := r.swapAbs (st := ⟨S, c⟩) hp g2 g4 g3 g5 g6 ⟨o1, o2, o3⟩ o4 o5
  have r3 : Rel X n ⟨G', e.μ, e.hd⟩ ⟨S.filter fun q => q.2.no dst, .abs (boxA g t cells) :: c⟩ a w' := r2.less (fun k y h => get_unfilter hfree h) (fun h => h)
  have r4 := r3.newMu dst g hd (freshS_filter dst S) (by simpa [freshC, Ch.no] using hc)
  have hcv : cv = .pointer (some ⟨g, 0, none⟩) := by simpa only [RepI] using g1
  have r5 : Rel X n ⟨G', upd e.μ dst g, e.hd⟩ ⟨S.filter fun q => q.2.no dst, .box dst t cells :: c⟩ a w' := { r4 with
    slots := r4.slots
    heap := HeapOK.retell r4.heap (fun bs hb => by
      obtain ⟨h1, h2⟩ := hb
      obtain ⟨arr, h3, h4⟩ := h2
      exact ⟨by simpa [upd, boxA] using h1, arr, by simpa [upd] using h3, RepIL.toRep (e := ⟨G', upd e.μ dst g, e.hd⟩) cells h4⟩) }
  refine hk _ _ _ _ (r5.put hd (x := .bp dst 0) (v := cv) (by simp only [Rep, hcv]; simp [upd])) ⟨?_, ?_, ?_⟩
  · rintro d' h'
    cases h'
    rw [get_cons, if_pos rfl]
  · intro k y hne hy _
    rw [get_cons, if_neg (fun h => hne (by rw [h]))]
    exact get_filter hy (hfree k y hy)
  · intro k y hy
    rw [get_cons] at hy
    by_cases h : dst = k
    · rw [if_pos h] at hy; cases hy; exact .inl ⟨by rw [h], rfl⟩
    · rw [if_neg h] at hy; exact .inr (.inl (get_unfilter hfree hy))
end
end Go.Sy

namespace Go.Sy
open Go.RowKit

section
variable {P : Program} {T : Tab} {X : Ctx P T} {n : Nat} {e : Env} {st : St} {a : Act} {w : World} {ops : Array Oper} {K : St → Prop}

theorem StepX.perm {p : Pl} {Si : List (Nat × AV)} {c c2 c3 : List Ch} {i : Nat} {o : Oper} {x : AV} (h : StepX X n ops p Si c c2 i o x) (hp : c2.Perm c3) : StepX X n ops p Si c c3 i o x :=
  fun e a w S K Q r hS hcr hk => h e a w S K Q r hS hcr (fun e' a' w' S' r' hu => hk e' a' w' S' (r'.less (fun k y hh => hh) (fun hh => hh.perm hp)) hu)

theorem any_of_MT {p : Pl} {base : List (Nat × AV)} {C : (Nat → Bool) → List Ch} {D : Done} {Q : QX X} {m f : Nat} (ht : tailB ops f m = true) (hE : ∀ e ∈ p.E, e < m) (hC : ∀ L L' : Nat → Bool, (∀ e ∈ p.E, L e = L' e) → C L = C L') (hA : p.ancB ops = true) (hbse : p.baseB base = true) (hD : D.length = m)
    (hstep : ∀ i o, i < m → ops[i]? = some o → ∃ x, D[i]? = some (o.dst, x) ∧ p.creB i x = true ∧ ∀ L : Nat → Bool, (∀ a ∈ p.anc i, L a = true) → (∀ q, i ∈ p.anc q → L q = false) → L i = false → StepX X n ops p (availX p i (D.take i) o.after.toList base) (C L) (if i ∈ p.E then C (setM L i) else C L) i o x)
    (hedge : ∀ i o, ops[i]? = some o → ∀ e ∈ o.after, Region.binds .any e = true → e.on < i)
    (hdist : ∀ (i j : Nat) o o' d, i < m → j < m → ops[i]? = some o → ops[j]? = some o' → o.dst = some d → o'.dst = some d → i = j)
    (hbase : ∀ (i : Nat) o d, i < m → ops[i]? = some o → o.dst = some d → get base d = none)
    (hfin : ∀ e a w, Rel X n e ⟨finS base (killD p D), C (fun _ => true)⟩ a w → wpList P ops Q (ops.toList.drop m) a w) :
    ∀ (fuel : Nat) (listed : Array Bool) (a : Act) (w : World) (e : Env) (S : List (Nat × AV)), listed.size = ops.size → listed.toList.count false = fuel → ClosedL ops listed → Rel X n e ⟨S, C (fun e => listed.getD e false)⟩ a w → (∀ j, m ≤ j → listed.getD j false = false) →
      (∀ k y, get base k = some y → get S k = some y) →
      (∀ (i : Nat) d x, listed.getD i false = true → D[i]? = some (some d, x) → (∀ q ∈ p.ki, listed.getD q.1 false = true → x.noO q.2 = true) → get S d = some x) →
      (∀ k y, get S k = some y → ∀ q ∈ p.cre, listed.getD q.1 false = false → y.no q.2 = true) →
      wpAny P .any ops Q fuel listed a w := by
  have ht' := ht
  unfold tailB at ht'
  simp only [Bool.and_eq_true, List.all_eq_true, List.mem_range, Array.length_toList] at ht'
  obtain ⟨⟨hm, hcov⟩, hch⟩ := ht'
  have hm' : m < ops.size := by have h := hm; simp [Nat.blt] at h; omega
  have cnt : ∀ (l : List Bool) (k : Nat), k ≤ l.length → (∀ j, j < l.length → (l[j]? = some true ↔ j < k)) → l.count false + k = l.length := by
    intro l
    induction l with
    | nil => intro k hk _; simp at hk; simp [hk]
    | cons b l ih =>
      intro k hk h
      cases k with
      | zero =>
        have hb : b = false := by
          have := h 0 (by simp)
          cases b
          · rfl
          · simp at this
        subst hb
        have := ih 0 (Nat.zero_le _) (fun j hj => by have := h (j + 1) (by simpa using hj); simpa using this)
        simp at this ⊢; omega
      | succ k =>
        have hb : b = true := by
          have := h 0 (by simp)
          simpa using this
        subst hb
        have := ih k (by simpa using hk) (fun j hj => by have := h (j + 1) (by simpa using hj); simpa using this)
        simp at this ⊢; omega
  have bspec : ∀ {l : List (Nat × AV)}, p.baseB l = true → ∀ k y, get l k = some y → (∀ q ∈ p.cre, y.no q.2 = true) ∧ ∀ q ∈ p.ki, y.noO q.2 = true := by
    intro l
    induction l with
    | nil => intro _ k y h; simp [get] at h
    | cons z l ih =>
      obtain ⟨j, v⟩ := z
      intro h k y hy
      simp only [Pl.baseB, Bool.and_eq_true, List.all_eq_true] at h
      rw [get_cons] at hy
      by_cases hj : j = k
      · rw [if_pos hj] at hy; cases hy; exact ⟨h.1.1, h.1.2⟩
      · rw [if_neg hj] at hy; exact ih h.2 k y hy
  have ancL : ∀ {listed : Array Bool}, ClosedL ops listed → ∀ i, i < ops.size → (∀ j ∈ predsB ops i, listed.getD j false = true) → ∀ a ∈ p.anc i, listed.getD a false = true := by
    intro listed hc i
    induction i using Nat.strongRecOn with
    | ind i ih =>
      intro hi hp a ha
      have h1 := List.all_eq_true.1 (List.all_eq_true.1 hA i (by simpa using hi)) a ha
      simp only [Bool.or_eq_true, List.contains_iff_mem, List.any_eq_true] at h1
      rcases h1 with h1 | ⟨q, hq, h1⟩
      · exact hp a h1
      · obtain ⟨o, ho, ed, he, hb, rfl⟩ := mem_preds hq
        have hlt := hedge i o ho ed he hb
        refine ih ed.on hlt (by omega) (fun j hj => ?_) a h1
        obtain ⟨o', ho', ed', he', hb', rfl⟩ := mem_preds hj
        exact hc ed.on o' (hp _ hq) ho' ed' he' hb'
  have ancLd : ∀ {listed : Array Bool}, listed.size = ops.size → ClosedL ops listed → ∀ i, listed.getD i false = true → ∀ a ∈ p.anc i, listed.getD a false = true := by
    intro listed hsz hc i hi
    have hlt : i < ops.size := by
      rcases Nat.lt_or_ge i ops.size with h | h
      · exact h
      · rw [← hsz] at h; simp [Nat.not_lt.2 h] at hi
    refine ancL hc i hlt (fun j hj => ?_)
    obtain ⟨o, ho, ed, he, hb, rfl⟩ := mem_preds hj
    exact hc i o hi ho ed he hb
  intro fuel
  induction fuel with
  | zero =>
    intro listed a w e S hsz hc hcl r hge hb hs hcr
    exfalso
    have h1 := hge m (Nat.le_refl _)
    have hls : m < listed.size := by omega
    have : false ∈ listed.toList := by
      simp [hls] at h1
      exact List.mem_iff_getElem.2 ⟨m, by simpa using hls, by simpa using h1⟩
    have := List.count_pos_iff.2 this
    omega
  | succ fuel ih =>
    intro listed a w e S hsz hc hcl r hge hb hs hcr
    by_cases hall : ∀ j, j < m → listed.getD j false = true
    · -- all that is drawn is done
      have hlt : ∀ j, j < ops.size → (listed.getD j false = true ↔ j < m) := fun j hj => by
        constructor
        · intro h
          rcases Nat.lt_or_ge j m with h1 | h1
          · exact h1
          · rw [hge j h1] at h; cases h
        · exact hall j
      have hcount : listed.toList.count false + m = ops.size := by
        have := cnt listed.toList m (by simp; omega) (fun j hj => by
          have hjl : j < listed.size := by simpa using hj
          have := hlt j (by omega)
          simp [hjl] at this ⊢
          exact this)
        simpa [hsz] using this
      refine any_tail ht hedge (fuel + 1) m listed a w (by omega) (Nat.le_refl _) hsz hlt ?_
      rw [hC (fun e => listed.getD e false) (fun _ => true) (fun e he => hall e (hE e he))] at r
      refine hfin e a w (r.less (fun k y hk => ?_) (fun h => h))
      rcases finS_get hk with ⟨i, hi⟩ | h
      · obtain ⟨hi, he⟩ := killD_get hi
        have hil : i < D.length := by
          rcases Nat.lt_or_ge i D.length with h | h
          · exact h
          · rw [List.getElem?_eq_none h] at hi; cases hi
        exact hs i k y (hall i (by omega)) hi (fun q hq _ => List.all_eq_true.1 he q hq)
      · exact hb k y h
    -- what may come up now is drawn
    have hlow : ∀ i ∈ Region.ready .any ops listed, i < m := by
      intro i hi
      rw [mem_ready] at hi
      obtain ⟨h0, o, ho, hpre⟩ := hi
      rcases Nat.lt_or_ge i m with h | h
      · exact h
      · exfalso
        have hlt : i < ops.size := (Array.getElem?_eq_some_iff.1 ho).1
        rcases Nat.eq_or_lt_of_le h with h | h
        · subst h
          refine hall (fun j hj => ?_)
          have hc := hcov j hj
          rw [List.contains_iff_mem] at hc
          refine ancs_listed hcl f m (fun q hq => ?_) j hc
          obtain ⟨o', ho', ed, he, hbb, rfl⟩ := mem_preds hq
          rw [ho] at ho'; cases ho'
          exact hpre ed he hbb
        · have hc := hch (i - m - 1) (by omega)
          rw [show m + 1 + (i - m - 1) = i by omega, show m + (i - m - 1) = i - 1 by omega, List.contains_iff_mem] at hc
          obtain ⟨o', ho', ed, he, hbb, hon⟩ := mem_preds hc
          rw [ho] at ho'; cases ho'
          have := hpre ed he hbb
          rw [hon, hge (i - 1) (by omega)] at this
          cases this
    refine ⟨fun hr => ?_, fun i hi => ?_⟩
    · exfalso
      refine hall (fun j => ?_)
      induction j using Nat.strongRecOn with
      | ind j ihj =>
        intro hj
        cases hl : listed.getD j true with
        | true =>
          have : j < listed.size := by omega
          simp [this] at hl ⊢
          exact hl
        | false =>
          exfalso
          have hmem : j ∈ Region.ready .any ops listed := by
            rw [mem_ready]
            refine ⟨hl, ops[j], by simp [show j < ops.size by omega], fun e he hbb => ?_⟩
            have h1 := hedge j ops[j] (by simp [show j < ops.size by omega]) e he hbb
            exact ihj e.on h1 (by omega)
          rw [hr] at hmem; cases hmem
    · have him := hlow i hi
      rw [mem_ready] at hi
      obtain ⟨h0, o, ho, hpre⟩ := hi
      have hlt : i < ops.size := (Array.getElem?_eq_some_iff.1 ho).1
      have hif : listed.getD i false = false := by
        have : i < listed.size := by omega
        simp [this] at h0 ⊢
        exact h0
      have hlf : listed.toList[i]? = some false := by
        have : i < listed.size := by omega
        simp [this] at h0 ⊢
        exact h0
      have hpl : ∀ j ∈ predsB ops i, listed.getD j false = true := by
        intro j hj
        obtain ⟨o', ho', ed, he, hb', rfl⟩ := mem_preds hj
        rw [ho] at ho'
        cases ho'
        exact hpre ed he hb'
      have hanc := ancL hcl i hlt hpl
      obtain ⟨x, hx, hcre, hst⟩ := hstep i o him ho
      unfold wpOp
      simp only [ho]
      have hhi : ∀ q, i ∈ p.anc q → listed.getD q false = false := fun q hq => by
        cases hb : listed.getD q false with
        | false => rfl
        | true => rw [ancLd hsz hcl q hb i hq] at hif; cases hif
      have hav : ∀ k y, get (availX p i (D.take i) o.after.toList base) k = some y → get S k = some y := by
        intro k y hk
        rcases availX_get hk with ⟨ed, h1, h2, h3, h5⟩ | h
        · have h4 : D[ed.on]? = some (some k, y) := by
            rw [List.getElem?_take] at h3
            split at h3
            · exact h3
            · cases h3
          refine hs ed.on k y (hpre ed (by simpa using h1) h2) h4 (fun q hq hql => ?_)
          have h6 := List.all_eq_true.1 h5 q hq
          simp only [Bool.or_eq_true, List.contains_iff_mem] at h6
          rcases h6 with (h6 | h6) | h6
          · exact h6
          · have := Nat.eq_of_beq_eq_true h6
            rw [← this, hif] at hql; cases hql
          · rw [ancLd hsz hcl q.1 hql i h6] at hif; cases hif
        · exact hb k y h
      have hset : ∀ j, j ≠ i → (listed.setIfInBounds i true).getD j false = listed.getD j false := fun j hj => getD_set_ne false (Ne.symm hj)
      have hseti : (listed.setIfInBounds i true).getD i false = true := by
        have : i < listed.size := by omega
        simp [this]
      have hphn : (if i ∈ p.E then C (setM (fun e => listed.getD e false) i) else C (fun e => listed.getD e false)) = C (fun e => (listed.setIfInBounds i true).getD e false) := by
        have h1 : C (setM (fun e => listed.getD e false) i) = C (fun e => (listed.setIfInBounds i true).getD e false) := by
          congr 1; funext k; unfold setM
          by_cases hk : k = i
          · rw [if_pos hk, hk, hseti]
          · rw [if_neg hk, hset k hk]
        by_cases hi : i ∈ p.E
        · rw [if_pos hi, h1]
        · rw [if_neg hi]
          exact hC _ _ (fun e he => (hset e (fun h => hi (h ▸ he))).symm)
      refine hst (fun e => listed.getD e false) hanc hhi hif e a w S _ Q r hav (fun k y hy q hq hqi => hcr k y hy q hq (by rw [hqi]; exact hif)) (fun e' a' w' S' r' hu => ?_)
      refine ih (listed.setIfInBounds i true) a' w' e' S' (by simpa using hsz) ?_ ?_ (by rw [← hphn]; exact r') (fun j hj => by rw [hset j (by omega)]; exact hge j hj) (fun k y hk => ?_) (fun j d y hj hy hq => ?_) (fun k y hy q hq hql => ?_)
      · rw [Array.toList_setIfInBounds]
        have hlt' : i < listed.toList.length := by simpa using (by omega : i < listed.size)
        have hg : listed.toList[i] = false := by
          have := List.getElem?_eq_getElem hlt'
          rw [hlf] at this
          simpa using this.symm
        rw [List.count_set hlt', hg, hc]
        simp
      · intro j o' hj ho' ed he hb'
        by_cases hji : j = i
        · subst hji
          rw [ho] at ho'; cases ho'
          have := hpre ed he hb'
          by_cases h : ed.on = j
          · rw [h]; exact hseti
          · rw [hset _ h]; exact this
        · rw [hset j hji] at hj
          have := hcl j o' hj ho' ed he hb'
          by_cases h : ed.on = i
          · rw [h]; exact hseti
          · rw [hset _ h]; exact this
      · refine hu.2.1 k y (fun h => ?_) (hb k y hk) (fun q hq _ => (bspec hbse k y hk).2 q hq)
        rw [hbase i o k him ho h] at hk; cases hk
      · by_cases hji : j = i
        · subst hji
          rw [hx] at hy
          simp only [Option.some.injEq, Prod.mk.injEq] at hy
          rw [← hy.2]
          exact hu.1 d hy.1
        · rw [hset j hji] at hj
          have hold := hs j d y hj hy (fun q hqk hql => hq q hqk (by
            by_cases h : q.1 = i
            · rw [h]; exact hseti
            · rw [hset _ h]; exact hql))
          refine hu.2.1 d y (fun h => ?_) hold (fun q hqk hqi => hq q hqk (by rw [hqi]; exact hseti))
          have hjl : j < m := by
            rw [← hD]
            rcases Nat.lt_or_ge j D.length with h | h
            · exact h
            · rw [List.getElem?_eq_none h] at hy; cases hy
          obtain ⟨x', hx', _⟩ := hstep j ops[j] hjl (by simp [show j < ops.size by omega])
          rw [hx'] at hy
          simp only [Option.some.injEq, Prod.mk.injEq] at hy
          exact hji (hdist j i ops[j] o d hjl him (by simp [show j < ops.size by omega]) ho hy.1 h)
      · have hqi : q.1 ≠ i := fun h => by rw [h, hseti] at hql; cases hql
        rw [hset _ hqi] at hql
        rcases hu.2.2 k y hy with ⟨_, rfl⟩ | h | rfl
        · have h6 := List.all_eq_true.1 hcre q hq
          simp only [Bool.or_eq_true, List.contains_iff_mem] at h6
          rcases h6 with (h6 | h6) | h6
          · exact absurd (Nat.eq_of_beq_eq_true h6) hqi
          · rw [hanc q.1 h6] at hql; cases hql
          · exact h6
        · exact hcr k y h q hq hql
        · rfl

def Pl.fineT (p : Pl) (ops : Array Oper) (base : List (Nat × AV)) (m : Nat) : Bool :=
  p.ancB ops && p.baseB base && (p.E.all fun e => Nat.blt e m)

theorem C_drawMT (p : Pl) (f m : Nat) {id : Nat} {Q : Exit → St → Prop} {s base : List (Nat × AV)} {c : List Ch} (C : (Nat → Bool) → List Ch) (hb : eraseD (ops.toList.take m) s = some base) (hchk : chkD base 0 [] (ops.toList.take m) = true) (hed : edgesB ops = true)
    (ht : tailB ops f m = true) (hfine : p.fineT ops base m = true) (hC : ∀ L L' : Nat → Bool, (∀ e ∈ p.E, L e = L' e) → C L = C L') (h0 : C (fun _ => false) = c)
    (h : SymM X n ops p base C (fun s => SymO X n ops (ops.toList.drop m) s (fun s => Q .normal s)) (ops.toList.take m) []) : SymC X n (.region id ops true) ⟨s, c⟩ Q := by
  intro e a w r
  have hbs : ∀ k y, get base k = some y → get s k = some y := fun k y hk => eraseD_get hb hk
  simp only [Pl.fineT, Bool.and_eq_true] at hfine
  obtain ⟨⟨g1, g2⟩, g3⟩ := hfine
  obtain ⟨D, _, hl, hK, hs⟩ := h.plan
  obtain ⟨c1, c2⟩ := chkD_spec hchk
  have hbel : Below w.heap.size w { w with drawn := w.drawn + 1 } := ⟨rfl, rfl, rfl, Nat.le_refl _, fun _ _ => rfl⟩
  have hm : m < ops.size := by
    unfold tailB at ht
    simp only [Bool.and_eq_true] at ht
    have h1 := ht.1.1
    simp [Nat.blt] at h1; omega
  have hEs : ∀ e ∈ p.E, e < m := fun e he => by
    have := List.all_eq_true.1 g3 e he
    simp [Nat.blt] at this; omega
  have htk : ∀ (i : Nat) (o : Oper), i < m → ops[i]? = some o → (ops.toList.take m)[i]? = some o := fun i o him ho => by rw [List.getElem?_take, if_pos him]; simpa using ho
  have hrep : ∀ i, (Array.replicate ops.size false).getD i false = false := fun i => by
    rcases Nat.lt_or_ge i ops.size with h | h
    · simp [h]
    · simp [Nat.not_lt.2 h]
  refine wp_region_any X.wide ?_
  refine any_of_MT (X := X) (Q := concX X n Q) (n := n) (p := p) (base := base) (C := C) (D := D) (f := f) (m := m) ht hEs hC g1 g2 (by simp at hl; omega) (fun i o him ho => ?_) (fun i o ho => ?_) (fun i j o o' d him hjm hi hj => c2 i j o o' d (htk i o him hi) (htk j o' hjm hj)) (fun i o d him ho hd => ((c1 i o (htk i o him ho)).2 d hd).1)
    (fun e a w r => hK e a w (concX X n Q) r fun e' st' _ _ hk hr => ⟨e', st', hr, hk⟩) _ _ a _ e base (by simp) (by simp) (fun j o hj => by rw [hrep] at hj; cases hj) ?_ (fun j hj => hrep j) (fun k y hk => hk) (fun i d x hi => by rw [hrep] at hi; cases hi) ?_
  · have := hs i o (htk i o him ho)
    simpa using this
  · intro ed he hb'
    have hi : i < ops.toList.length := by
      have := (Array.getElem?_eq_some_iff.1 ho).1
      simpa using this
    have h1 := List.all_eq_true.1 hed i (List.mem_range.2 hi)
    have h2 := List.all_eq_true.1 h1 ed.on (by
      unfold predsB
      rw [show ops.toList[i]? = some o by simpa using ho]
      exact List.mem_map.2 ⟨ed, List.mem_filter.2 ⟨by simpa using he, hb'⟩, rfl⟩)
    simp [Nat.blt] at h2; omega
  · have h1 : C (fun e => (Array.replicate ops.size false).getD e false) = C (fun _ => false) := hC _ _ (fun e _ => hrep e)
    rw [h1, h0]
    exact (r.below hbel).less hbs (fun h => h)
  · intro k y hy q hq _
    have : ∀ {l : List (Nat × AV)}, p.baseB l = true → get l k = some y → y.no q.2 = true := by
      intro l
      induction l with
      | nil => intro _ h; simp [get] at h
      | cons z l ih =>
        obtain ⟨j, v⟩ := z
        intro h hy
        simp only [Pl.baseB, Bool.and_eq_true, List.all_eq_true] at h
        rw [get_cons] at hy
        by_cases hj : j = k
        · rw [if_pos hj] at hy; cases hy; exact h.1.1 q hq
        · rw [if_neg hj] at hy; exact ih h.2 hy
    exact this g2 hy
end
end Go.Sy

namespace Go.Proofs
open Go.Sy Go.Lib

theorem admin_c : FnP Tryz.prog 42 [] (· = .agg [I64 1040, I64 1048576, I64 1048576, I64 0, I64 0, I64 32, I64 2, I64 0, I64 0]) := by
  refine FnP.intro Tryz.tabOK Tryz.wide_ Tryz.func42 rfl (by decide) rfl (fun X => ?_)
  repeat (first | refine sc rfl ?_ | refine so rfl ?_)
  exact ⟨_, rfl, rfl, rfl⟩
def CG (b a1 a2 a3 : List AV) (x4 x9 x14 x19 : Bool) : List Ch :=
  (bif x19 then [.box 22 171 a3] else []) ++ ((bif x14 then [.box 17 171 a2] else []) ++ ((bif x9 then [.box 12 171 a1] else []) ++ (bif x4 then [.box 7 167 b] else [])))
def PG1 : Pl := ⟨[[], [], [], [], [], [4], [4], [], [], [4], [9], [9], [], [], [4, 9], [14], [14], [], [], [4, 9, 14], [19], [19], [], [], []], [4, 9, 14, 19], [(4, 7), (9, 12), (14, 17), (19, 22)], []⟩
theorem gatNew_A (u r b m s o cn st de : Int) : FnA Tryz.prog 41 [.agg [I64 u, I64 r, I64 b, I64 m, I64 s, I64 o, I64 cn, I64 st, I64 de]] [] (fun x cs' => ∃ g, x = PT g 0 ∧ cs' = [gatA g (wi r) (wi b) (wi b) (wi m) 0 (wi s) 0 (wi o) 0 false]) := by
  refine FnA.intro Tryz.tabOK Tryz.wide_ Tryz.func41 rfl (by decide) rfl (fun X => ?_)
  repeat (first | refine sc rfl ?_ | refine so rfl ?_)
  refine C_le _ (Le.freezebox 1 rfl rfl rfl) ?_
  refine C_drawMT PG1 20 22 (fun L => CG [I64 (wi r), I64 (wi b), I64 (wi b)] [I64 (wi m), I64 0] [I64 (wi s), I64 0] [I64 (wi o), I64 0] (L 4) (L 9) (L 14) (L 19)) rfl (by kernel_rfl) (by kernel_rfl) (by kernel_rfl) (by kernel_rfl) (fun L L' h => by simp only [h 4 (by decide), h 9 (by decide), h 14 (by decide), h 19 (by decide)]) rfl ?_
  repeat (refine sm rfl ⟨trivial, ?_⟩)
  refine SM (.bp 7 0) rfl (fun L h1 h2 h3 => ?_) ?_
  · show StepX _ _ _ _ _ (CG [I64 (wi r), I64 (wi b), I64 (wi b)] [I64 (wi m), I64 0] [I64 (wi s), I64 0] [I64 (wi o), I64 0] (L 4) (L 9) (L 14) (L 19)) (CG [I64 (wi r), I64 (wi b), I64 (wi b)] [I64 (wi m), I64 0] [I64 (wi s), I64 0] [I64 (wi o), I64 0] true (L 9) (L 14) (L 19)) _ _ _
    rw [show L 4 = false from h3, h2 9 (show (4 : Nat) ∈ PG1.anc 9 by decide), h2 14 (show (4 : Nat) ∈ PG1.anc 14 by decide), h2 19 (show (4 : Nat) ∈ PG1.anc 19 by decide)]
    exact X_callNew (bktNew_A r b) rfl rfl rfl rfl (show ((4, 7) : Nat × Nat) ∈ PG1.cre by decide) rfl rfl
  repeat (refine sm rfl ⟨trivial, ?_⟩)
  refine SM (.agg [I64 (wi r), I64 (wi b), I64 (wi b)]) rfl (fun L h1 h2 h3 => ?_) ?_
  · show StepX _ _ _ _ _ (CG [I64 (wi r), I64 (wi b), I64 (wi b)] [I64 (wi m), I64 0] [I64 (wi s), I64 0] [I64 (wi o), I64 0] (L 4) (L 9) (L 14) (L 19)) (CG [I64 (wi r), I64 (wi b), I64 (wi b)] [I64 (wi m), I64 0] [I64 (wi s), I64 0] [I64 (wi o), I64 0] (L 4) (L 9) (L 14) (L 19)) _ _ _
    rw [h1 4 (show (4 : Nat) ∈ PG1.anc 6 by decide)]
    cases L 9 <;> cases L 14 <;> cases L 19 <;> exact X_still rfl rfl rfl
  repeat (refine sm rfl ⟨trivial, ?_⟩)
  refine SM (.bp 12 0) rfl (fun L h1 h2 h3 => ?_) ?_
  · show StepX _ _ _ _ _ (CG [I64 (wi r), I64 (wi b), I64 (wi b)] [I64 (wi m), I64 0] [I64 (wi s), I64 0] [I64 (wi o), I64 0] (L 4) (L 9) (L 14) (L 19)) (CG [I64 (wi r), I64 (wi b), I64 (wi b)] [I64 (wi m), I64 0] [I64 (wi s), I64 0] [I64 (wi o), I64 0] (L 4) true (L 14) (L 19)) _ _ _
    rw [show L 9 = false from h3, h1 4 (show (4 : Nat) ∈ PG1.anc 9 by decide), h2 14 (show (9 : Nat) ∈ PG1.anc 14 by decide), h2 19 (show (9 : Nat) ∈ PG1.anc 19 by decide)]
    exact X_callNew (accNew_A m) rfl rfl rfl rfl (show ((9, 12) : Nat × Nat) ∈ PG1.cre by decide) rfl rfl
  repeat (refine sm rfl ⟨trivial, ?_⟩)
  refine SM (.agg [I64 (wi m), I64 0]) rfl (fun L h1 h2 h3 => ?_) ?_
  · show StepX _ _ _ _ _ (CG [I64 (wi r), I64 (wi b), I64 (wi b)] [I64 (wi m), I64 0] [I64 (wi s), I64 0] [I64 (wi o), I64 0] (L 4) (L 9) (L 14) (L 19)) (CG [I64 (wi r), I64 (wi b), I64 (wi b)] [I64 (wi m), I64 0] [I64 (wi s), I64 0] [I64 (wi o), I64 0] (L 4) (L 9) (L 14) (L 19)) _ _ _
    rw [h1 9 (show (9 : Nat) ∈ PG1.anc 11 by decide)]
    cases L 4 <;> cases L 14 <;> cases L 19 <;> exact X_still rfl rfl rfl
  repeat (refine sm rfl ⟨trivial, ?_⟩)
  refine SM (.bp 17 0) rfl (fun L h1 h2 h3 => ?_) ?_
  · show StepX _ _ _ _ _ (CG [I64 (wi r), I64 (wi b), I64 (wi b)] [I64 (wi m), I64 0] [I64 (wi s), I64 0] [I64 (wi o), I64 0] (L 4) (L 9) (L 14) (L 19)) (CG [I64 (wi r), I64 (wi b), I64 (wi b)] [I64 (wi m), I64 0] [I64 (wi s), I64 0] [I64 (wi o), I64 0] (L 4) (L 9) true (L 19)) _ _ _
    rw [show L 14 = false from h3, h1 4 (show (4 : Nat) ∈ PG1.anc 14 by decide), h1 9 (show (9 : Nat) ∈ PG1.anc 14 by decide), h2 19 (show (14 : Nat) ∈ PG1.anc 19 by decide)]
    exact X_callNew (accNew_A s) rfl rfl rfl rfl (show ((14, 17) : Nat × Nat) ∈ PG1.cre by decide) rfl rfl
  repeat (refine sm rfl ⟨trivial, ?_⟩)
  refine SM (.agg [I64 (wi s), I64 0]) rfl (fun L h1 h2 h3 => ?_) ?_
  · show StepX _ _ _ _ _ (CG [I64 (wi r), I64 (wi b), I64 (wi b)] [I64 (wi m), I64 0] [I64 (wi s), I64 0] [I64 (wi o), I64 0] (L 4) (L 9) (L 14) (L 19)) (CG [I64 (wi r), I64 (wi b), I64 (wi b)] [I64 (wi m), I64 0] [I64 (wi s), I64 0] [I64 (wi o), I64 0] (L 4) (L 9) (L 14) (L 19)) _ _ _
    rw [h1 14 (show (14 : Nat) ∈ PG1.anc 16 by decide)]
    cases L 4 <;> cases L 9 <;> cases L 19 <;> exact X_still rfl rfl rfl
  repeat (refine sm rfl ⟨trivial, ?_⟩)
  refine SM (.bp 22 0) rfl (fun L h1 h2 h3 => ?_) ?_
  · show StepX _ _ _ _ _ (CG [I64 (wi r), I64 (wi b), I64 (wi b)] [I64 (wi m), I64 0] [I64 (wi s), I64 0] [I64 (wi o), I64 0] (L 4) (L 9) (L 14) (L 19)) (CG [I64 (wi r), I64 (wi b), I64 (wi b)] [I64 (wi m), I64 0] [I64 (wi s), I64 0] [I64 (wi o), I64 0] (L 4) (L 9) (L 14) true) _ _ _
    rw [show L 19 = false from h3, h1 4 (show (4 : Nat) ∈ PG1.anc 19 by decide), h1 9 (show (9 : Nat) ∈ PG1.anc 19 by decide), h1 14 (show (14 : Nat) ∈ PG1.anc 19 by decide)]
    exact X_callNew (accNew_A o) rfl rfl rfl rfl (show ((19, 22) : Nat × Nat) ∈ PG1.cre by decide) rfl rfl
  repeat (refine sm rfl ⟨trivial, ?_⟩)
  refine SM (.agg [I64 (wi o), I64 0]) rfl (fun L h1 h2 h3 => ?_) ?_
  · show StepX _ _ _ _ _ (CG [I64 (wi r), I64 (wi b), I64 (wi b)] [I64 (wi m), I64 0] [I64 (wi s), I64 0] [I64 (wi o), I64 0] (L 4) (L 9) (L 14) (L 19)) (CG [I64 (wi r), I64 (wi b), I64 (wi b)] [I64 (wi m), I64 0] [I64 (wi s), I64 0] [I64 (wi o), I64 0] (L 4) (L 9) (L 14) (L 19)) _ _ _
    rw [h1 19 (show (19 : Nat) ∈ PG1.anc 21 by decide)]
    cases L 4 <;> cases L 9 <;> cases L 14 <;> exact X_still rfl rfl rfl
  repeat (refine sm rfl ⟨trivial, ?_⟩)
  refine sm rfl ?_
  show SymO _ _ _ _ ⟨_, [.box 22 171 [I64 (wi o), I64 0], .box 17 171 [I64 (wi s), I64 0], .box 12 171 [I64 (wi m), I64 0], .box 7 167 [I64 (wi r), I64 (wi b), I64 (wi b)]]⟩ _
  iterate 3 refine so rfl ?_
  refine O_absb 2 rfl rfl rfl (fun g => ?_)
  repeat (first | refine sc rfl ?_ | refine so rfl ?_)
  first
    | exact ⟨_, [_], _, rfl, pickA_perm (is := [0]) (As := [_]) rfl, rfl, g, rfl, rfl⟩
    | exact ⟨_, [_], _, rfl, pickA_perm (is := [1]) (As := [_]) rfl, rfl, g, rfl, rfl⟩
    | exact ⟨_, [_], _, rfl, pickA_perm (is := [2]) (As := [_]) rfl, rfl, g, rfl, rfl⟩
    | exact ⟨_, [_], _, rfl, pickA_perm (is := [3]) (As := [_]) rfl, rfl, g, rfl, rfl⟩
    | exact ⟨_, [_], _, rfl, pickA_perm (is := [4]) (As := [_]) rfl, rfl, g, rfl, rfl⟩
end Go.Proofs

namespace Go.Proofs
open Go.Sy Go.Lib

abbrev ikz : Int → Value := fun i => .int .i64 i
noncomputable abbrev iKz : Key Tryz.prog 3 Int := intKey Tryz.underlying3
theorem sameBits_ikz (k : Int) : Instr.sameBits 10000 (iKz.kv k) (iKz.kv k) = true := by
  show Instr.sameBits 10000 (.int .i64 k) (.int .i64 k) = true
  simp [Instr.sameBits]
abbrev z66 : List AV := U64 0 :: (z63 ++ [I64 0, I64 0])
abbrev NS : AV := .v (.slice none 0 0)
abbrev NM : AV := .v (.map none)
abbrev srvA (s mg tm : Nat) (now : Int) : Abs := boxA s 115 (PT mg 0 :: (z66 ++ [NS, NM, NS, NS, NS, NS, NS, NS, NS, NS, NS, NS, NM, .v (.map (some tm)), I64 now]))
abbrev tenA (h g : Nat) : Abs := boxA h 95 [PT g 0, .v (.pointer none)]
abbrev tenM (tm h : Nat) : Abs := mapA ikz (some tm) [((0 : Int), PT h 0)]
theorem srvNew_A (x : Int) : FnA Tryz.prog 23 [U64 x] [] (fun r cs' => ∃ s mg tm h g c d, r = PT s 0 ∧ cs' = [srvA s mg tm 0, tenM tm h, tenA h g, gatA g 1048576 1048576 1048576 0 0 0 0 32 0 false, mac1 mg c, diceA d x 1 0]) := by
  refine FnA.intro Tryz.tabOK Tryz.wide_ Tryz.func23 rfl (by decide) rfl (fun X => ?_)
  repeat (first | refine sc rfl ?_ | refine so rfl ?_)
  refine O_callA [] macNew_A (by rfl) (by rfl) (by rfl) (by rfl) (by rfl) ?_
  rintro r' cs' ⟨mg, rfl, rfl⟩
  repeat refine sc rfl ?_
  refine O_makeMap ikz rfl (fun tm => ?_)
  repeat refine sc rfl ?_
  refine O_call admin_c (by rfl) (by rfl) (by rfl) (by rfl) (fun r' hr => ?_)
  subst hr
  repeat refine sc rfl ?_
  refine O_callA [] (gatNew_A 1040 1048576 1048576 0 0 32 2 0 0) (by rfl) (by rfl) (by rfl) (by rfl) (by rfl) ?_
  rintro r' cs' ⟨g, rfl, rfl⟩
  iterate 2 refine so rfl ?_
  refine O_absb 10 rfl rfl rfl (fun h => ?_)
  repeat refine sc rfl ?_
  refine O_Xn (X_ins 2 iKz Tryz.underlying96 sameBits_ikz rfl rfl rfl rfl rfl rfl) ?_
  repeat (first | refine sc rfl ?_ | refine so rfl ?_)
  refine O_callA [] diceNew_A (by rfl) (by rfl) (by rfl) (by rfl) (by rfl) ?_
  rintro r' cs' ⟨d, rfl, rfl⟩
  repeat (first | refine sc rfl ?_ | refine so rfl ?_)
  first
    | refine O_callA [0] (dicePut_A d x) (by rfl) (by rfl) (by rfl) (by rfl) (by rfl) ?_
    | refine O_callA [1] (dicePut_A d x) (by rfl) (by rfl) (by rfl) (by rfl) (by rfl) ?_
    | refine O_callA [2] (dicePut_A d x) (by rfl) (by rfl) (by rfl) (by rfl) (by rfl) ?_
    | refine O_callA [3] (dicePut_A d x) (by rfl) (by rfl) (by rfl) (by rfl) (by rfl) ?_
    | refine O_callA [4] (dicePut_A d x) (by rfl) (by rfl) (by rfl) (by rfl) (by rfl) ?_
  rintro r' cs' ⟨rfl, rfl⟩
  repeat (first | refine sc rfl ?_ | refine so rfl ?_)
  first
    | refine O_callA [0, 0] (issue_A mg d x) (by rfl) (by rfl) (by rfl) (by rfl) (by rfl) ?_
    | refine O_callA [0, 1] (issue_A mg d x) (by rfl) (by rfl) (by rfl) (by rfl) (by rfl) ?_
    | refine O_callA [0, 2] (issue_A mg d x) (by rfl) (by rfl) (by rfl) (by rfl) (by rfl) ?_
    | refine O_callA [0, 3] (issue_A mg d x) (by rfl) (by rfl) (by rfl) (by rfl) (by rfl) ?_
    | refine O_callA [0, 4] (issue_A mg d x) (by rfl) (by rfl) (by rfl) (by rfl) (by rfl) ?_
    | refine O_callA [0, 5] (issue_A mg d x) (by rfl) (by rfl) (by rfl) (by rfl) (by rfl) ?_
    | refine O_callA [1, 0] (issue_A mg d x) (by rfl) (by rfl) (by rfl) (by rfl) (by rfl) ?_
    | refine O_callA [1, 1] (issue_A mg d x) (by rfl) (by rfl) (by rfl) (by rfl) (by rfl) ?_
    | refine O_callA [1, 2] (issue_A mg d x) (by rfl) (by rfl) (by rfl) (by rfl) (by rfl) ?_
    | refine O_callA [1, 3] (issue_A mg d x) (by rfl) (by rfl) (by rfl) (by rfl) (by rfl) ?_
    | refine O_callA [1, 4] (issue_A mg d x) (by rfl) (by rfl) (by rfl) (by rfl) (by rfl) ?_
    | refine O_callA [1, 5] (issue_A mg d x) (by rfl) (by rfl) (by rfl) (by rfl) (by rfl) ?_
    | refine O_callA [2, 0] (issue_A mg d x) (by rfl) (by rfl) (by rfl) (by rfl) (by rfl) ?_
    | refine O_callA [2, 1] (issue_A mg d x) (by rfl) (by rfl) (by rfl) (by rfl) (by rfl) ?_
    | refine O_callA [2, 2] (issue_A mg d x) (by rfl) (by rfl) (by rfl) (by rfl) (by rfl) ?_
    | refine O_callA [2, 3] (issue_A mg d x) (by rfl) (by rfl) (by rfl) (by rfl) (by rfl) ?_
    | refine O_callA [2, 4] (issue_A mg d x) (by rfl) (by rfl) (by rfl) (by rfl) (by rfl) ?_
    | refine O_callA [2, 5] (issue_A mg d x) (by rfl) (by rfl) (by rfl) (by rfl) (by rfl) ?_
    | refine O_callA [3, 0] (issue_A mg d x) (by rfl) (by rfl) (by rfl) (by rfl) (by rfl) ?_
    | refine O_callA [3, 1] (issue_A mg d x) (by rfl) (by rfl) (by rfl) (by rfl) (by rfl) ?_
    | refine O_callA [3, 2] (issue_A mg d x) (by rfl) (by rfl) (by rfl) (by rfl) (by rfl) ?_
    | refine O_callA [3, 3] (issue_A mg d x) (by rfl) (by rfl) (by rfl) (by rfl) (by rfl) ?_
    | refine O_callA [3, 4] (issue_A mg d x) (by rfl) (by rfl) (by rfl) (by rfl) (by rfl) ?_
    | refine O_callA [3, 5] (issue_A mg d x) (by rfl) (by rfl) (by rfl) (by rfl) (by rfl) ?_
    | refine O_callA [4, 0] (issue_A mg d x) (by rfl) (by rfl) (by rfl) (by rfl) (by rfl) ?_
    | refine O_callA [4, 1] (issue_A mg d x) (by rfl) (by rfl) (by rfl) (by rfl) (by rfl) ?_
    | refine O_callA [4, 2] (issue_A mg d x) (by rfl) (by rfl) (by rfl) (by rfl) (by rfl) ?_
    | refine O_callA [4, 3] (issue_A mg d x) (by rfl) (by rfl) (by rfl) (by rfl) (by rfl) ?_
    | refine O_callA [4, 4] (issue_A mg d x) (by rfl) (by rfl) (by rfl) (by rfl) (by rfl) ?_
    | refine O_callA [4, 5] (issue_A mg d x) (by rfl) (by rfl) (by rfl) (by rfl) (by rfl) ?_
    | refine O_callA [5, 0] (issue_A mg d x) (by rfl) (by rfl) (by rfl) (by rfl) (by rfl) ?_
    | refine O_callA [5, 1] (issue_A mg d x) (by rfl) (by rfl) (by rfl) (by rfl) (by rfl) ?_
    | refine O_callA [5, 2] (issue_A mg d x) (by rfl) (by rfl) (by rfl) (by rfl) (by rfl) ?_
    | refine O_callA [5, 3] (issue_A mg d x) (by rfl) (by rfl) (by rfl) (by rfl) (by rfl) ?_
    | refine O_callA [5, 4] (issue_A mg d x) (by rfl) (by rfl) (by rfl) (by rfl) (by rfl) ?_
    | refine O_callA [5, 5] (issue_A mg d x) (by rfl) (by rfl) (by rfl) (by rfl) (by rfl) ?_
    | refine O_callA [6, 0] (issue_A mg d x) (by rfl) (by rfl) (by rfl) (by rfl) (by rfl) ?_
    | refine O_callA [6, 1] (issue_A mg d x) (by rfl) (by rfl) (by rfl) (by rfl) (by rfl) ?_
    | refine O_callA [6, 2] (issue_A mg d x) (by rfl) (by rfl) (by rfl) (by rfl) (by rfl) ?_
    | refine O_callA [6, 3] (issue_A mg d x) (by rfl) (by rfl) (by rfl) (by rfl) (by rfl) ?_
    | refine O_callA [6, 4] (issue_A mg d x) (by rfl) (by rfl) (by rfl) (by rfl) (by rfl) ?_
    | refine O_callA [6, 5] (issue_A mg d x) (by rfl) (by rfl) (by rfl) (by rfl) (by rfl) ?_
  rintro r' cs' ⟨c, rfl, rfl⟩
  refine O_absb 3 rfl rfl rfl (fun s => ?_)
  repeat (first | refine sc rfl ?_ | refine so rfl ?_)
  first
    | exact ⟨_, [_, _, _, _, _, _], _, rfl, pickA_perm (is := [0, 2, 2, 2, 0, 0]) (As := [_, _, _, _, _, _]) rfl, rfl, s, mg, tm, h, g, c, d, rfl, rfl⟩
    | exact ⟨_, [_, _, _, _, _, _], _, rfl, pickA_perm (is := [0, 2, 3, 2, 0, 0]) (As := [_, _, _, _, _, _]) rfl, rfl, s, mg, tm, h, g, c, d, rfl, rfl⟩
    | exact ⟨_, [_, _, _, _, _, _], _, rfl, pickA_perm (is := [0, 3, 2, 2, 0, 0]) (As := [_, _, _, _, _, _]) rfl, rfl, s, mg, tm, h, g, c, d, rfl, rfl⟩
end Go.Proofs

namespace Go.Proofs
open Go.Sy Go.Lib

theorem rep_np (e : Env) : Rep e (.v (.pointer none)) (.pointer none) := by simp only [Rep]
end Go.Proofs

namespace Go.Proofs
open Go.Sy Go.Lib

end Go.Proofs

namespace Go.Proofs
open Go.Sy Go.Lib

end Go.Proofs

namespace Go.Proofs
open Go.Sy Go.Lib

def clF (f : Nat → Int) : Nat → Nat → List AV
  | _, 0 => []
  | i, n + 1 => I64 (f i) :: clF f (i + 1) n
def updC (f : Nat → Int) (k : Nat) (v : Int) : Nat → Int := fun i => if i = k then v else f i
theorem clF_get (f : Nat → Int) : ∀ (n i j : Nat), j < n → (clF f i n)[j]? = some (I64 (f (i + j)))
  | 0, _, _, h => absurd h (Nat.not_lt_zero _)
  | n + 1, i, 0, _ => rfl
  | n + 1, i, j + 1, h => by
    have := clF_get f n (i + 1) j (by omega)
    rw [show i + 1 + j = i + (j + 1) by omega] at this
    exact this
theorem clF_out {f : Nat → Int} {k : Nat} {v : Int} : ∀ (n i : Nat), (k < i ∨ i + n ≤ k) → clF (updC f k v) i n = clF f i n
  | 0, _, _ => rfl
  | n + 1, i, h => by
    simp only [clF]
    rw [clF_out n (i + 1) (by omega), show updC f k v i = f i from if_neg (by omega)]
theorem clF_set {f : Nat → Int} {v : Int} : ∀ (n i j : Nat), j < n → (clF f i n).set j (I64 v) = clF (updC f (i + j) v) i n
  | 0, _, _, h => absurd h (Nat.not_lt_zero _)
  | n + 1, i, 0, _ => by
    simp only [clF, List.set_cons_zero]
    rw [clF_out n (i + 1) (by omega), show updC f (i + 0) v i = v from if_pos rfl]
  | n + 1, i, j + 1, h => by
    simp only [clF, List.set_cons_succ]
    rw [clF_set n (i + 1) j (by omega), show i + 1 + j = i + (j + 1) by omega, show updC f (i + (j + 1)) v i = f i from if_neg (by omega)]
abbrev tlA (t : Nat) (f : Nat → Int) : Abs := boxA t 211 (clF f 0 44)
theorem tl_get {f : Nat → Int} {o : Nat} (h : o < 44) : (clF f 0 44)[o]? = some (I64 (f o)) := by
  have := clF_get f 44 0 o h
  rwa [Nat.zero_add] at this
theorem tl_set {f : Nat → Int} {o : Nat} {v : Int} (h : o < 44) : (clF f 0 44).set o (I64 v) = clF (updC f o v) 0 44 := by
  have := clF_set (f := f) (v := v) 44 0 o h
  rwa [Nat.zero_add] at this
abbrev wi8 (x : Int) : Int := IntKind.i64.wrap x
theorem aAdd_A (t o : Nat) (ho : o < 44) (f : Nat → Int) (d : Int) : FnA Tryz.prog 106 [PT t o, I64 d] [tlA t f] (fun r cs' => r = I64 (wi8 (f o + d)) ∧ cs' = [tlA t (updC f o (wi8 (f o + d)))]) := by
  refine FnA.intro Tryz.tabOK Tryz.wide_ Tryz.func106 rfl (by decide) rfl (fun X => ?_)
  repeat (first | refine sc rfl ?_ | refine so rfl ?_)
  refine O_Xd (X_aadd 0 Tryz.func159 (by kernel_rfl) (by kernel_rfl) (by kernel_rfl) .i64 (by kernel_rfl) (y := f o) (z := d) (s := wi8 (f o + d)) (fun w => by rfl) rfl rfl rfl rfl (tl_get ho) rfl) ?_
  repeat (first | refine sc rfl ?_ | refine so rfl ?_)
  rw [Nat.add_zero, tl_set ho]
  exact ⟨_, [_], _, rfl, pickA_perm (is := [0]) (As := [_]) rfl, rfl, rfl, rfl⟩
theorem aLoad_A (t o : Nat) (ho : o < 44) (f : Nat → Int) : FnA Tryz.prog 109 [PT t o] [tlA t f] (fun r cs' => r = I64 (f o) ∧ cs' = [tlA t f]) := by
  refine FnA.intro Tryz.tabOK Tryz.wide_ Tryz.func109 rfl (by decide) rfl (fun X => ?_)
  repeat (first | refine sc rfl ?_ | refine so rfl ?_)
  refine O_Xd (X_aload 0 Tryz.func160 (by kernel_rfl) (by kernel_rfl) (by kernel_rfl) .i64 (by kernel_rfl) (y := f o) rfl rfl rfl (tl_get ho) rfl) ?_
  repeat (first | refine sc rfl ?_ | refine so rfl ?_)
  exact ⟨_, [_], _, rfl, pickA_perm (is := [0]) (As := [_]) rfl, rfl, rfl, rfl⟩
theorem tWithin_c (n a b : Int) : FnP Tryz.prog 158 [I64 n, I64 a, I64 b] (· = B (decide (a ≤ n ∧ n ≤ b))) := by
  refine FnP.intro Tryz.tabOK Tryz.wide_ Tryz.func158 rfl (by decide) rfl (fun X => ?_)
  repeat (first | refine sc rfl ?_ | refine so rfl ?_)
  refine O_case 10 rfl (fun h => ?_) (fun h => ?_) <;> simp only [pL] at h
  · repeat (first | refine sc rfl ?_ | refine so rfl ?_)
    refine ⟨_, rfl, rfl, congrArg B ?_⟩
    simp [h]
  · repeat (first | refine sc rfl ?_ | refine so rfl ?_)
    refine ⟨_, rfl, rfl, congrArg B ?_⟩
    simp; omega
def cPt (t : Nat) (base : Nat) (a b k : Int) : AV := .v (.pointer (if a ≤ k ∧ k ≤ b then some ⟨t, base + k.toNat, none⟩ else none))
theorem kind_c (t : Nat) (k : Int) : FnP Tryz.prog 103 [PT t 0, I64 k] (· = cPt t 0 1 9 k) := by
  refine FnP.intro Tryz.tabOK Tryz.wide_ Tryz.func103 rfl (by decide) rfl (fun X => ?_)
  repeat (first | refine sc rfl ?_ | refine so rfl ?_)
  refine O_Xd (X_ptrnil Tryz.underlying68 rfl rfl rfl) ?_
  repeat refine so rfl ?_
  refine O_call (tWithin_c k 1 9) (by rfl) (by rfl) (by rfl) (by rfl) (fun r hr => ?_)
  subst hr
  repeat refine so rfl ?_
  unfold cPt
  refine C_if rfl (fun h => ?_) (fun h => ?_) <;> simp only [pL] at h
  · rw [if_neg h]
    repeat (first | refine sc rfl ?_ | refine so rfl ?_)
    exact ⟨_, rfl, rfl, rfl⟩
  · rw [if_pos h]
    repeat (first | refine sc rfl ?_ | refine so rfl ?_)
    refine O_Xd (X_idxP (i := k) (len := 10) rfl rfl (by omega) (by omega) rfl rfl rfl rfl) ?_
    repeat (first | refine sc rfl ?_ | refine so rfl ?_)
    exact ⟨_, rfl, rfl, by simp⟩
theorem errk_c (t : Nat) (k : Int) : FnP Tryz.prog 104 [PT t 0, I64 k] (· = cPt t 10 1 20 k) := by
  refine FnP.intro Tryz.tabOK Tryz.wide_ Tryz.func104 rfl (by decide) rfl (fun X => ?_)
  repeat (first | refine sc rfl ?_ | refine so rfl ?_)
  refine O_Xd (X_ptrnil Tryz.underlying68 rfl rfl rfl) ?_
  repeat refine so rfl ?_
  refine O_call (tWithin_c k 1 20) (by rfl) (by rfl) (by rfl) (by rfl) (fun r hr => ?_)
  subst hr
  repeat refine so rfl ?_
  unfold cPt
  refine C_if rfl (fun h => ?_) (fun h => ?_) <;> simp only [pL] at h
  · rw [if_neg h]
    repeat (first | refine sc rfl ?_ | refine so rfl ?_)
    exact ⟨_, rfl, rfl, rfl⟩
  · rw [if_pos h]
    repeat (first | refine sc rfl ?_ | refine so rfl ?_)
    refine O_Xd (X_idxP (i := k) (len := 21) rfl rfl (by omega) (by omega) rfl rfl rfl rfl) ?_
    repeat (first | refine sc rfl ?_ | refine so rfl ?_)
    exact ⟨_, rfl, rfl, by simp⟩
theorem ownk_c (t : Nat) (k : Int) : FnP Tryz.prog 105 [PT t 0, I64 k] (· = cPt t 31 0 8 k) := by
  refine FnP.intro Tryz.tabOK Tryz.wide_ Tryz.func105 rfl (by decide) rfl (fun X => ?_)
  repeat (first | refine sc rfl ?_ | refine so rfl ?_)
  refine O_Xd (X_ptrnil Tryz.underlying68 rfl rfl rfl) ?_
  repeat refine so rfl ?_
  refine O_call (tWithin_c k 0 8) (by rfl) (by rfl) (by rfl) (by rfl) (fun r hr => ?_)
  subst hr
  repeat refine so rfl ?_
  unfold cPt
  refine C_if rfl (fun h => ?_) (fun h => ?_) <;> simp only [pL] at h
  · rw [if_neg h]
    repeat (first | refine sc rfl ?_ | refine so rfl ?_)
    exact ⟨_, rfl, rfl, rfl⟩
  · rw [if_pos h]
    repeat (first | refine sc rfl ?_ | refine so rfl ?_)
    refine O_Xd (X_idxP (i := k) (len := 9) rfl rfl (by omega) (by omega) rfl rfl rfl rfl) ?_
    repeat (first | refine sc rfl ?_ | refine so rfl ?_)
    exact ⟨_, rfl, rfl, by simp⟩
def incO (f : Nat → Int) (base : Nat) (a b k d : Int) : Nat → Int := if a ≤ k ∧ k ≤ b then updC f (base + k.toNat) (wi8 (f (base + k.toNat) + d)) else f
theorem add_A (t : Nat) (f : Nat → Int) (base : Nat) (a b k d : Int) (h44 : a ≤ k ∧ k ≤ b → base + k.toNat < 44) : FnA Tryz.prog 102 [cPt t base a b k, I64 d] [tlA t f] (fun r cs' => r = .tup [] ∧ cs' = [tlA t (incO f base a b k d)]) := by
  refine FnA.intro Tryz.tabOK Tryz.wide_ Tryz.func102 rfl (by decide) rfl (fun X => ?_)
  unfold cPt incO
  by_cases h : a ≤ k ∧ k ≤ b
  · rw [if_pos h, if_pos h]
    repeat (first | refine sc rfl ?_ | refine so rfl ?_)
    refine O_Xd (X_ptrnnil Tryz.underlying214 rfl rfl rfl) ?_
    repeat refine so rfl ?_
    refine C_true rfl rfl ?_
    repeat (first | refine sc rfl ?_ | refine so rfl ?_)
    refine O_callA [0] (aAdd_A t (base + k.toNat) (h44 h) f d) (by rfl) (by rfl) (by rfl) (by rfl) (by rfl) ?_
    rintro r' cs' ⟨rfl, rfl⟩
    repeat refine so rfl ?_
    exact ⟨_, [_], _, rfl, pickA_perm (is := [0]) (As := [_]) rfl, rfl, rfl, rfl⟩
  · rw [if_neg h, if_neg h]
    repeat (first | refine sc rfl ?_ | refine so rfl ?_)
    refine O_Xd (X_ptrnnil Tryz.underlying214 rfl rfl rfl) ?_
    repeat refine so rfl ?_
    refine C_false rfl rfl ?_
    repeat refine sc rfl ?_
    exact ⟨_, [_], _, rfl, pickA_perm (is := [0]) (As := [_]) rfl, rfl, rfl, rfl⟩
theorem load_A (t : Nat) (f : Nat → Int) (base : Nat) (a b k : Int) (h44 : a ≤ k ∧ k ≤ b → base + k.toNat < 44) : FnA Tryz.prog 108 [cPt t base a b k] [tlA t f] (fun r cs' => r = I64 (if a ≤ k ∧ k ≤ b then f (base + k.toNat) else 0) ∧ cs' = [tlA t f]) := by
  refine FnA.intro Tryz.tabOK Tryz.wide_ Tryz.func108 rfl (by decide) rfl (fun X => ?_)
  unfold cPt
  by_cases h : a ≤ k ∧ k ≤ b
  · rw [if_pos h, if_pos h]
    repeat (first | refine sc rfl ?_ | refine so rfl ?_)
    refine O_Xd (X_ptrnil Tryz.underlying214 rfl rfl rfl) ?_
    repeat refine so rfl ?_
    refine C_false rfl rfl ?_
    repeat (first | refine sc rfl ?_ | refine so rfl ?_)
    refine O_callA [0] (aLoad_A t (base + k.toNat) (h44 h) f) (by rfl) (by rfl) (by rfl) (by rfl) (by rfl) ?_
    rintro r' cs' ⟨rfl, rfl⟩
    repeat (first | refine sc rfl ?_ | refine so rfl ?_)
    exact ⟨_, [_], _, rfl, pickA_perm (is := [0]) (As := [_]) rfl, rfl, rfl, rfl⟩
  · rw [if_neg h, if_neg h]
    repeat (first | refine sc rfl ?_ | refine so rfl ?_)
    refine O_Xd (X_ptrnil Tryz.underlying214 rfl rfl rfl) ?_
    repeat refine so rfl ?_
    refine C_true rfl rfl ?_
    repeat (first | refine sc rfl ?_ | refine so rfl ?_)
    exact ⟨_, [_], _, rfl, pickA_perm (is := [0]) (As := [_]) rfl, rfl, rfl, rfl⟩
end Go.Proofs

namespace Go.Proofs
open Go.Sy Go.Lib

theorem came_A (t : Nat) (f : Nat → Int) (k : Int) : FnA Tryz.prog 61 [PT t 0, I64 k] [tlA t f] (fun r cs' => r = I64 (if 1 ≤ k ∧ k ≤ 9 then f (0 + k.toNat) else 0) ∧ cs' = [tlA t f]) := by
  refine FnA.intro Tryz.tabOK Tryz.wide_ Tryz.func61 rfl (by decide) rfl (fun X => ?_)
  repeat (first | refine sc rfl ?_ | refine so rfl ?_)
  refine O_call (kind_c t k) (by rfl) (by rfl) (by rfl) (by rfl) (fun r hr => ?_)
  subst hr
  refine O_callA [0] (load_A t f 0 1 9 k (by omega)) (by rfl) (by rfl) (by rfl) (by rfl) (by rfl) ?_
  rintro r' cs' ⟨rfl, rfl⟩
  repeat (first | refine sc rfl ?_ | refine so rfl ?_)
  exact ⟨_, [_], _, rfl, pickA_perm (is := [0]) (As := [_]) rfl, rfl, rfl, rfl⟩
theorem refd_A (t : Nat) (f : Nat → Int) (k : Int) : FnA Tryz.prog 63 [PT t 0, I64 k] [tlA t f] (fun r cs' => r = I64 (if 1 ≤ k ∧ k ≤ 20 then f (10 + k.toNat) else 0) ∧ cs' = [tlA t f]) := by
  refine FnA.intro Tryz.tabOK Tryz.wide_ Tryz.func63 rfl (by decide) rfl (fun X => ?_)
  repeat (first | refine sc rfl ?_ | refine so rfl ?_)
  refine O_call (errk_c t k) (by rfl) (by rfl) (by rfl) (by rfl) (fun r hr => ?_)
  subst hr
  refine O_callA [0] (load_A t f 10 1 20 k (by omega)) (by rfl) (by rfl) (by rfl) (by rfl) (by rfl) ?_
  rintro r' cs' ⟨rfl, rfl⟩
  repeat (first | refine sc rfl ?_ | refine so rfl ?_)
  exact ⟨_, [_], _, rfl, pickA_perm (is := [0]) (As := [_]) rfl, rfl, rfl, rfl⟩
theorem servd_A (t : Nat) (f : Nat → Int) (k : Int) : FnA Tryz.prog 64 [PT t 0, I64 k] [tlA t f] (fun r cs' => r = I64 (if 0 ≤ k ∧ k ≤ 8 then f (31 + k.toNat) else 0) ∧ cs' = [tlA t f]) := by
  refine FnA.intro Tryz.tabOK Tryz.wide_ Tryz.func64 rfl (by decide) rfl (fun X => ?_)
  repeat (first | refine sc rfl ?_ | refine so rfl ?_)
  refine O_call (ownk_c t k) (by rfl) (by rfl) (by rfl) (by rfl) (fun r hr => ?_)
  subst hr
  refine O_callA [0] (load_A t f 31 0 8 k (by omega)) (by rfl) (by rfl) (by rfl) (by rfl) (by rfl) ?_
  rintro r' cs' ⟨rfl, rfl⟩
  repeat (first | refine sc rfl ?_ | refine so rfl ?_)
  exact ⟨_, [_], _, rfl, pickA_perm (is := [0]) (As := [_]) rfl, rfl, rfl, rfl⟩
def rowT (f : Nat → Int) (x : Rw) : Nat → Int :=
  if x.act = 1 then incO (incO f 0 1 9 x.note.kind 1) 10 1 20 x.note.err 1 else if x.act = 2 then incO f 31 0 8 x.note.owner 1
  else if x.act = 3 then updC f 40 (wi8 (f 40 + 1)) else if x.act = 4 then updC f 41 (wi8 (f 41 + 1)) else f
theorem row_A (t : Nat) (f : Nat → Int) (x : Rw) : FnA Tryz.prog 57 [PT t 0, .agg (Rw.c x)] [tlA t f] (fun r cs' => r = .tup [] ∧ cs' = [tlA t (rowT f x)]) := by
  refine FnA.intro Tryz.tabOK Tryz.wide_ Tryz.func57 rfl (by decide) rfl (fun X => ?_)
  unfold rowT
  repeat (first | refine sc rfl ?_ | refine so rfl ?_)
  first | refine C_le _ (Le.freezebox 3 rfl rfl rfl) ?_ | refine O_le _ (Le.freezebox 3 rfl rfl rfl) ?_
  repeat refine sc rfl ?_
  refine O_Xd (X_ptrnil Tryz.underlying68 rfl rfl rfl) ?_
  repeat refine so rfl ?_
  refine C_false rfl rfl ?_
  repeat (first | refine sc rfl ?_ | refine so rfl ?_)
  refine C_if rfl (fun h1 => ?_) (fun h1 => ?_) <;> simp only [pL] at h1
  · rw [if_pos h1]
    repeat (first | refine sc rfl ?_ | refine so rfl ?_)
    refine O_call (kind_c t x.note.kind) (by rfl) (by rfl) (by rfl) (by rfl) (fun r hr => ?_)
    subst hr
    refine O_callA [0] (add_A t f 0 1 9 x.note.kind 1 (by omega)) (by rfl) (by rfl) (by rfl) (by rfl) (by rfl) ?_
    rintro r' cs' ⟨rfl, rfl⟩
    repeat (first | refine sc rfl ?_ | refine so rfl ?_)
    refine O_call (errk_c t x.note.err) (by rfl) (by rfl) (by rfl) (by rfl) (fun r hr => ?_)
    subst hr
    refine O_callA [0] (add_A t (incO f 0 1 9 x.note.kind 1) 10 1 20 x.note.err 1 (by omega)) (by rfl) (by rfl) (by rfl) (by rfl) (by rfl) ?_
    rintro r' cs' ⟨rfl, rfl⟩
    repeat refine so rfl ?_
    exact ⟨_, [_], _, rfl, pickA_perm (is := [0]) (As := [_]) rfl, rfl, rfl, rfl⟩
  rw [if_neg h1]
  repeat (first | refine sc rfl ?_ | refine so rfl ?_)
  refine C_if rfl (fun h2 => ?_) (fun h2 => ?_) <;> simp only [pL] at h2
  · rw [if_pos h2]
    repeat (first | refine sc rfl ?_ | refine so rfl ?_)
    refine O_call (ownk_c t x.note.owner) (by rfl) (by rfl) (by rfl) (by rfl) (fun r hr => ?_)
    subst hr
    refine O_callA [0] (add_A t f 31 0 8 x.note.owner 1 (by omega)) (by rfl) (by rfl) (by rfl) (by rfl) (by rfl) ?_
    rintro r' cs' ⟨rfl, rfl⟩
    repeat refine so rfl ?_
    exact ⟨_, [_], _, rfl, pickA_perm (is := [0]) (As := [_]) rfl, rfl, rfl, rfl⟩
  rw [if_neg h2]
  repeat (first | refine sc rfl ?_ | refine so rfl ?_)
  refine C_if rfl (fun h3 => ?_) (fun h3 => ?_) <;> simp only [pL] at h3
  · rw [if_pos h3]
    repeat (first | refine sc rfl ?_ | refine so rfl ?_)
    refine O_callA [0] (aAdd_A t 40 (by decide) f 1) (by rfl) (by rfl) (by rfl) (by rfl) (by rfl) ?_
    rintro r' cs' ⟨rfl, rfl⟩
    repeat refine so rfl ?_
    exact ⟨_, [_], _, rfl, pickA_perm (is := [0]) (As := [_]) rfl, rfl, rfl, rfl⟩
  rw [if_neg h3]
  repeat (first | refine sc rfl ?_ | refine so rfl ?_)
  refine C_if rfl (fun h4 => ?_) (fun h4 => ?_) <;> simp only [pL] at h4
  · rw [if_pos h4]
    repeat (first | refine sc rfl ?_ | refine so rfl ?_)
    refine O_callA [0] (aAdd_A t 41 (by decide) f 1) (by rfl) (by rfl) (by rfl) (by rfl) (by rfl) ?_
    rintro r' cs' ⟨rfl, rfl⟩
    repeat refine so rfl ?_
    exact ⟨_, [_], _, rfl, pickA_perm (is := [0]) (As := [_]) rfl, rfl, rfl, rfl⟩
  rw [if_neg h4]
  repeat refine sc rfl ?_
  exact ⟨_, [_], _, rfl, pickA_perm (is := [0]) (As := [_]) rfl, rfl, rfl, rfl⟩
def outT (f : Nat → Int) (x : Ou) : Nat → Int := if x.closed = true then updC f 43 (wi8 (f 43 + 1)) else updC f 42 (wi8 (f 42 + (x.bytes.length : Nat)))
theorem out_A (t : Nat) (f : Nat → Int) (x : Ou) : FnA Tryz.prog 59 [PT t 0, .agg (Ou.c x)] [tlA t f] (fun r cs' => r = .tup [] ∧ cs' = [tlA t (outT f x)]) := by
  refine FnA.intro Tryz.tabOK Tryz.wide_ Tryz.func59 rfl (by decide) rfl (fun X => ?_)
  unfold outT
  repeat (first | refine sc rfl ?_ | refine so rfl ?_)
  first | refine C_le _ (Le.freezebox 3 rfl rfl rfl) ?_ | refine O_le _ (Le.freezebox 3 rfl rfl rfl) ?_
  repeat refine sc rfl ?_
  refine O_Xd (X_ptrnil Tryz.underlying68 rfl rfl rfl) ?_
  repeat refine so rfl ?_
  refine C_false rfl rfl ?_
  repeat (first | refine sc rfl ?_ | refine so rfl ?_)
  refine C_if rfl (fun h1 => ?_) (fun h1 => ?_) <;> try simp only [pL] at h1
  · rw [if_pos h1]
    repeat (first | refine sc rfl ?_ | refine so rfl ?_)
    refine O_callA [0] (aAdd_A t 43 (by decide) f 1) (by rfl) (by rfl) (by rfl) (by rfl) (by rfl) ?_
    rintro r' cs' ⟨rfl, rfl⟩
    repeat refine so rfl ?_
    exact ⟨_, [_], _, rfl, pickA_perm (is := [0]) (As := [_]) rfl, rfl, rfl, rfl⟩
  · rw [if_neg (by simp [h1])]
    repeat refine sc rfl ?_
    refine C_drawU 20 6 rfl (by kernel_rfl) (by kernel_rfl) (by kernel_rfl) ?_
    repeat refine sd rfl ?_
    refine O_callA [0] (aAdd_A t 42 (by decide) f (x.bytes.length : Nat)) (by rfl) (by rfl) (by rfl) (by rfl) (by rfl) ?_
    rintro r' cs' ⟨rfl, rfl⟩
    repeat refine so rfl ?_
    exact ⟨_, [_], _, rfl, pickA_perm (is := [0]) (As := [_]) rfl, rfl, rfl, rfl⟩
theorem rest_A (t : Nat) (f : Nat → Int) : FnA Tryz.prog 65 [PT t 0] [tlA t f] (fun r cs' => r = .tup [I64 (f 40), I64 (f 41), I64 (f 42), I64 (f 43)] ∧ cs' = [tlA t f]) := by
  refine FnA.intro Tryz.tabOK Tryz.wide_ Tryz.func65 rfl (by decide) rfl (fun X => ?_)
  repeat (first | refine sc rfl ?_ | refine so rfl ?_)
  refine O_Xd (X_ptrnil Tryz.underlying68 rfl rfl rfl) ?_
  repeat refine so rfl ?_
  refine C_false rfl rfl ?_
  repeat refine sc rfl ?_
  refine C_drawD rfl (by kernel_rfl) ?_
  repeat refine sd rfl ?_
  refine D_callA [0] (aLoad_A t 40 (by decide) f) rfl rfl rfl rfl rfl ?_
  repeat refine sd rfl ?_
  refine D_callA [0] (aLoad_A t 41 (by decide) f) rfl rfl rfl rfl rfl ?_
  repeat refine sd rfl ?_
  refine D_callA [0] (aLoad_A t 42 (by decide) f) rfl rfl rfl rfl rfl ?_
  repeat refine sd rfl ?_
  refine D_callA [0] (aLoad_A t 43 (by decide) f) rfl rfl rfl rfl rfl ?_
  repeat refine sd rfl ?_
  repeat refine sc rfl ?_
  exact ⟨_, [_], _, rfl, pickA_perm (is := [0]) (As := [_]) rfl, rfl, rfl, rfl⟩
end Go.Proofs

namespace Go.Sy
open Go.RowKit

end Go.Sy

namespace Go.Sy
open Go.RowKit

def bufA (h : Value) (el : TypeId) (l : List UInt8) : Abs where
  bs := h.ownBlock.toList
  ok := fun G w => w.ownsRow 0 el 1 h l.length (Lib.byteCells l)
  keep := fun {G H w w'} hG hb h1 => ownsRow_of_blocks h1 (fun b hbb => hb b (by simp [hbb]))

def HdB (h : Value) (l : List UInt8) : Prop := (h = .slice none 0 0 ∧ l = []) ∨ (l ≠ [] ∧ ∃ g cc, h = HD g l.length cc)

section
variable {P : Program} {T : Tab} {X : Ctx P T} {n : Nat} {e : Env} {st : St} {a : Act} {w : World} {ops : Array Oper} {K : St → Prop}

theorem X_fromUnsafe (q : Nat) {p : Pl} {src dst' u : TypeId} {inf : TypeInfo} (hs : P.underlying src = some .unsafePointer) (hdd : P.underlying dst' = some (.pointer u)) (hu : P.info? u = some inf)
    {x : Operand} {b : Nat} {T' : TypeId} {cells : List AV} {d : Option Nat} {ty : TypeId} {pos : String} {aft : Array Edge} {gd : Option (Nat × Bool)} {j : Nat} {Si : List (Nat × AV)} {c cr : List Ch}
    (hlies : liesAt P P.depth T' (cells.length / P.cellsOf T') 0 u 1 = true)
    (hg : guardA ops ⟨Si, c⟩ ⟨d, .convert src dst' x, ty, pos, aft, gd⟩ = some true) (hx : opd Si x = some (PT b 0)) (hp : nthA q c = some (boxA b T' cells, cr)) (hd : dstOK n d = true) :
    StepX X n ops p Si c c j ⟨d, .convert src dst' x, ty, pos, aft, gd⟩ (PT b 0) :=
  StepX.val hg hd (fun e a w S r r' => by
    have h1 := opd_sound r' hx
    simp only [Rep] at h1
    obtain ⟨arr, h2, h3⟩ := (r.heap.nth hp).1
    have hl : arr.size = cells.length := by have := h3.len; simpa using this
    have hsh : w.shape? b = some (T', arr.size) := by simp [World.shape?, h2]
    refine ⟨.pointer (some ⟨b, 0, none⟩), w, e, ?_, r, by simp only [Rep]⟩
    have := Lib.run_from_unsafe (P := P) w (src := src) (dst := dst') ⟨b, 0, none⟩ hs hdd hu hsh (by rw [hl]; exact hlies)
    simp only [execOp, h1, Sem.run_bind, this, Result.andThen_ok, Sem.run_pure])

theorem X_noEscape {p : Pl} {f : FuncId} {fn : Func} (hf : P.funcs[f]? = some fn) (hname : (fn.name == "runtime.NumGoroutine") = false) (hb : fn.body.isNone = true) (hn : Extern.findNext fn = none)
    (he : Extern.find fn = some Extern.AbiNoEscape.same) {x : Operand} {b o : Nat} {d : Option Nat} {tys : Array TypeId} {ty : TypeId} {pos : String} {aft : Array Edge} {gd : Option (Nat × Bool)} {j : Nat} {Si : List (Nat × AV)} {c : List Ch}
    (hg : guardA ops ⟨Si, c⟩ ⟨d, .call ⟨.value (.func f), #[x], tys⟩, ty, pos, aft, gd⟩ = some true) (hx : opd Si x = some (PT b o)) (hd : dstOK n d = true) :
    StepX X n ops p Si c c j ⟨d, .call ⟨.value (.func f), #[x], tys⟩, ty, pos, aft, gd⟩ (PT b o) :=
  StepX.val hg hd (fun e a w S r r' => by
    have h1 := opd_sound r' hx
    simp only [Rep] at h1
    refine ⟨.pointer (some ⟨b, o, none⟩), w, e, run_ext a.eval rfl w w ?_, r, by simp only [Rep]⟩
    have : (callFunc f #[.pointer (some ⟨b, o, none⟩)]).run P w = .ok (.value (.pointer (some ⟨b, o, none⟩))) w := by
      rw [run_callFunc_extern hf hname hb hn he]
      rfl
    simpa [h1] using this)

theorem append_block_str (t u ty el : Nat) (i : TypeInfo) (ht : P.underlying t = some (.slice el)) (hu : P.underlying u = some .string) (hi : P.info? el = some i) (hz : i.zero = some (.int .u8 0)) (hs1 : i.size = 1) (hby : i.bytes = 1)
    (v : Value) (n : Nat) (xs : List Value) (hown : w.ownsRow 0 el 1 v n xs) (s : ByteArray) (h63 : n + s.size ≤ maxLen) (hbytes : n + s.size ≤ 140737488355328) {v' : Value} {w' : World}
    (hr : (Builtin.append_ #[t, u] ty #[v, .string s]).run P w = .ok v' w') : ∀ b, v'.ownBlock = some b → some b = v.ownBlock ∨ w.heap.size ≤ b := by
  have hsmall : n + s.size ≤ 9223372036854775807 := by simp only [maxLen] at h63; omega
  have hxl : xs.length = n := by simpa using hown.1
  rcases hown.2 with ⟨rfl, rfl⟩ | ⟨g, cap, cur, rfl, hbg, hg, hnc, hcm, hcs, htake⟩
  · by_cases hm : s.size = 0
    · obtain ⟨v2, w2, hr2, h2, h3, h4⟩ := Lib.run_append_own_string (P := P) w 0 t u ty el i ht hu hi hz hs1 hby (.slice none 0 0) 0 xs hown s h63 hbytes (Nat.zero_le _)
      rw [hr2] at hr
      simp only [Result.ok.injEq] at hr
      obtain ⟨rfl, _⟩ := hr
      rw [h4.2 ⟨rfl, hm⟩]
      intro b hb; simp [Value.ownBlock] at hb
    · have hr' := run_append_nil_string (P := P) w t u ty el i (.int .u8 0) ht hu hi hz s (by omega) (by omega) (by rw [hby]; omega)
      rw [hr'] at hr
      simp only [Result.ok.injEq] at hr
      obtain ⟨rfl, _⟩ := hr
      intro b hb; simp [Value.ownBlock] at hb; omega
  · by_cases hroom : n + s.size ≤ cap
    · have hcs' : cur.size = cap := by simpa using hcs
      have hr' := Lib.run_append_room_string (P := P) w t u ty el i ht hu hi hs1 g n cap cur hg s hroom (by omega)
      rw [hr'] at hr
      simp only [Result.ok.injEq] at hr
      obtain ⟨rfl, _⟩ := hr
      intro b hb; exact .inl hb.symm
    · have holds : ∀ (j : Nat) (u : Value), xs[j]? = some u → w.cell? ((⟨g, 0, none⟩ : Addr).add j) = some u := hown.cells (g := g) rfl
      have hr' := Lib.run_append_grow_string (P := P) w t u ty el i (.int .u8 0) ht hu hi hz ⟨g, 0, none⟩ n cap xs (by rw [hs1]; simpa using hxl) holds s (by omega) (by omega) (by rw [hby]; exact growslice_fits (by omega) (by omega))
      rw [hr'] at hr
      simp only [Result.ok.injEq] at hr
      obtain ⟨rfl, _⟩ := hr
      intro b hb; simp [Value.ownBlock] at hb; omega

theorem O_appendT (q : Nat) {dst : Nat} {so_ xo : Operand} {t u ty : TypeId} {pos : String} {aft : Array Edge} {rest : List Oper} {s : List (Nat × AV)} {c cr : List Ch} {h : Value} {el : Nat} {l m : List UInt8} {i : TypeInfo}
    (ht : P.underlying t = some (.slice el)) (hu : P.underlying u = some .string) (hi : P.info? el = some i) (hz : i.zero = some (.int .u8 0)) (hs1 : i.size = 1) (hby : i.bytes = 1)
    (hso : opd s so_ = some (.v h)) (hp : nthA q c = some (bufA h el l, cr)) (hxo : opd s xo = some (.s m)) (hd : Nat.blt dst n = true) (hH : HdB h l) (hlen : l.length + m.length ≤ 140737488355328)
    (k : ∀ v', HdB v' (l ++ m) → SymO X n ops rest ⟨(dst, .v v') :: s, .abs (bufA v' el (l ++ m)) :: cr⟩ K) :
    SymO X n ops (⟨some dst, .call ⟨.builtin .append, #[so_, xo], #[t, u]⟩, ty, pos, aft, none⟩ :: rest) ⟨s, c⟩ K := by
  intro e a w Q r hq
  have hso' := opd_sound r hso
  have hx := opd_sound r hxo
  simp only [Rep] at hso' hx
  obtain ⟨g1, hgood, hnd⟩ := r.heap.nth hp
  have g1' : w.ownsRow 0 el 1 h l.length (Lib.byteCells l) := g1
  have hperm : c.Perm ([bufA h el l].map Ch.abs ++ cr) := by simpa using nthA_perm hp
  have hbl : ∀ B : Abs, blocks [B] = B.bs := fun B => by simp [blocks]
  have hsz : (ByteArray.mk m.toArray).size = m.length := Go.Sy.len_S m
  have hml : l.length + (ByteArray.mk m.toArray).size ≤ maxLen := by rw [hsz]; simp only [maxLen]; omega
  obtain ⟨v', w', hr, q2, q3, q4⟩ := Lib.run_append_own_string (P := P) w 0 t u ty el i ht hu hi hz hs1 hby h l.length (Lib.byteCells l) g1' ⟨m.toArray⟩ hml (by rw [hsz]; exact hlen) (Nat.zero_le _)
  have hblk := append_block_str t u ty el i ht hu hi hz hs1 hby h l.length (Lib.byteCells l) g1' ⟨m.toArray⟩ hml (by rw [hsz]; exact hlen) hr
  have hcells : Lib.byteCells l ++ Lib.strCells ⟨m.toArray⟩ = Lib.byteCells (l ++ m) := by simp [Lib.byteCells, Lib.strCells]
  have hown : w'.ownsRow 0 el 1 v' (l ++ m).length (Lib.byteCells (l ++ m)) := by
    rw [hcells, hsz] at q2
    rw [List.length_append]; exact q2
  have hrun : (execOp a.eval ⟨some dst, .call ⟨.builtin .append, #[so_, xo], #[t, u]⟩, ty, pos, aft, none⟩).run P w = .ok (.value v') w' := by
    simp only [execOp, resolve, invoke, builtin, Sem.run_bind, Sem.run_pure, Result.andThen_ok, List.map_toArray, List.map_cons, List.map_nil, hso', hx]
    simp only [S] at *
    simp only [hr, Result.andThen_ok, Sem.run_pure]
  have hH' : HdB v' (l ++ m) := by
    rcases hown.2 with ⟨h1, h2⟩ | ⟨g, cap, cur, h1, _⟩
    · exact .inl ⟨h1, List.eq_nil_of_length_eq_zero h2⟩
    · by_cases hne : l ++ m = []
      · have hl0 : l = [] := (List.append_eq_nil_iff.1 hne).1
        have hm0 : m = [] := (List.append_eq_nil_iff.1 hne).2
        have hn : h = .slice none 0 0 := by
          rcases hH with ⟨h1, _⟩ | ⟨h1, _⟩
          · exact h1
          · exact absurd hl0 h1
        have := q4.2 ⟨hn, by rw [hsz, hm0]; rfl⟩
        rw [h1] at this; cases this
      · exact .inr ⟨hne, g, cap, h1⟩
  unfold wpList
  rw [if_pos (by simp [Region.wanted])]
  refine .inl ?_
  unfold Oper.wp
  rw [hrun]
  have hno : ∀ b, b ∉ (bufA h el l).bs → some b ≠ h.ownBlock := fun b hb he => hb (by simp [bufA, ← he])
  have hin : ∀ b, some b = h.ownBlock → b ∈ (bufA h el l).bs := fun b hb => by simp [bufA, ← hb]
  have hmem : ∀ b ∈ (bufA v' el (l ++ m)).bs, v'.ownBlock = some b := fun b hb => by simpa [bufA] using hb
  have r2 := r.swapAbs (st := ⟨s, c⟩) (As := [bufA h el l]) (As' := [bufA v' el (l ++ m)]) (G' := e.G) (w' := w') hperm (IM.le_refl _) ⟨?_, ?_⟩ ⟨fun b o v h => .inl h, fun b x h => .inl h⟩ ⟨?_, ?_, ?_⟩ ?_ ⟨q3.os, q3.tape, q3.output⟩ q3.size ?_
  · exact k v' hH' _ _ _ Q (r2.put (x := .v v') (v := v') hd (by simp only [Rep])) hq
  · intro b o v hv
    have h1 := r.im b o v hv
    simp only [World.cell?] at h1 ⊢
    rw [q3.block b (r.glt0 _ _ _ hv) (fun he => by rw [(hgood b (hin b he)).2.2.1 o] at hv; cases hv)]
    exact h1
  · exact r.mzKeep (fun b hb hf => q3.block b hb (fun he => hf (hgood b (hin b he)).2.2))
  · intro B hB
    simp only [List.mem_singleton] at hB
    subst hB; exact hown
  · rw [hbl]
    show (v'.ownBlock.toList).Nodup
    cases v'.ownBlock <;> simp
  · intro b hb
    rw [hbl] at hb
    have hb1 := hmem b hb
    refine ⟨(hown.lt b hb1).2, ?_⟩
    rcases hblk b hb1 with h2 | h2
    · exact (hgood b (hin b h2)).2.2
    · exact r.free h2
  · intro b hb
    rw [hbl] at hb ⊢
    rcases hblk b (hmem b hb) with h2 | h2
    · exact .inr (hin b h2)
    · exact .inl h2
  · intro b hb hnin _
    rw [hbl] at hnin
    exact q3.block b hb (fun he => hno b hnin he)

theorem X_sliceData (q : Nat) {p : Pl} {x : Operand} {g cc : Nat} {el : TypeId} {l : List UInt8} {t : TypeId} {d : Option Nat} {ty : TypeId} {pos : String} {aft : Array Edge} {gd : Option (Nat × Bool)} {j : Nat} {Si : List (Nat × AV)} {c cr : List Ch}
    (hg : guardA ops ⟨Si, c⟩ ⟨d, .call ⟨.builtin .unsafeSliceData, #[x], #[t]⟩, ty, pos, aft, gd⟩ = some true) (hx : opd Si x = some (.v (HD g l.length cc))) (hp : nthA q c = some (bufA (HD g l.length cc) el l, cr)) (hl : l ≠ []) (hd : dstOK n d = true) :
    StepX X n ops p Si c c j ⟨d, .call ⟨.builtin .unsafeSliceData, #[x], #[t]⟩, ty, pos, aft, gd⟩ (PT g 0) :=
  StepX.val hg hd (fun e a w S r r' => by
    have h1 := opd_sound r' hx
    simp only [Rep] at h1
    have hown : w.ownsRow 0 el 1 (HD g l.length cc) l.length (Lib.byteCells l) := (r.heap.nth hp).1
    have hc : cc ≠ 0 := by
      rcases hown.2 with ⟨h2, h3⟩ | ⟨g2, cap, cur, h2, _, _, h3, _⟩
      · exact absurd (List.eq_nil_of_length_eq_zero h3) hl
      · simp only [HD, Value.slice.injEq] at h2
        obtain ⟨_, _, rfl⟩ := h2
        intro h0
        exact hl (List.eq_nil_of_length_eq_zero (by omega))
    refine ⟨.pointer (some ⟨g, 0, none⟩), w, e, ?_, r, by simp only [Rep]⟩
    have := Lib.run_unsafeSliceData_row (P := P) w #[t] ty ⟨g, 0, none⟩ l.length cc hc
    simp only [execOp, resolve, invoke, builtin, Sem.run_bind, Sem.run_pure, Result.andThen_ok, List.map_toArray, List.map_cons, List.map_nil, h1]
    simp only [HD] at *
    simp only [this, Result.andThen_ok, Sem.run_pure])
theorem X_sliceData0 {p : Pl} {x : Operand} {t : TypeId} {d : Option Nat} {ty : TypeId} {pos : String} {aft : Array Edge} {gd : Option (Nat × Bool)} {j : Nat} {Si : List (Nat × AV)} {c : List Ch}
    (hg : guardA ops ⟨Si, c⟩ ⟨d, .call ⟨.builtin .unsafeSliceData, #[x], #[t]⟩, ty, pos, aft, gd⟩ = some true) (hx : opd Si x = some (.v (.slice none 0 0))) (hd : dstOK n d = true) :
    StepX X n ops p Si c c j ⟨d, .call ⟨.builtin .unsafeSliceData, #[x], #[t]⟩, ty, pos, aft, gd⟩ (.v (.pointer none)) :=
  StepX.val hg hd (fun e a w S r r' => by
    have h1 := opd_sound r' hx
    simp only [Rep] at h1
    refine ⟨.pointer none, w, e, ?_, r, by simp only [Rep]⟩
    have := Lib.run_unsafeSliceData_nil (P := P) w #[t] ty 0 0
    simp only [execOp, resolve, invoke, builtin, Sem.run_bind, Sem.run_pure, Result.andThen_ok, List.map_toArray, List.map_cons, List.map_nil, h1, this])
theorem X_unsafeString0 {p : Pl} {x y : Operand} {t u : TypeId} {d : Option Nat} {ty : TypeId} {pos : String} {aft : Array Edge} {gd : Option (Nat × Bool)} {j : Nat} {Si : List (Nat × AV)} {c : List Ch}
    (hg : guardA ops ⟨Si, c⟩ ⟨d, .call ⟨.builtin .unsafeString, #[x, y], #[t, u]⟩, ty, pos, aft, gd⟩ = some true) (hx : opd Si x = some (.v (.pointer none))) (hy : opd Si y = some (I64 0)) (hd : dstOK n d = true) :
    StepX X n ops p Si c c j ⟨d, .call ⟨.builtin .unsafeString, #[x, y], #[t, u]⟩, ty, pos, aft, gd⟩ (.s []) :=
  StepX.val hg hd (fun e a w S r r' => by
    have h1 := opd_sound r' hx
    have h2 := opd_sound r' hy
    simp only [Rep] at h1 h2
    refine ⟨.string .empty, w, e, ?_, r, by simp only [Rep]; rfl⟩
    have := Lib.run_unsafeString_none (P := P) w t u ty none
    simp only [execOp, resolve, invoke, builtin, Sem.run_bind, Sem.run_pure, Result.andThen_ok, List.map_toArray, List.map_cons, List.map_nil, h1, h2]
    rw [this]; rfl)
theorem X_unsafeString (q : Nat) {p : Pl} {x y : Operand} {g cc : Nat} {el : TypeId} {l : List UInt8} {t u : TypeId} {d : Option Nat} {ty : TypeId} {pos : String} {aft : Array Edge} {gd : Option (Nat × Bool)} {j : Nat} {Si : List (Nat × AV)} {c cr : List Ch}
    (ht : P.underlying t = some (.pointer el)) (hc1 : P.cellsOf el = 1)
    (hg : guardA ops ⟨Si, c⟩ ⟨d, .call ⟨.builtin .unsafeString, #[x, y], #[t, u]⟩, ty, pos, aft, gd⟩ = some true) (hx : opd Si x = some (PT g 0)) (hy : opd Si y = some (I64 (l.length : Nat))) (hp : nthA q c = some (bufA (HD g l.length cc) el l, cr)) (hl : l ≠ []) (hd : dstOK n d = true) :
    StepX X n ops p Si c cr j ⟨d, .call ⟨.builtin .unsafeString, #[x, y], #[t, u]⟩, ty, pos, aft, gd⟩ (.s l) :=
  StepX.val hg hd (fun e a w S r r' => by
    have h1 := opd_sound r' hx
    have h2 := opd_sound r' hy
    simp only [Rep] at h1 h2
    obtain ⟨hown0, hgood, hnd⟩ := r.heap.nth hp
    have hown : w.ownsRow 0 el 1 (HD g l.length cc) l.length (Lib.byteCells l) := hown0
    have hperm : c.Perm ([bufA (HD g l.length cc) el l].map Ch.abs ++ cr) := by simpa using nthA_perm hp
    have hbl : ∀ B : Abs, blocks [B] = B.bs := fun B => by simp [blocks]
    have hgin : g ∈ (bufA (HD g l.length cc) el l).bs := by simp [bufA, HD, Value.ownBlock]
    obtain ⟨cap, cur, hg2, hnc, hmax, hcs⟩ : ∃ cap cur, w.heap[g]? = some (.cells cur el (0, 0)) ∧ l.length ≤ cap ∧ cap ≤ maxLen ∧ cur.size = cap := by
      rcases hown.2 with ⟨h3, h4⟩ | ⟨g2, cap, cur, h3, _, h5, h6, h7, h8, _⟩
      · exact absurd (List.eq_nil_of_length_eq_zero h4) hl
      · simp only [HD, Value.slice.injEq, Option.some.injEq, Addr.mk.injEq] at h3
        obtain ⟨⟨rfl, _⟩, _, rfl⟩ := h3
        exact ⟨_, cur, h5, h6, h7, by simpa using h8⟩
    have hcell : ∀ (j : Nat) (x : UInt8), l[j]? = some x → w.cell? ((⟨g, 0, none⟩ : Addr).add j) = some (.int .u8 x.toNat) := fun j x hxj => by
      have := hown.cells (g := g) rfl j (.int .u8 x.toNat) (by simp [Lib.byteCells, hxj])
      exact this
    have hrun := Lib.run_unsafeString_row (P := P) w t u ty el ht hc1 g cur.size (by simp [World.shape?, hg2]) l hl (by omega) (by simp only [maxLen] at hmax; omega) hcell
    have hb : ∀ k, k ≠ g → (w.freeze ⟨g, 0, none⟩ l.length).heap[k]? = w.heap[k]? := fun k hk => by
      unfold World.freeze
      split
      · rfl
      · simp only [Array.getElem?_modify]
        rw [if_neg (by omega)]
    have hos : (w.freeze ⟨g, 0, none⟩ l.length).os = w.os ∧ (w.freeze ⟨g, 0, none⟩ l.length).tape = w.tape ∧ (w.freeze ⟨g, 0, none⟩ l.length).output = w.output := by
      unfold World.freeze
      split <;> exact ⟨rfl, rfl, rfl⟩
    have hsz : w.heap.size ≤ (w.freeze ⟨g, 0, none⟩ l.length).heap.size := by
      unfold World.freeze
      split
      · exact Nat.le_refl _
      · simp
    have hf := hgood g hgin
    refine ⟨.string ⟨l.toArray⟩, w.freeze ⟨g, 0, none⟩ l.length, _, ?_, r.swapAbs (st := ⟨S, c⟩) (As := [bufA (HD g l.length cc) el l]) (As' := []) (G' := e.G) (w' := w.freeze ⟨g, 0, none⟩ l.length) hperm (IM.le_refl _) ⟨?_, ?_⟩ ⟨fun b o v h => .inl h, fun b x h => .inl h⟩ ⟨fun B hB => (by cases hB), List.nodup_nil, fun b hb => (by cases hb)⟩ (fun b hb => (by cases hb)) hos hsz ?_, by simp only [Rep]; rfl⟩
    · simp only [execOp, resolve, invoke, builtin, Sem.run_bind, Sem.run_pure, Result.andThen_ok, List.map_toArray, List.map_cons, List.map_nil, h1, h2]
      rw [hrun]; rfl
    · intro b o v hv
      have h3 := r.im b o v hv
      simp only [World.cell?] at h3 ⊢
      rw [hb b (fun he => by subst he; rw [hf.2.2.1 o] at hv; cases hv)]
      exact h3
    · exact r.mzKeep (fun b _ hfr => hb b (fun he => hfr (by subst he; exact hf.2.2)))
    · intro b hbs hnin _
      rw [hbl] at hnin
      exact hb b (fun he => hnin (by rw [he]; exact hgin)))

theorem run_equal_ptr_same {tp te : TypeId} {j : TypeInfo} (a : Addr) (hp : P.underlying tp = some (.pointer te)) (hte : P.info? te = some j) (w : World) : (Op.equal tp (.pointer (some a)) (.pointer (some a))).run P w = .ok true w := by
  have h : ∀ d : Nat, (Op.equalIn (d + 1) tp (.pointer (some a)) (.pointer (some a))).run P w = .ok true w := fun d => by
    simp [Op.equalIn, run_underlying hp, sizeOf, typeInfo, hte, run_sameAddr_same]
  simpa [Op.equal, Op.maxDepth] using h 9999
theorem X_ptrneS {p : Pl} {t el : TypeId} {pi : TypeInfo} {x y : Operand} {b o : Nat} {d : Option Nat} {uy ty : TypeId} {pos : String} {aft : Array Edge} {gd : Option (Nat × Bool)} {j : Nat} {Si : List (Nat × AV)} {c : List Ch} (hm : P.underlying t = some (.pointer el)) (hpi : P.info? el = some pi)
    (hg : guardA ops ⟨Si, c⟩ ⟨d, .binOp .neq t x y uy, ty, pos, aft, gd⟩ = some true) (hx : opd Si x = some (PT b o)) (hy : opd Si y = some (PT b o)) (hd : dstOK n d = true) :
    StepX X n ops p Si c c j ⟨d, .binOp .neq t x y uy, ty, pos, aft, gd⟩ (B false) :=
  X_eq (op := .neq) (u := .pointer (some ⟨b, o, none⟩)) (v := .pointer (some ⟨b, o, none⟩)) (b := true) (.inr rfl) (by intro cs h; cases h) (by intro h; cases h) (fun e a w S r => run_equal_ptr_same ⟨b, o, none⟩ hm hpi w) (fun w => binOp_neq_ptr w) hg hx hy hd

end
end Go.Sy

namespace Go.Proofs
open Go.Sy Go.Lib

def ptrU (b : Nat) (u : Bool) : AV := .v (.pointer (if u then some ⟨b, 0, none⟩ else none))
abbrev bldC (b : Nat) (u : Bool) (h : Value) : Abs := boxA b 60 [ptrU b u, .v h]

theorem copyCheck_A (b : Nat) (u : Bool) (h : Value) : FnA Tryz.prog 46 [PT b 0] [bldC b u h] (fun r cs' => r = .tup [] ∧ cs' = [bldC b true h]) := by
  refine FnA.intro Tryz.tabOK Tryz.wide_ Tryz.func46 rfl (by decide) rfl (fun X => ?_)
  repeat (first | refine sc rfl ?_ | refine so rfl ?_)
  first
    | refine O_loadP 0 (reads_box 0) rfl rfl rfl rfl rfl rfl ?_
    | refine O_loadP 1 (reads_box 0) rfl rfl rfl rfl rfl rfl ?_
    | refine O_loadP 2 (reads_box 0) rfl rfl rfl rfl rfl rfl ?_
    | refine O_loadP 3 (reads_box 0) rfl rfl rfl rfl rfl rfl ?_
    | refine O_loadP 4 (reads_box 0) rfl rfl rfl rfl rfl rfl ?_
  repeat refine sc rfl ?_
  refine O_Xd (X_ptrnil Tryz.underlying58 rfl rfl rfl) ?_
  repeat refine so rfl ?_
  cases u with
  | false =>
    refine C_true rfl rfl ?_
    repeat (first | refine sc rfl ?_ | refine so rfl ?_)
    refine O_Xd (X_unsafe 0 (v := .pointer none) Tryz.underlying58 Tryz.underlying180 (by kernel_rfl) rfl rfl rfl rfl rfl) ?_
    repeat refine sc rfl ?_
    refine O_Xd (X_noEscape Tryz.func84 (by kernel_rfl) (by kernel_rfl) (by kernel_rfl) (by kernel_rfl) rfl rfl rfl) ?_
    repeat refine sc rfl ?_
    refine O_Xd (X_fromUnsafe 0 Tryz.underlying180 Tryz.underlying58 rfl (by kernel_rfl) rfl rfl rfl rfl) ?_
    repeat refine so rfl ?_
    first
      | refine O_Xn (X_storeP 0 (writes_box (cells := [ptrU b false, .v h]) (o := 0) (Nat.lt_of_sub_eq_succ rfl)) rfl rfl rfl rfl rfl rfl rfl) ?_
      | refine O_Xn (X_storeP 1 (writes_box (cells := [ptrU b false, .v h]) (o := 0) (Nat.lt_of_sub_eq_succ rfl)) rfl rfl rfl rfl rfl rfl rfl) ?_
      | refine O_Xn (X_storeP 2 (writes_box (cells := [ptrU b false, .v h]) (o := 0) (Nat.lt_of_sub_eq_succ rfl)) rfl rfl rfl rfl rfl rfl rfl) ?_
      | refine O_Xn (X_storeP 3 (writes_box (cells := [ptrU b false, .v h]) (o := 0) (Nat.lt_of_sub_eq_succ rfl)) rfl rfl rfl rfl rfl rfl rfl) ?_
      | refine O_Xn (X_storeP 4 (writes_box (cells := [ptrU b false, .v h]) (o := 0) (Nat.lt_of_sub_eq_succ rfl)) rfl rfl rfl rfl rfl rfl rfl) ?_
    repeat refine so rfl ?_
    exact ⟨_, [_], _, rfl, pickA_perm (is := [0]) (As := [_]) rfl, rfl, rfl, rfl⟩
  | true =>
    refine C_false rfl rfl ?_
    repeat (first | refine sc rfl ?_ | refine so rfl ?_)
    first
      | refine O_loadP 0 (reads_box 0) rfl rfl rfl rfl rfl rfl ?_
      | refine O_loadP 1 (reads_box 0) rfl rfl rfl rfl rfl rfl ?_
      | refine O_loadP 2 (reads_box 0) rfl rfl rfl rfl rfl rfl ?_
      | refine O_loadP 3 (reads_box 0) rfl rfl rfl rfl rfl rfl ?_
      | refine O_loadP 4 (reads_box 0) rfl rfl rfl rfl rfl rfl ?_
    repeat refine so rfl ?_
    refine O_Xd (X_ptrneS Tryz.underlying58 rfl rfl rfl rfl rfl) ?_
    repeat refine so rfl ?_
    refine C_false rfl rfl ?_
    repeat refine sc rfl ?_
    exact ⟨_, [_], _, rfl, pickA_perm (is := [0]) (As := [_]) rfl, rfl, rfl, rfl⟩

def BldP (b : Nat) (l : List UInt8) (cs' : List Abs) : Prop := ∃ h, HdB h l ∧ cs' = [bldC b true h, bufA h 5 l]
theorem WriteString_A (b : Nat) (u : Bool) (h : Value) (l m : List UInt8) (hH : HdB h l) (hlen : l.length + m.length ≤ 140737488355328) :
    FnA Tryz.prog 24 [PT b 0, .s m] [bldC b u h, bufA h 5 l] (fun r cs' => r = .tup [I64 (m.length : Nat), .v .nilIface] ∧ BldP b (l ++ m) cs') := by
  refine FnA.intro Tryz.tabOK Tryz.wide_ Tryz.func24 rfl (by decide) rfl (fun X => ?_)
  repeat (first | refine sc rfl ?_ | refine so rfl ?_)
  refine O_callA [0] (copyCheck_A b u h) (by rfl) (by rfl) (by rfl) (by rfl) (by rfl) ?_
  rintro r cs' ⟨rfl, rfl⟩
  repeat (first | refine sc rfl ?_ | refine so rfl ?_)
  first
    | refine O_loadP 0 (reads_box 1) rfl rfl rfl rfl rfl rfl ?_
    | refine O_loadP 1 (reads_box 1) rfl rfl rfl rfl rfl rfl ?_
    | refine O_loadP 2 (reads_box 1) rfl rfl rfl rfl rfl rfl ?_
    | refine O_loadP 3 (reads_box 1) rfl rfl rfl rfl rfl rfl ?_
    | refine O_loadP 4 (reads_box 1) rfl rfl rfl rfl rfl rfl ?_
  repeat refine so rfl ?_
  first
    | refine O_appendT 0 Tryz.underlying42 Tryz.underlying9 rfl rfl rfl rfl rfl rfl rfl rfl hH hlen (fun v' hv' => ?_)
    | refine O_appendT 1 Tryz.underlying42 Tryz.underlying9 rfl rfl rfl rfl rfl rfl rfl rfl hH hlen (fun v' hv' => ?_)
  repeat refine so rfl ?_
  have fin : ∀ v', HdB v' (l ++ m) → BldP b (l ++ m) [bldC b true v', bufA v' 5 (l ++ m)] := fun v' h => ⟨v', h, rfl⟩
  have fv := fin v' hv'
  rcases hv' with ⟨rfl, hl⟩ | ⟨hl, g, cc, rfl⟩
  · skip
    first
      | refine O_Xn (X_storeP 0 (writes_box (cells := [ptrU b true, .v h]) (o := 1) (Nat.lt_of_sub_eq_succ rfl)) rfl rfl rfl rfl rfl rfl rfl) ?_
      | refine O_Xn (X_storeP 1 (writes_box (cells := [ptrU b true, .v h]) (o := 1) (Nat.lt_of_sub_eq_succ rfl)) rfl rfl rfl rfl rfl rfl rfl) ?_
      | refine O_Xn (X_storeP 2 (writes_box (cells := [ptrU b true, .v h]) (o := 1) (Nat.lt_of_sub_eq_succ rfl)) rfl rfl rfl rfl rfl rfl rfl) ?_
      | refine O_Xn (X_storeP 3 (writes_box (cells := [ptrU b true, .v h]) (o := 1) (Nat.lt_of_sub_eq_succ rfl)) rfl rfl rfl rfl rfl rfl rfl) ?_
      | refine O_Xn (X_storeP 4 (writes_box (cells := [ptrU b true, .v h]) (o := 1) (Nat.lt_of_sub_eq_succ rfl)) rfl rfl rfl rfl rfl rfl rfl) ?_
    repeat (first | refine sc rfl ?_ | refine so rfl ?_)
    exact ⟨_, [_, _], _, rfl, .refl _, rfl, rfl, fv⟩
  · skip
    first
      | refine O_Xn (X_storeP 0 (writes_box (cells := [ptrU b true, .v h]) (o := 1) (Nat.lt_of_sub_eq_succ rfl)) rfl rfl rfl rfl rfl rfl rfl) ?_
      | refine O_Xn (X_storeP 1 (writes_box (cells := [ptrU b true, .v h]) (o := 1) (Nat.lt_of_sub_eq_succ rfl)) rfl rfl rfl rfl rfl rfl rfl) ?_
      | refine O_Xn (X_storeP 2 (writes_box (cells := [ptrU b true, .v h]) (o := 1) (Nat.lt_of_sub_eq_succ rfl)) rfl rfl rfl rfl rfl rfl rfl) ?_
      | refine O_Xn (X_storeP 3 (writes_box (cells := [ptrU b true, .v h]) (o := 1) (Nat.lt_of_sub_eq_succ rfl)) rfl rfl rfl rfl rfl rfl rfl) ?_
      | refine O_Xn (X_storeP 4 (writes_box (cells := [ptrU b true, .v h]) (o := 1) (Nat.lt_of_sub_eq_succ rfl)) rfl rfl rfl rfl rfl rfl rfl) ?_
    repeat (first | refine sc rfl ?_ | refine so rfl ?_)
    exact ⟨_, [_, _], _, rfl, .refl _, rfl, rfl, fv⟩

theorem String_A (b : Nat) (u : Bool) (h : Value) (l : List UInt8) (hH : HdB h l) : FnA Tryz.prog 26 [PT b 0] [bldC b u h, bufA h 5 l] (fun r cs' => r = .s l ∧ cs' = []) := by
  refine FnA.intro Tryz.tabOK Tryz.wide_ Tryz.func26 rfl (by decide) rfl (fun X => ?_)
  repeat (first | refine sc rfl ?_ | refine so rfl ?_)
  rcases hH with ⟨rfl, rfl⟩ | ⟨hl, g, cc, rfl⟩
  · refine C_drawT 6 10 rfl (by kernel_rfl) (by kernel_rfl) ?_
    repeat refine sd rfl ?_
    refine D_X (.v (.slice none 0 0)) (X_loadP 0 (reads_box 1) rfl rfl rfl rfl rfl rfl) ?_
    repeat refine sd rfl ?_
    refine D_X (.v (.pointer none)) (X_sliceData0 rfl rfl rfl) ?_
    repeat refine sd rfl ?_
    refine D_X (.v (.slice none 0 0)) (X_loadP 0 (reads_box 1) rfl rfl rfl rfl rfl rfl) ?_
    repeat refine sd rfl ?_
    refine O_Xd (X_unsafeString0 rfl rfl rfl rfl) ?_
    repeat (first | refine sc rfl ?_ | refine so rfl ?_)
    exact ⟨_, [], _, rfl, .refl _, rfl, rfl, rfl⟩
  · refine C_drawT 6 10 rfl (by kernel_rfl) (by kernel_rfl) ?_
    repeat refine sd rfl ?_
    refine D_X (.v (HD g l.length cc)) (X_loadP 0 (reads_box 1) rfl rfl rfl rfl rfl rfl) ?_
    repeat refine sd rfl ?_
    refine D_X (PT g 0) (X_sliceData 1 rfl rfl rfl hl rfl) ?_
    repeat refine sd rfl ?_
    refine D_X (.v (HD g l.length cc)) (X_loadP 0 (reads_box 1) rfl rfl rfl rfl rfl rfl) ?_
    repeat refine sd rfl ?_
    refine O_Xd (X_unsafeString 1 Tryz.underlying129 (by kernel_rfl) rfl rfl rfl rfl hl rfl) ?_
    repeat (first | refine sc rfl ?_ | refine so rfl ?_)
    exact ⟨_, [], _, rfl, .refl _, rfl, rfl, rfl⟩
end Go.Proofs
