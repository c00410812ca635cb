/- What is read without a fault is not great: plain law. -/
import Derived.Test.YtgmdpfoccnalnaaGreatE10
import Derived.Test.YtgmdpfoccnalnaaGreatE5
import Derived.Test.YtgmdpfoccnalnaaGreatE3
import Derived.Test.YtgmdpfoccnalnaaGreatE4
import Derived.Laws.StructEq
import Derived.Test.YtgmdpfoccnalnaaGreatE8
import Derived.Test.YtgmdpfoccnalnaaGreatE9
set_option linter.unusedSimpArgs false
set_option linter.unusedVariables false
set_option maxRecDepth 100000
namespace Go.Proofs
open Go.Sy Go.Lib

theorem oneF_kind {s : List UInt8} {i : Nat} : ∀ t ∈ (oneF s i).2.2, t.kind ≠ 4 := by
  unfold oneF
  simp only []
  intro t ht
  split at ht
  · unfold wordF at ht
    simp only [] at ht
    split at ht
    · cases ht
    · simp only [List.mem_singleton] at ht; subst ht; show (1 : Int) ≠ 4; decide
  · split at ht
    · unfold nmbF at ht
      simp only [] at ht
      split at ht
      · cases ht
      · split at ht
        · cases ht
        · simp only [List.mem_singleton] at ht; subst ht; show (2 : Int) ≠ 4; decide
    · split at ht
      · split at ht <;> cases ht
      · split at ht
        · cases ht
        · split at ht
          · cases ht
          · simp only [List.mem_singleton] at ht; subst ht; show (3 : Int) ≠ 4; decide
def EndT (ts : List Tok) : Prop := ∀ t ∈ ts, t.kind = 4 → t.text = []
theorem lexF_end {s : List UInt8} : ∀ (n i : Nat) (ts : List Tok), EndT ts → EndT (lexF s n i ts).2.2
  | 0, i, ts, h => h
  | n + 1, i, ts, h => by
    simp only [lexF]
    split
    · split
      · refine lexF_end n _ _ (fun t ht hk => ?_)
        rcases List.mem_append.1 ht with hm | hm
        · exact h t hm hk
        · exact absurd hk (oneF_kind t hm)
      · intro t ht; cases ht
    · intro t ht hk
      rcases List.mem_append.1 ht with hm | hm
      · exact h t hm hk
      · simp only [List.mem_singleton] at hm; subst hm; rfl
theorem tokF_end (s : List UInt8) : EndT (tokF s).2.2 := by
  unfold tokF
  split
  · intro t ht; cases ht
  · exact lexF_end _ _ _ (fun t ht => by cases ht)

section
variable {ts : List Tok} (hE : EndT ts)
theorem fewT_d : FewT (default : Ty) := .mk (Nat.zero_le _) (fun i hi => absurd hi (Nat.not_lt_zero _))
theorem fewT_n {k : Int} {nm : List UInt8} : FewT ⟨k, nm, []⟩ := .mk (Nat.zero_le _) (fun i hi => absurd hi (Nat.not_lt_zero _))
theorem fewT_1 {k : Int} {nm : List UInt8} {x : Ty} (h : FewT x) : FewT ⟨k, nm, [x]⟩ := .mk (by show 1 ≤ 1000; decide) (fun i hi => by
  obtain rfl : i = 0 := by have : i < 1 := hi; omega
  exact h)
theorem fewT_2 {k : Int} {nm : List UInt8} {x y : Ty} (h : FewT x) (h' : FewT y) : FewT ⟨k, nm, [x, y]⟩ := .mk (by show 2 ≤ 1000; decide) (fun i hi => by
  have h2 : i < 2 := hi
  rcases i with _ | _ | i
  · exact h
  · exact h'
  · omega)
theorem base_few {rec : Int → PS → Ty × PS} (hr : ∀ d p, FewT (rec d p).1) (deep : Int) (p : PS) : FewT (baseF ts rec deep p).1 := by
  unfold baseF
  split
  · exact fewT_n
  · split
    · exact fewT_1 (hr _ _)
    · split
      · exact fewT_2 (hr _ _) (hr _ _)
      · exact fewT_n
theorem typ_few : ∀ (n : Nat) (deep : Int) (p : PS), FewT (typF ts n deep p).1
  | 0, _, _ => fewT_d
  | n + 1, deep, p => by
    unfold typF
    split
    · exact fewT_n
    · split
      · exact fewT_1 (base_few (fun d p => typ_few n d p) _ _)
      · exact base_few (fun d p => typ_few n d p) _ _

theorem nowF_end {p : PS} (hE : EndT ts) (hp : p.i < ts.length) (h : (nowF ts p).kind = 4) : (nowF ts p).text = [] := hE _ (mem_getD hp) h
theorem num_bad {p : PS} (h : (nowF ts p).kind = 4) : (numP ts p).err ≠ 0 := by
  have h1 : (numB ts p).err ≠ 0 := by
    unfold numB
    rw [if_pos (by rw [h]; decide)]
    exact failF_err ts (by decide) p
  unfold numP
  rw [if_pos h1]; exact h1
theorem typ_keep : ∀ (n : Nat) (deep : Int) {p : PS}, p.err ≠ 0 → (typF ts n deep p).2.err ≠ 0
  | 0, _, _, h => h
  | n + 1, deep, p, h => by
    have hd : dpP ts deep p = p := by unfold dpP; split; exact failF_keep h; rfl
    unfold typF
    rw [hd, if_pos h]
    exact h
def RowK (ts : List Tok) (R : PS → Dcl → Dcl × PS) : Prop :=
  (∀ p d, p.i < ts.length → (nowF ts p).kind = 4 → (R p d).2.err ≠ 0) ∧ ∀ p d, (R p d).1.fields.length ≤ d.fields.length + 1 ∧ (R p d).1.methods.length ≤ d.methods.length + 1 ∧ ((∀ f ∈ d.fields, FewT f.ty) → ∀ f ∈ (R p d).1.fields, FewT f.ty)
theorem fieldK : RowK ts (fieldR ts) := ⟨fun p d _ h => typ_keep 10 0 (need_keep (name_keep (num_bad h))), fun p d => ⟨by simp [fieldR], by simp [fieldR], fun hd f hf => by
  rcases List.mem_append.1 hf with hm | hm
  · exact hd f hm
  · simp only [List.mem_singleton] at hm; subst hm; exact typ_few 10 0 _⟩⟩
theorem enumK : RowK ts (enumR ts) := ⟨fun p d _ h => name_keep (num_bad h), fun p d => ⟨by simp [enumR], by simp [enumR], fun hd f hf => by
  rcases List.mem_append.1 hf with hm | hm
  · exact hd f hm
  · simp only [List.mem_singleton] at hm; subst hm; exact fewT_n⟩⟩
include hE in
theorem methK : RowK ts (methR ts) := ⟨fun p d hp h => by
  have ht := nowF_end hE hp h
  have hm : mayP ts [111, 110, 101, 119, 97, 121] p = p := by
    unfold mayP
    have : mayF ts [111, 110, 101, 119, 97, 121] p = false := by
      unfold mayF
      rw [ht]
      cases p.err == 0 <;> rfl
    rw [this]; rfl
  refine name_keep (need_keep (need_keep (name_keep (need_keep (name_keep ?_)))))
  unfold m1P
  rw [hm]
  exact num_bad h, fun p d => ⟨by simp [methR], by simp [methR], fun hd f hf => hd f hf⟩⟩

def FewW (d : Dcl) : Prop := d.fields.length ≤ 16 ∧ d.methods.length ≤ 16 ∧ ∀ f ∈ d.fields, FewT f.ty
theorem rows_few {R : PS → Dcl → Dcl × PS} (hR : RowK ts R) (hlt : ∀ (p : PS) (d : Dcl), p.i < ts.length → (R p d).2.i < ts.length) (hT : TsOK ts) : ∀ (n k : Nat) (p : PS) (d : Dcl), p.i < ts.length → (p.err = 0 → k ≤ 16) → d.fields.length ≤ k → d.methods.length ≤ k → (∀ f ∈ d.fields, FewT f.ty) → (rowsF ts R n k p d).2.err = 0 → FewW (rowsF ts R n k p d).1
  | 0, k, p, d, hp, hk, h1, h2, h3, he => ⟨Nat.le_trans h1 (hk he), Nat.le_trans h2 (hk he), h3⟩
  | n + 1, k, p, d, hp, hk, h1, h2, h3, he => by
    unfold rowsF at he ⊢
    by_cases h0 : p.err = 0
    · rw [if_pos h0] at he ⊢
      by_cases hm : mayF ts [125] p = true
      · rw [if_pos hm] at he ⊢
        exact ⟨Nat.le_trans h1 (hk h0), Nat.le_trans h2 (hk h0), h3⟩
      · rw [if_neg hm] at he ⊢
        have hk0 := hk h0
        have hb := body_lt hT (R := R) (k := k) (d := d) hlt hp
        have key : (((bodyF ts R k p d).2.err = 0 → k + 1 ≤ 16) ∧ (bodyF ts R k p d).1.fields.length ≤ k + 1 ∧ (bodyF ts R k p d).1.methods.length ≤ k + 1 ∧ ∀ f ∈ (bodyF ts R k p d).1.fields, FewT f.ty) := by
          unfold bodyF
          simp only []
          by_cases hc : k = 16 ∧ (nowF ts p).kind ≠ 4
          · rw [if_pos hc, if_neg (failF_err ts (by decide) p)]
            exact ⟨fun h => absurd h (failF_err ts (by decide) p), Nat.le_succ_of_le h1, Nat.le_succ_of_le h2, h3⟩
          · rw [if_neg hc, if_pos h0]
            obtain ⟨q1, q2, q3⟩ := hR.2 p d
            refine ⟨fun h => ?_, by simp only []; omega, by simp only []; omega, q3 h3⟩
            by_cases hk6 : k = 16
            · have h4 : (nowF ts p).kind = 4 := by
                by_cases h4 : (nowF ts p).kind = 4
                · exact h4
                · exact absurd ⟨hk6, h4⟩ hc
              exact absurd h (need_keep (hR.1 p d hp h4))
            · omega
        exact rows_few hR hlt hT n (k + 1) _ _ hb key.1 key.2.1 key.2.2.1 key.2.2.2 he
    · rw [if_neg h0] at he
      exact absurd he h0

include hE in
theorem headK (p : PS) : RowK ts (headF ts p).2.1 := by
  unfold headF
  repeat' split
  all_goals first
    | exact fieldK
    | exact enumK
    | exact methK hE
include hE in
theorem decl_few (hT : TsOK ts) {p : PS} (hp : p.i < ts.length) (he : (declF ts p).2.err = 0) : FewW (declF ts p).1 :=
  rows_few (headK hE p) (headRlt hT p) hT _ 0 _ _ (need_lt hT (name_lt hT (head_lt hT hp)) _) (fun _ => by omega) (Nat.le_refl _) (Nat.le_refl _) (fun f hf => by cases hf) he
include hE in
theorem par_few (hT : TsOK ts) : ∀ (n : Nat) (p : PS) (out : List Dcl), p.i < ts.length → out.length ≤ 16 → (p.err = 0 → ∀ d ∈ out, FewW d) → (parF ts n p out).2.err = 0 → (parF ts n p out).1.length ≤ 16 ∧ ∀ d ∈ (parF ts n p out).1, FewW d
  | 0, p, out, hp, hl, h, he => ⟨hl, h he⟩
  | n + 1, p, out, hp, hl, h, he => by
    unfold parF at he ⊢
    by_cases h0 : p.err = 0 ∧ (nowF ts p).kind ≠ 4
    · rw [if_pos h0] at he ⊢
      by_cases h16 : out.length = 16
      · rw [if_pos h16] at he
        exact absurd he (failF_err ts (by decide) p)
      · rw [if_neg h16] at he ⊢
        refine par_few hT n _ _ (decl_lt hT hp) (by rw [List.length_append, List.length_singleton]; omega) (fun h1 d hd => ?_) he
        rcases List.mem_append.1 hd with hm | hm
        · exact h h0.1 d hm
        · simp only [List.mem_singleton] at hm; subst hm; exact decl_few hE hT hp h1
    · rw [if_neg h0] at he ⊢
      exact ⟨hl, h he⟩
end
theorem parse_few {s : List UInt8} (h : (parseF s).2.1 = 0) : (parseF s).1.length ≤ 16 ∧ ∀ d ∈ (parseF s).1, FewW d := by
  unfold parseF at h ⊢
  split at h
  · rename_i h0; exact absurd h h0
  · rename_i h0
    have h0' : (tokF s).1 = 0 := Decidable.not_not.1 h0
    rw [if_neg h0]
    obtain ⟨hT, hpos⟩ := tokF_ok h0'
    exact par_few (tokF_end s) hT _ ⟨0, 0, 0⟩ [] hpos (Nat.zero_le _) (fun _ d hd => by cases hd) h
theorem FewW.toD {d : Dcl} (h : FewW d) : FewD d := ⟨⟨Nat.le_trans h.1 (by decide), fun i hi => h.2.2 _ (mem_getDf hi)⟩, Nat.le_trans h.2.1 (by decide)⟩
theorem parse_fewL {s : List UInt8} (h : (parseF s).2.1 = 0) : FewL (parseF s).1 :=
  ⟨Nat.le_trans (parse_few h).1 (by decide), fun i hi => ((parse_few h).2 _ (mem_getD hi)).toD⟩
theorem parse_prep {s : List UInt8} (h : (parseF s).2.1 = 0) (hW : WellL (parseF s).1) : Prep (parseF s).1 :=
  ⟨parse_fewL h, fun i hi => Nat.le_trans ((parse_few h).2 _ (mem_getD hi)).1 (by decide), fun i hi => (hW i hi).at_⟩
end Go.Proofs

namespace Go.Proofs
open Go.Sy Go.Lib

theorem fewU {l : List Dcl} {nm : List UInt8} (hP : Prep l) (hW : WellL l) (hex : ∃ Rs, RowsOK l Rs) : (rowsU l nm).length ≤ 1000 ∧ ∀ f, f ∈ rowsU l nm → FewT f.ty := by
  obtain ⟨Rs, hRs⟩ := hex
  rw [← rowsU_eq hW hRs]
  unfold rowsL
  cases hf : fndL nm l with
  | none => exact ⟨Nat.zero_le _, fun f h => by cases h⟩
  | some j =>
    have hj := fndL_lt hf
    have := (hRs.2 j hj).few (hP.few.2 j hj).f
    exact ⟨this.1, fun f h => by obtain ⟨i, hi, rfl⟩ := getD_mem h; exact this.2 i hi⟩

theorem tyOK0 (l : List Dcl) (b : Bool) {k : Int} (hk : k = 2 ∨ k = 4) : TyOK l b ⟨k, [], []⟩ := by
  refine .mk ?_ (fun _ => rfl) (fun h => ?_) (fun h => ?_) (fun h => ?_) (fun i hi => absurd hi (Nat.not_lt_zero _))
  · rcases hk with rfl | rfl <;> rfl
  all_goals (simp only [] at h; omega)
end Go.Proofs

namespace Go.Proofs
open Go.Sy Go.Lib

abbrev fvA (h : Value) (F : List Fld) : Abs := vecA h 65 5 F.length (fun i => Fld.c (F.getD i default))

abbrev drow (d : Dcl) (h : Value) : List AV := [I64 d.kind, .s d.name, .v h, SL 5 Mth.c d.methods, I64 d.fat]
abbrev hsD (hs : List Value) (i : Nat) : Value := hs.getD i (.slice none 0 0)
abbrev dvA (h : Value) (l : List Dcl) (hs : List Value) (n : Nat) : Abs := vecA h 60 5 n (fun i => drow (l.getD i default) (hsD hs i))

end Go.Proofs

namespace Go.Proofs
open Go.Sy Go.Lib

end Go.Proofs

namespace Go.Proofs
open Go.Sy Go.Lib

end Go.Proofs

namespace Go.Sy
open Go.RowKit Go.WideShapes Go.ChangeShapes

end Go.Sy

namespace Go.Proofs
open Go.Sy Go.Lib

end Go.Proofs

namespace Go.Sy
open Go.RowKit
section
variable {P : Program} {T : Tab} {X : Ctx P T} {n : Nat} {e : Env} {st : St} {a : Act} {w : World} {ops : Array Oper} {K : St → Prop}

end
end Go.Sy

namespace Go.Proofs
open Go.Sy Go.Lib

end Go.Proofs

namespace Go.Proofs
open Go.Sy Go.Lib

end Go.Proofs

namespace Go.Proofs
open Go.Sy Go.Lib

end Go.Proofs

namespace Go.Proofs
open Go.Sy Go.Lib

end Go.Proofs

namespace Go.Proofs
open Go.Sy Go.Lib

end Go.Proofs

namespace Go.Proofs
open Go.Sy Go.Lib

structure Val where
  kind : Int
  num : Int
  text : List UInt8
  tags : List Int
  items : List Val

instance : Inhabited Val := ⟨⟨0, 0, [], [], []⟩⟩
mutual
def Val.cells : Val → List AV
  | ⟨a0, a1, a2, a3, a4⟩ => [I64 a0, I64 a1, .s a2, SL 1 INTc a3, .sl a4.length 5 (Val.rows a4)]
def Val.rows : List Val → Nat → List AV
  | [], _ => []
  | x :: _, 0 => Val.cells x
  | _ :: xs, i + 1 => Val.rows xs i
end
def Val.c (x : Val) : List AV := [I64 x.kind, I64 x.num, .s x.text, SL 1 INTc x.tags, .sl x.items.length 5 (Val.rows x.items)]
theorem Val.rows_eq : ∀ (l : List Val) (i : Nat), i < l.length → Val.rows l i = Val.c (l.getD i default)
  | [], i, h => absurd h (Nat.not_lt_zero _)
  | ⟨a0, a1, a2, a3, a4⟩ :: xs, 0, _ => by simp only [Val.rows, Val.cells, Val.c, List.getD_cons_zero]
  | x :: xs, i + 1, h => by simp only [Val.rows, List.getD_cons_succ]; exact Val.rows_eq xs i (by simpa using h)
theorem items_lt {v : Val} {i : Nat} (h : i < v.items.length) : SizeOf.sizeOf (v.items.getD i default) < SizeOf.sizeOf v := by
  have h1 : v.items.getD i default ∈ v.items := by
    rw [List.getD_eq_getElem?_getD, List.getElem?_eq_getElem h]; exact List.getElem_mem h
  have h2 := List.sizeOf_lt_of_mem h1
  have h3 : SizeOf.sizeOf v.items < SizeOf.sizeOf v := by cases v; simp; omega
  omega
end Go.Proofs

namespace Go.Proofs
open Go.Sy Go.Lib

end Go.Proofs

namespace Go.Proofs
open Go.Sy Go.Lib

mutual
def Val.deep : Val → Nat
  | ⟨_, _, _, _, l⟩ => 1 + Val.deeps l
def Val.deeps : List Val → Nat
  | [] => 0
  | x :: xs => max (Val.deep x) (Val.deeps xs)
end
theorem deep_eq (v : Val) : v.deep = 1 + Val.deeps v.items := by cases v; rfl
theorem deeps_le {l : List Val} {d : Nat} (h : ∀ i, i < l.length → (l.getD i default).deep ≤ d) : Val.deeps l ≤ d := by
  induction l with
  | nil => exact Nat.zero_le _
  | cons x xs ih =>
    simp only [Val.deeps]
    have h0 := h 0 (by simp)
    have h1 := ih (fun i hi => by have := h (i + 1) (by simpa using hi); simpa using this)
    simp at h0
    omega

theorem drop_at {l : List Val} {i : Nat} (h : i < l.length) : l.drop i = l.getD i default :: l.drop (i + 1) := by
  rw [List.drop_eq_getElem_cons h, getD_at h]
end Go.Proofs

namespace Go.Proofs
open Go.Sy Go.Lib

def by_ (l : List UInt8) (i : Nat) : Nat := (l.getD i 0).toNat

def nb (i : Nat) : Nat := if i ≤ 1 then 63 else if i ≤ 2 then 4095 else if i ≤ 3 then 262143 else 16777215

end Go.Proofs

namespace Go.Proofs
open Go.Sy Go.Lib

theorem deeps_snoc (x : Val) : ∀ (l : List Val), Val.deeps (l ++ [x]) = max (Val.deeps l) x.deep
  | [] => by simp [Val.deeps]
  | y :: l => by simp only [List.cons_append, Val.deeps]; rw [deeps_snoc x l]; omega
theorem deeps_ge : ∀ {l : List Val} {i : Nat}, i < l.length → (l.getD i default).deep ≤ Val.deeps l
  | [], i, h => absurd h (Nat.not_lt_zero _)
  | x :: l, 0, _ => by simp only [Val.deeps, List.getD_cons_zero]; omega
  | x :: l, i + 1, h => by
    have := deeps_ge (l := l) (i := i) (by simpa using h)
    simp only [Val.deeps, List.getD_cons_succ]; omega

end Go.Proofs

namespace Go.Proofs
open Go.Sy Go.Lib

end Go.Proofs

namespace Go.Proofs
open Go.Sy Go.Lib

theorem Iter_rule {S R : Type} {body : S → Option (S ⊕ R)} (I : S → Prop) (m : S → Nat) (Q : R → Prop)
    (h : ∀ s, I s → (∃ s', body s = some (.inl s') ∧ I s' ∧ m s' < m s) ∨ ∃ r, body s = some (.inr r) ∧ Q r) (s : S) (hs : I s) : ∃ r, Iter body s = some r ∧ Q r := by
  suffices H : ∀ n s, m s < n → I s → ∃ r, Iter body s = some r ∧ Q r from H (m s + 1) s (Nat.lt_succ_self _) hs
  intro n
  induction n with
  | zero => intro s h0; omega
  | succ n ih =>
    intro s hn hs
    rcases h s hs with ⟨s', h1, h2, h3⟩ | ⟨r, h1, h2⟩
    · obtain ⟨r, h4, h5⟩ := ih s' (by omega) h2
      exact ⟨r, by rw [Iter_next h1]; exact h4, h5⟩
    · exact ⟨r, Iter_end h1, h2⟩

theorem cDT {α : Type} {p : Prop} [Decidable p] {x y : α} (h : p) : cond (decide p) x y = x := by rw [decide_eq_true h]; rfl
theorem cDF {α : Type} {p : Prop} [Decidable p] {x y : α} (h : ¬ p) : cond (decide p) x y = y := by rw [decide_eq_false h]; rfl

theorem Find_tot (l : List Dcl) (hl : l.length ≤ 1000) (nm : List UInt8) : Find_F l nm = some (fndZ nm l) := by
  unfold Find_F
  obtain ⟨r, h1, h2⟩ := Iter_rule (body := Find_L1 l nm) (fun s => 0 ≤ s ∧ s ≤ l.length ∧ ∀ j : Nat, (j : Int) < s → (l.getD j default).name ≠ nm) (fun s => l.length - s.toNat)
    (fun r => (∃ i : Nat, r = .inl (i : Int) ∧ fndL nm l = some i) ∨ (r = .inr () ∧ fndL nm l = none))
    (fun s hs => by
      obtain ⟨g1, g2, g3⟩ := hs
      unfold Find_L1
      by_cases c1 : s < (l.length : Int)
      · rw [cDT c1, chk_pos ⟨g1, c1⟩]
        by_cases c2 : (l.getD (Int.toNat s) default).name = nm
        · refine .inr ⟨.inl s, by rw [show ((l.getD (Int.toNat s) default).name == nm) = true from beq_iff_eq.2 c2]; rfl, .inl ⟨s.toNat, by congr 1; omega, fndL_first (by omega) (fun j hj => g3 j (by omega)) c2⟩⟩
        · refine .inl ⟨IntKind.i64.wrap (s + 1), by rw [show ((l.getD (Int.toNat s) default).name == nm) = false from beq_eq_false_iff_ne.2 c2]; rfl, ?_, ?_⟩
          · rw [w64 (by omega) (by omega)]
            refine ⟨by omega, by omega, fun j hj => ?_⟩
            by_cases hjs : (j : Int) < s
            · exact g3 j hjs
            · have : j = s.toNat := by omega
              subst this; exact c2
          · rw [w64 (by omega) (by omega)]; omega
      · rw [cDF c1]
        exact .inr ⟨.inr (), rfl, .inr ⟨rfl, fndL_none (fun j hj => g3 j (by omega))⟩⟩)
    0 ⟨by omega, by omega, fun j hj => by omega⟩
  rw [h1]
  rcases h2 with ⟨i, rfl, h3⟩ | ⟨rfl, h3⟩
  · simp [fndZ, h3]
  · simp [fndZ, h3]

structure RowsZ (F R : List Fld) : Prop where
  sub : ∀ x ∈ R, x ∈ F
  srt : R.Pairwise (fun a b => a.tag < b.tag)
  all : ∀ x ∈ F, 0 ≤ x.tag → ∃ y ∈ R, y.tag = x.tag

theorem pigeon : ∀ {A B : List Int}, A.Nodup → (∀ x ∈ A, x ∈ B) → A.length = B.length → ∀ x ∈ B, x ∈ A
  | [], B, _, _, h, x, hx => by
    have : B = [] := List.length_eq_zero_iff.1 (by simpa using h.symm)
    subst this; cases hx
  | a :: A, B, hn, hs, h, x, hx => by
    obtain ⟨hn1, hn2⟩ := List.nodup_cons.1 hn
    have ha : a ∈ B := hs a (by simp)
    have hle : (B.erase a).length = B.length - 1 := List.length_erase_of_mem ha
    have hpos : 0 < B.length := List.length_pos_of_mem ha
    have hl2 : A.length = (B.erase a).length := by simp only [List.length_cons] at h; omega
    by_cases hxa : x = a
    · subst hxa; simp
    · have := pigeon hn2 (B := B.erase a) (fun y hy => (List.mem_erase_of_ne (fun e : y = a => hn1 (e ▸ hy))).2 (hs y (by simp [hy]))) hl2 x ((List.mem_erase_of_ne hxa).2 hx)
      simp [this]

theorem nodup_len : ∀ {A B : List Int}, A.Nodup → (∀ x ∈ A, x ∈ B) → A.length ≤ B.length
  | [], B, _, _ => Nat.zero_le _
  | a :: A, B, hn, hs => by
    obtain ⟨hn1, hn2⟩ := List.nodup_cons.1 hn
    have ha : a ∈ B := hs a (by simp)
    have hle : (B.erase a).length = B.length - 1 := List.length_erase_of_mem ha
    have hpos : 0 < B.length := List.length_pos_of_mem ha
    have := nodup_len hn2 (B := B.erase a) (fun y hy => (List.mem_erase_of_ne (fun e : y = a => hn1 (e ▸ hy))).2 (hs y (by simp [hy])))
    simp only [List.length_cons]; omega

theorem pw_nodup {R : List Fld} (h : R.Pairwise (fun a b => a.tag < b.tag)) : (R.map (·.tag)).Nodup := by
  rw [List.Nodup, List.pairwise_map]
  exact h.imp (fun hab e => by omega)

theorem rows_done {F R : List Fld} (h1 : ∀ x ∈ R, x ∈ F) (h2 : R.Pairwise (fun a b => a.tag < b.tag)) (h3 : R.length = F.length) : RowsZ F R :=
  ⟨h1, h2, fun x hx _ => by
    have := pigeon (pw_nodup h2) (B := F.map (·.tag)) (fun t ht => by
      obtain ⟨y, hy, rfl⟩ := List.mem_map.1 ht
      exact List.mem_map.2 ⟨y, h1 y hy, rfl⟩) (by rw [List.length_map, List.length_map, h3]) x.tag (List.mem_map.2 ⟨x, hx, rfl⟩)
    obtain ⟨y, hy, e⟩ := List.mem_map.1 this
    exact ⟨y, hy, e⟩⟩

theorem mem_getD7 {α : Type} [Inhabited α] {l : List α} {i : Nat} (h : i < l.length) : l.getD i default ∈ l := by
  rw [getD_at h]; exact List.getElem_mem h
theorem getD_mem7 {α : Type} [Inhabited α] {l : List α} {x : α} (h : x ∈ l) : ∃ i, i < l.length ∧ l.getD i default = x := by
  obtain ⟨i, hi, rfl⟩ := List.mem_iff_getElem.1 h
  exact ⟨i, hi, getD_at hi⟩

theorem Fld.eta (f : Fld) : (⟨f.tag, f.name, f.ty⟩ : Fld) = f := rfl

section
variable {l : List Dcl} {nm : List UInt8} {j : Nat} {F : List Fld}

theorem rows_L13 (hj : j < l.length) (hF : (l.getD j default).fields = F) (hFl : F.length ≤ 1000) (last : Int) (R : List Fld) :
    ∃ r, Iter (RowsR_L13 l nm (j : Nat) (last, R)) (-1, 0) = some r ∧ ((r = -1 ∧ ∀ i, i < F.length → (F.getD i default).tag ≤ last) ∨
      (∃ k : Nat, r = (k : Int) ∧ k < F.length ∧ last < (F.getD k default).tag ∧ ∀ i, i < F.length → last < (F.getD i default).tag → (F.getD k default).tag ≤ (F.getD i default).tag)) := by
  have hj2 : (0 : Int) ≤ (j : Int) ∧ (j : Int) < (l.length : Int) := ⟨by omega, by omega⟩
  refine Iter_rule (body := RowsR_L13 l nm (j : Nat) (last, R)) (fun s => 0 ≤ s.2 ∧ s.2 ≤ F.length ∧ ((s.1 = -1 ∧ ∀ i : Nat, (i : Int) < s.2 → (F.getD i default).tag ≤ last) ∨
      (∃ k : Nat, s.1 = (k : Int) ∧ (k : Int) < s.2 ∧ last < (F.getD k default).tag ∧ ∀ i : Nat, (i : Int) < s.2 → last < (F.getD i default).tag → (F.getD k default).tag ≤ (F.getD i default).tag))) (fun s => F.length - s.2.toNat) _ ?_ (-1, 0) ⟨by simp, by simp, .inl ⟨rfl, fun i hi => by simp only [] at hi; omega⟩⟩
  rintro ⟨nx, q⟩ ⟨g1, g2, g3⟩
  simp only [] at g1 g2 g3
  unfold RowsR_L13
  simp only [Int.toNat_natCast, hF]
  rw [chk_pos hj2]
  by_cases c1 : q < (F.length : Int)
  · rw [cDT c1, chk_pos hj2, chk_pos ⟨g1, c1⟩]
    obtain ⟨i, rfl⟩ : ∃ i : Nat, q = (i : Int) := ⟨q.toNat, by omega⟩
    simp only [Int.toNat_natCast]
    rw [w64 (x := (i : Int) + 1) (by omega) (by omega)]
    have step : ∀ P : Nat → Prop, (∀ i' : Nat, (i' : Int) < (i : Int) → P i') → P i → ∀ i' : Nat, (i' : Int) < (i : Int) + 1 → P i' := fun P h1 h2 i' hi' => by
      by_cases e : i' = i
      · subst e; exact h2
      · exact h1 i' (by omega)
    by_cases c2 : last < (F.getD i default).tag
    · rw [cDT c2]
      rcases g3 with ⟨rfl, g4⟩ | ⟨k, rfl, g4, g5, g6⟩
      · rw [cDT (by omega)]
        refine .inl ⟨_, rfl, ⟨by simp only []; omega, by simp only []; omega, .inr ⟨i, rfl, by simp only []; omega, c2, ?_⟩⟩, by simp only []; omega⟩
        exact step (fun i' => last < (F.getD i' default).tag → (F.getD i default).tag ≤ (F.getD i' default).tag) (fun i' hi' h => by have := g4 i' hi'; omega) (fun _ => Int.le_refl _)
      · rw [cDF (by omega), chk_pos hj2, chk_pos ⟨by omega, by omega⟩]
        simp only [Int.toNat_natCast]
        by_cases c3 : (F.getD i default).tag < (F.getD k default).tag
        · rw [cDT c3]
          refine .inl ⟨_, rfl, ⟨by simp only []; omega, by simp only []; omega, .inr ⟨i, rfl, by simp only []; omega, c2, ?_⟩⟩, by simp only []; omega⟩
          exact step (fun i' => last < (F.getD i' default).tag → (F.getD i default).tag ≤ (F.getD i' default).tag) (fun i' hi' h => by have := g6 i' hi' h; omega) (fun _ => Int.le_refl _)
        · rw [cDF c3]
          refine .inl ⟨_, rfl, ⟨by simp only []; omega, by simp only []; omega, .inr ⟨k, rfl, by simp only []; omega, g5, ?_⟩⟩, by simp only []; omega⟩
          exact step (fun i' => last < (F.getD i' default).tag → (F.getD k default).tag ≤ (F.getD i' default).tag) g6 (fun _ => by omega)
    · rw [cDF c2]
      refine .inl ⟨_, rfl, ⟨by simp only []; omega, by simp only []; omega, ?_⟩, by simp only []; omega⟩
      rcases g3 with ⟨rfl, g4⟩ | ⟨k, rfl, g4, g5, g6⟩
      · exact .inl ⟨rfl, step (fun i' => (F.getD i' default).tag ≤ last) g4 (by omega)⟩
      · exact .inr ⟨k, rfl, by simp only []; omega, g5, step (fun i' => last < (F.getD i' default).tag → (F.getD k default).tag ≤ (F.getD i' default).tag) g6 (fun h => absurd h c2)⟩
  · rw [cDF c1]
    refine .inr ⟨_, rfl, ?_⟩
    have : q = F.length := by omega
    subst this
    rcases g3 with ⟨rfl, g4⟩ | ⟨k, rfl, g4, g5, g6⟩
    · exact .inl ⟨rfl, fun i hi => g4 i (by omega)⟩
    · exact .inr ⟨k, rfl, by omega, g5, fun i hi => g6 i (by omega)⟩

theorem rows_L5 (hj : j < l.length) (hF : (l.getD j default).fields = F) (hFl : F.length ≤ 1000) :
    ∃ r, Iter (RowsR_L5 l nm (j : Nat)) (-1, []) = some r ∧ ∃ R, (r = .inl R ∨ r = .inr R) ∧ RowsZ F R := by
  have hj2 : (0 : Int) ≤ (j : Int) ∧ (j : Int) < (l.length : Int) := ⟨by omega, by omega⟩
  refine Iter_rule (body := RowsR_L5 l nm (j : Nat)) (fun s => (∀ x ∈ s.2, x ∈ F) ∧ (∀ x ∈ s.2, x.tag ≤ s.1) ∧ s.2.Pairwise (fun a b => a.tag < b.tag) ∧ (∀ x ∈ F, 0 ≤ x.tag → x.tag ≤ s.1 → ∃ y ∈ s.2, y.tag = x.tag) ∧ s.2.length ≤ F.length) (fun s => F.length - s.2.length) _ ?_ (-1, [])
    ⟨fun x hx => absurd hx (by simp), fun x hx => absurd hx (by simp), .nil, fun x _ h1 h2 => by simp only [] at h2; omega, Nat.zero_le _⟩
  rintro ⟨last, R⟩ ⟨g1, g2, g3, g4, g5⟩
  simp only [] at g1 g2 g3 g4 g5
  unfold RowsR_L5
  simp only [Int.toNat_natCast, hF]
  rw [chk_pos hj2]
  by_cases c1 : (R.length : Int) < (F.length : Int)
  · rw [cDT c1]
    obtain ⟨r, h1, h2⟩ := rows_L13 (nm := nm) hj hF hFl last R
    rw [h1, Option.bind_some]
    rcases h2 with ⟨rfl, h3⟩ | ⟨k, rfl, h3, h4, h5⟩
    · rw [cDT (by omega)]
      exact .inr ⟨_, rfl, R, .inl rfl, g1, g3, fun x hx h0 => by
        obtain ⟨i, hi, rfl⟩ := getD_mem7 hx
        exact g4 _ hx h0 (h3 i hi)⟩
    · rw [cDF (by omega), chk_pos hj2, chk_pos ⟨by omega, by omega⟩, chk_pos (by omega), chk_pos hj2, chk_pos ⟨by omega, by omega⟩]
      simp only [Int.toNat_natCast]
      rw [Fld.eta]
      refine .inl ⟨_, rfl, ⟨fun x hx => ?_, fun x hx => ?_, ?_, fun x hx h6 h7 => ?_, ?_⟩, ?_⟩
      · rcases List.mem_append.1 hx with hx | hx
        · exact g1 x hx
        · simp only [List.mem_singleton] at hx; subst hx; exact mem_getD7 h3
      · simp only []
        rcases List.mem_append.1 hx with hx | hx
        · have := g2 x hx; omega
        · simp only [List.mem_singleton] at hx; subst hx; exact Int.le_refl _
      · simp only []
        refine List.pairwise_append.2 ⟨g3, by simp, fun a ha b hb => ?_⟩
        simp only [List.mem_singleton] at hb; subst hb
        have := g2 a ha; omega
      · simp only [] at h7 ⊢
        by_cases c : x.tag ≤ last
        · obtain ⟨y, hy, e⟩ := g4 x hx h6 c
          exact ⟨y, by simp [hy], e⟩
        · obtain ⟨i, hi, rfl⟩ := getD_mem7 hx
          have := h5 i hi (by omega)
          exact ⟨F.getD k default, List.mem_append.2 (.inr (List.mem_singleton.2 rfl)), by omega⟩
      · simp only [List.length_append, List.length_singleton]; omega
      · simp only [List.length_append, List.length_singleton]; omega
  · rw [cDF c1]
    exact .inr ⟨_, rfl, R, .inr rfl, rows_done g1 g3 (by omega)⟩
end

theorem RowsR_tot (l : List Dcl) (hl : FewL l) (nm : List UInt8) : ∃ R, RowsZ (fldsL l nm) R ∧ RowsR_F l nm = some R := by
  unfold RowsR_F
  rw [Find_tot l hl.1 nm, Option.bind_some]
  cases hf : fndL nm l with
  | none =>
    rw [cDT (by simp [fndZ, hf])]
    refine ⟨[], ?_, rfl⟩
    rw [show fldsL l nm = [] by simp [fldsL, hf]]
    exact ⟨fun _ h => h, .nil, fun x hx => absurd hx (by simp)⟩
  | some j =>
    have hz : fndZ nm l = (j : Nat) := by simp [fndZ, hf]
    have hfl : fldsL l nm = (l.getD j default).fields := by simp [fldsL, hf]
    rw [hz, cDF (by omega), hfl]
    obtain ⟨r, h1, R, h2, h3⟩ := rows_L5 (nm := nm) (fndL_lt hf) rfl (hl.2 j (fndL_lt hf)).f.1
    rw [h1]
    rcases h2 with rfl | rfl
    · exact ⟨R, h3, rfl⟩
    · exact ⟨R, h3, rfl⟩
end Go.Proofs

namespace Go.Proofs
open Go.Sy Go.Lib

inductive Isof (l : List Dcl) : Ty → Val → Prop
  | flat {t : Ty} {v : Val} : 1 ≤ t.kind → t.kind ≤ 5 → Isof l t v
  | lst {t : Ty} {v : Val} : t.kind = 7 → Isof l t v
  | mp {t : Ty} {v : Val} : t.kind = 8 → Isof l t v
  | opt {t : Ty} {v : Val} : t.kind = 9 → Isof l (t.of.getD 0 default) v → Isof l t v
  | enm {t : Ty} {v : Val} : t.kind = 6 → kindL l t.name = 3 → Isof l t v
  | str {t : Ty} {v : Val} (g : Fld → Nat) : t.kind = 6 → kindL l t.name = 1 → (∀ f, f ∈ fldsL l t.name → f.ty.kind ≠ 9 → g f < v.items.length) → (∀ f, f ∈ fldsL l t.name → f.ty.kind ≠ 9 → Isof l f.ty (v.items.getD (g f) default)) → Isof l t v
  | uni {t : Ty} {v : Val} (f : Fld) : t.kind = 6 → kindL l t.name = 2 → f ∈ fldsL l t.name → 0 < v.items.length → Isof l f.ty (v.items.getD 0 default) → Isof l t v

theorem Isof.str' {l : List Dcl} {t : Ty} {v : Val} (h1 : t.kind = 6) (h2 : kindL l t.name = 1) (h : ∀ f, f ∈ fldsL l t.name → f.ty.kind ≠ 9 → ∃ i, i < v.items.length ∧ Isof l f.ty (v.items.getD i default)) : Isof l t v := by
  have key : ∀ f, ∃ i, f ∈ fldsL l t.name → f.ty.kind ≠ 9 → i < v.items.length ∧ Isof l f.ty (v.items.getD i default) := fun f => by
    by_cases hc : f ∈ fldsL l t.name ∧ f.ty.kind ≠ 9
    · obtain ⟨i, hi⟩ := h f hc.1 hc.2
      exact ⟨i, fun _ _ => hi⟩
    · exact ⟨0, fun a b => absurd ⟨a, b⟩ hc⟩
  exact Isof.str (fun f => Classical.choose (key f)) h1 h2 (fun f a b => (Classical.choose_spec (key f) a b).1) (fun f a b => (Classical.choose_spec (key f) a b).2)

theorem flds_facts {l : List Dcl} (hW : WellL l) (nm : List UInt8) : ((fldsL l nm).map (·.tag)).Nodup ∧ (∀ f, f ∈ fldsL l nm → 0 ≤ f.tag) ∧ (∀ f, f ∈ fldsL l nm → kindL l nm ≠ 3 → TyOK l false f.ty) := by
  unfold fldsL
  cases hf : fndL nm l with
  | none => exact ⟨by simp, fun f h => absurd h (by simp), fun f h => absurd h (by simp)⟩
  | some j =>
    have hj := fndL_lt hf
    have hd := hW j hj
    refine ⟨(List.nodup_append.1 hd.tags).1, fun f h => ?_, fun f h hk => ?_⟩
    · have := (hd.fs.rng f h).1
      unfold leastD at this
      split at this <;> omega
    · exact (hd.fs.ty f h (by simpa [kindL, hf] using hk)).1

noncomputable def rowsZ (l : List Dcl) (nm : List UInt8) : List Fld := (RowsR_F l nm).getD []
theorem RowsZ_c (l : List Dcl) (hl : FewL l) (nm : List UInt8) : RowsZ (fldsL l nm) (rowsZ l nm) ∧ FnP Tryz.prog 217 [SL 5 Dcl.c l, .s nm] (· = SL 5 Fld.c (rowsZ l nm)) := by
  obtain ⟨R, h1, h2⟩ := RowsR_tot l hl nm
  rw [rowsZ, h2]
  exact ⟨h1, RowsR_w l nm _ h2⟩
theorem fldsL_few {l : List Dcl} (hl : FewL l) (nm : List UInt8) : (fldsL l nm).length ≤ 1000 ∧ ∀ x ∈ fldsL l nm, FewT x.ty := by
  unfold fldsL
  cases hf : fndL nm l with
  | none => exact ⟨Nat.zero_le _, fun x hx => absurd hx (by simp)⟩
  | some j =>
    have h := (hl.2 j (fndL_lt hf)).f
    exact ⟨h.1, fun x hx => by obtain ⟨i, hi, rfl⟩ := getD_mem hx; exact h.2 i hi⟩
theorem rowsZ_len {l : List Dcl} (hl : FewL l) (nm : List UInt8) : (rowsZ l nm).length ≤ 1000 := by
  have h := (RowsZ_c l hl nm).1
  have := fldsL_few hl nm
  have h2 := nodup_len (pw_nodup h.srt) (B := (fldsL l nm).map (·.tag)) (fun t ht => by
    obtain ⟨f, hf, rfl⟩ := List.mem_map.1 ht
    exact List.mem_map.2 ⟨f, h.sub f hf, rfl⟩)
  simp at h2
  omega
theorem rowsZ_mem {l : List Dcl} (hl : FewL l) (hW : WellL l) (nm : List UInt8) (f : Fld) : f ∈ rowsZ l nm ↔ f ∈ fldsL l nm := by
  have h := (RowsZ_c l hl nm).1
  have hf := flds_facts hW nm
  constructor
  · exact h.sub f
  · intro hm
    obtain ⟨y, hy, hty⟩ := h.all f hm (hf.2.1 f hm)
    rw [← one_tag hf.1 (h.sub y hy) hm hty]
    exact hy

def ofF (k : Int) : Int := if k = 7 ∨ k = 9 then 1 else if k = 8 then 2 else if k < 1 ∨ 9 < k then -1 else 0

end Go.Proofs

namespace Go.Proofs
open Go.Sy Go.Lib

end Go.Proofs

namespace Go.Proofs
open Go.Sy Go.Lib

end Go.Proofs

namespace Go.Proofs
open Go.Sy Go.Lib

abbrev zV : Val := ⟨0, 0, [], [], []⟩
mutual
def plF (h : List UInt8 → Val × Bool) : Ty → Val × Bool
  | ⟨k, nm, l⟩ => if k = 6 then h nm else if (1 ≤ k ∧ k ≤ 5 ∧ l.length = 0) ∨ (k = 7 ∧ l.length = 1) ∨ (k = 8 ∧ l.length = 2) then (⟨k, 0, [], [], []⟩, true) else if k = 9 ∧ l.length = 1 then plsF h l else (zV, false)
def plsF (h : List UInt8 → Val × Bool) : List Ty → Val × Bool
  | [] => (zV, false)
  | x :: _ => plF h x
end
theorem plF_eq (h : List UInt8 → Val × Bool) (t : Ty) : plF h t = if t.kind = 6 then h t.name else if (1 ≤ t.kind ∧ t.kind ≤ 5 ∧ t.of.length = 0) ∨ (t.kind = 7 ∧ t.of.length = 1) ∨ (t.kind = 8 ∧ t.of.length = 2) then (⟨t.kind, 0, [], [], []⟩, true) else if t.kind = 9 ∧ t.of.length = 1 then plF h (t.of.getD 0 default) else (zV, false) := by
  obtain ⟨k, nm, l⟩ := t
  simp only [plF]
  by_cases h1 : k = 6
  · rw [if_pos h1, if_pos h1]
  rw [if_neg h1, if_neg h1]
  by_cases h2 : (1 ≤ k ∧ k ≤ 5 ∧ l.length = 0) ∨ (k = 7 ∧ l.length = 1) ∨ (k = 8 ∧ l.length = 2)
  · rw [if_pos h2, if_pos h2]
  rw [if_neg h2, if_neg h2]
  by_cases h3 : k = 9 ∧ l.length = 1
  · rw [if_pos h3, if_pos h3]
    cases l with
    | nil => simp at h3
    | cons x l => simp only [plsF, List.getD_cons_zero]
  · rw [if_neg h3, if_neg h3]
def fldF (g : Ty → Val × Bool) : List Fld → List Int → List Val → Val × Bool
  | [], tg, it => (⟨9, 0, [], tg, it⟩, true)
  | f :: fs, tg, it => if f.ty.kind = 9 then fldF g fs tg it else if (g f.ty).2 = true then fldF g fs (tg ++ [f.tag]) (it ++ [(g f.ty).1]) else (zV, false)
def firF (g : Ty → Val × Bool) : List Fld → Val × Bool
  | [] => (zV, false)
  | f :: fs => if (g f.ty).2 = true then (⟨10, 0, [], [f.tag], [(g f.ty).1]⟩, true) else firF g fs
noncomputable def namF (l : List Dcl) (g : Ty → Val × Bool) (nm : List UInt8) : Val × Bool :=
  if kindL l nm = 3 then (⟨6, ((rowsU l nm).getD 0 default).tag, [], [], []⟩, true) else if kindL l nm = 1 then fldF g (rowsU l nm) [] [] else if kindL l nm = 2 then firF g (rowsU l nm) else (zV, false)
noncomputable def byF (l : List Dcl) : Nat → Ty → Val × Bool
  | 0, _ => (zV, false)
  | d + 1, t => plF (namF l (byF l d)) t
noncomputable def typG (l : List Dcl) (t : Ty) : Nat → Nat → Val × Int
  | 0, _ => (zV, 0)
  | k + 1, n => if (byF l (n + 1) t).2 = true then ((byF l (n + 1) t).1, (n + 1 : Nat)) else typG l t k (n + 1)
noncomputable def strF (l : List Dcl) (nm : List UInt8) : Val × Int := if kindL l nm = 1 then typG l ⟨6, nm, []⟩ 8 0 else (zV, 0)

theorem fldF_ok {g : Ty → Val × Bool} : ∀ {R : List Fld} {tg : List Int} {it : List Val}, (∀ f, f ∈ R → f.ty.kind ≠ 9 → (g f.ty).2 = true) → (fldF g R tg it).2 = true
  | [], _, _, _ => rfl
  | f :: R, tg, it, h => by
    simp only [fldF]
    split
    · exact fldF_ok (fun f hf => h f (List.mem_cons_of_mem _ hf))
    · rename_i hk
      rw [if_pos (h f (List.mem_cons_self ..) hk)]
      exact fldF_ok (fun f hf => h f (List.mem_cons_of_mem _ hf))
theorem firF_ok {g : Ty → Val × Bool} {f : Fld} : ∀ {R : List Fld}, f ∈ R → (g f.ty).2 = true → (firF g R).2 = true
  | [], h, _ => by cases h
  | x :: R, h, hg => by
    simp only [firF]
    split
    · rfl
    · rename_i hx
      rcases List.mem_cons.1 h with rfl | h
      · exact absurd hg hx
      · exact firF_ok h hg

theorem rowsU_mem {l : List Dcl} (hW : WellL l) (hex : ∃ Rs, RowsOK l Rs) {nm : List UInt8} {f : Fld} : f ∈ rowsU l nm ↔ f ∈ fldsL l nm := by
  obtain ⟨Rs, hRs⟩ := hex
  rw [← rowsU_eq hW hRs]
  unfold rowsL fldsL
  cases hf : fndL nm l with
  | none => simp
  | some j =>
    have hj := fndL_lt hf
    exact ((hRs.2 j hj).facts (List.nodup_append.1 (hW j hj).tags).1).1 f

theorem arity_of {l : List Dcl} {b : Bool} {t : Ty} (h : TyOK l b t) : (t.of.length : Int) = arityL t.kind ∧ ∀ i, i < t.of.length → TyOK l true (t.of.getD i default) := by
  obtain ⟨h1, _, _, _, _, h6⟩ := h
  exact ⟨h1, h6⟩

theorem byF_ok (l : List Dcl) (hW : WellL l) (hex : ∃ Rs, RowsOK l Rs) : ∀ (d m : Nat) (t : Ty) (v : Val), SizeOf.sizeOf t ≤ m → (t.kind = 6 ∨ ∃ b, TyOK l b t) → Isof l t v → v.deep ≤ d → (byF l d t).2 = true
  | 0, _, t, v, _, _, _, hd => by rw [deep_eq] at hd; omega
  | d + 1, 0, t, v, hm, _, _, _ => by cases t; simp at hm
  | d + 1, m + 1, t, v, hm, hT, hI, hd => by
    have hitems : ∀ i, i < v.items.length → (v.items.getD i default).deep ≤ d := fun i hi => by
      have := deeps_ge hi
      rw [deep_eq] at hd; omega
    have hrec := fun (f : Fld) (hf : f ∈ fldsL l t.name) (hk : kindL l t.name ≠ 3) (v' : Val) (hI' : Isof l f.ty v') (hd' : v'.deep ≤ d) => byF_ok l hW hex d _ f.ty v' (Nat.le_refl _) (.inr ⟨_, (flds_facts hW t.name).2.2 f hf hk⟩) hI' hd'
    simp only [byF]
    rw [plF_eq]
    cases hI with
    | flat h1 h2 =>
      obtain ⟨b, hT⟩ := hT.resolve_left (by omega)
      have ha := (arity_of hT).1
      rw [if_neg (by omega), if_pos]
      left
      refine ⟨h1, h2, ?_⟩
      obtain h | h | h | h | h : t.kind = 1 ∨ t.kind = 2 ∨ t.kind = 3 ∨ t.kind = 4 ∨ t.kind = 5 := by omega
      all_goals (rw [h] at ha; have e : (t.of.length : Int) = 0 := ha; omega)
    | lst h =>
      obtain ⟨b, hT⟩ := hT.resolve_left (by omega)
      have ha := (arity_of hT).1
      rw [h] at ha
      have e : (t.of.length : Int) = 1 := ha
      rw [if_neg (by omega), if_pos (.inr (.inl ⟨h, by omega⟩))]
    | mp h =>
      obtain ⟨b, hT⟩ := hT.resolve_left (by omega)
      have ha := (arity_of hT).1
      rw [h] at ha
      have e : (t.of.length : Int) = 2 := ha
      rw [if_neg (by omega), if_pos (.inr (.inr ⟨h, by omega⟩))]
    | opt h hI =>
      obtain ⟨b, hT⟩ := hT.resolve_left (by omega)
      have ha := (arity_of hT).1
      rw [h] at ha
      have e : (t.of.length : Int) = 1 := ha
      rw [if_neg (by omega), if_neg (by omega), if_pos ⟨h, by omega⟩]
      exact byF_ok l hW hex (d + 1) m (t.of.getD 0 default) v (by have := of_lt (t := t) (i := 0) (by omega); omega) (.inr ⟨true, (arity_of hT).2 0 (by omega)⟩) hI hd
    | enm h hk =>
      rw [if_pos h, namF, if_pos hk]
    | str g h hk h1 h2 =>
      rw [if_pos h, namF, if_neg (by omega), if_pos hk]
      refine fldF_ok (fun f hf hne => ?_)
      have hf' := (rowsU_mem hW hex).1 hf
      exact hrec f hf' (by omega) _ (h2 f hf' hne) (hitems _ (h1 f hf' hne))
    | uni f h hk hf h0 hI =>
      rw [if_pos h, namF, if_neg (by omega), if_neg (by omega), if_pos hk]
      exact firF_ok ((rowsU_mem hW hex).2 hf) (hrec f hf (by omega) _ hI (hitems 0 h0))

theorem typG_le {l : List Dcl} {t : Ty} {n : Nat} (h : (byF l n t).2 = true) : ∀ (k m : Nat), m + 1 ≤ n → n ≤ m + k → 1 ≤ (typG l t k m).2 ∧ (typG l t k m).2 ≤ n
  | 0, m, h1, h2 => by omega
  | k + 1, m, h1, h2 => by
    simp only [typG]
    split
    · simp only []; omega
    · rename_i hb
      by_cases e : n = m + 1
      · subst e; exact absurd h hb
      · exact typG_le h k (m + 1) (by omega) (by omega)
theorem strF_le {l : List Dcl} (hW : WellL l) (hex : ∃ Rs, RowsOK l Rs) {nm : List UInt8} {v : Val} (hk : kindL l nm = 1) (hI : Isof l ⟨6, nm, []⟩ v) (hd : v.deep ≤ 8) : 1 ≤ (strF l nm).2 ∧ (strF l nm).2 ≤ (v.deep : Nat) := by
  have h0 : 1 ≤ v.deep := by rw [deep_eq]; omega
  rw [strF, if_pos hk]
  exact typG_le (byF_ok l hW hex v.deep _ _ v (Nat.le_refl _) (.inl rfl) hI (Nat.le_refl _)) 8 0 h0 (by omega)
end Go.Proofs

namespace Go.Sy
open Go.RowKit

section
variable {P : Program} {T : Tab} {X : Ctx P T} {n : Nat} {e : Env} {st : St} {a : Act} {w : World} {ops : Array Oper} {K : St → Prop}

theorem RepL.setA {e : Env} {x y : AV} (h : ∀ v, Rep e x v → Rep e y v) : ∀ {cs : List AV} {j : Nat} {ys : List Value}, cs[j]? = some x → RepL e cs ys → RepL e (cs.set j y) ys
  | [], j, ys, hj, _ => by simp at hj
  | c :: cs, 0, ys, hj, r => by
    simp only [List.getElem?_cons_zero, Option.some.injEq] at hj
    subst hj
    simp only [RepL, List.set_cons_zero] at r ⊢
    obtain ⟨z, zs, e1, r1, r2, r3⟩ := r
    exact ⟨z, zs, e1, h _ r1, r2, r3⟩
  | c :: cs, j + 1, ys, hj, r => by
    simp only [List.getElem?_cons_succ] at hj
    simp only [RepL, List.set_cons_succ] at r ⊢
    obtain ⟨z, zs, e1, r1, r2, r3⟩ := r
    exact ⟨z, zs, e1, r1, r2, RepL.setA h hj r3⟩

theorem HeapOK.cell {e : Env} {w : World} {kk : Nat} {t0 : TypeId} {cells : List AV} {rest : List Ch} {j : Nat} {x y : AV} (h : HeapOK X e w (.box kk t0 cells :: rest)) (hj : cells[j]? = some x) (hxy : ∀ v, Rep e x v → Rep e y v) :
    HeapOK X e w (.box kk t0 (cells.set j y) :: rest) :=
  HeapOK.retell h (fun bs hb => by
    obtain ⟨h1, arr, h2, h3⟩ := hb
    exact ⟨h1, arr, h2, RepL.setA hxy hj h3⟩)

theorem Rel.newHd {s : List (Nat × AV)} {c : List Ch} (r : Rel X n e ⟨s, c⟩ a w) (d : Nat) (v : Value) (hf : freshS d s = true) (hc : freshC d c = true) : Rel X n { e with hd := upd e.hd d v } ⟨s, c⟩ a w := by
  have hnod : ∀ {x : AV}, x.no d = true → ∀ j, x.no j = false → j ≠ d := fun hx j hj he => by subst he; rw [hx] at hj; cases hj
  have hid : ∀ (q : Nat), q ≠ d → upd e.hd d v q = e.hd q := fun q hq => by simp [upd, hq]
  refine { r with slots := ?_, heap := ?_ }
  · intro j x hx
    obtain ⟨v', h1, h2⟩ := r.slots j x hx
    exact ⟨v', h1, Rep.mono (e := e) (f := { e with hd := upd e.hd d v }) (IM.le_refl _) x (fun q hq => ⟨rfl, hid q (hnod (freshS_get hf j x hx) q hq)⟩) h2⟩
  · refine HeapOK.grow r.heap (IM.le_refl _) (fun x hcm j hj => ⟨rfl, hid j ?_⟩) (fun b hb => rfl) (Nat.le_refl _) (fun b _ h => h)
    intro he; subst he; rw [freshC_mem hc x hcm] at hj; cases hj

theorem Le.cellNil {s : List (Nat × AV)} {c rest : List Ch} (b j d : Nat) {kk : Nat} {t0 : TypeId} {cells : List AV} (t : TypeId) (esz : Nat) (row : Nat → List AV) (hk : takeCh b c = some (.box kk t0 cells, rest)) (hj : cells[j]? = some (.v (.slice none 0 0)))
    (hf : freshS d s = true) (hc : freshC d c = true) : Le X n ⟨s, c⟩ ⟨s, .box kk t0 (cells.set j (.own d)) :: .vec d t esz 0 row :: rest⟩ := by
  intro e a w r
  have r1 := Rel.newHd r d (.slice none 0 0) hf hc
  have h1 := r1.heap.perm (takeCh_perm hk)
  have h2 := HeapOK.cell (y := .own d) h1 hj (fun v hv => by
    simp only [Rep] at hv ⊢
    subst hv
    exact ⟨by simp [upd], _, _, _, rfl⟩)
  have h3 := HeapOK.push (c' := .vec d t esz 0 row) (bs' := []) h2 (IM.le_refl _) (fun _ _ _ _ => ⟨rfl, rfl⟩) (fun b hb => rfl)
    ⟨by simp [upd, Value.ownBlock], [], by simp only [upd, if_true]; exact World.ownsRow_nil _ _ _ _, fun i hi => by omega⟩ (by simp) (by simp) (by simp) (Nat.le_refl _) (fun b _ h => h)
  exact ⟨_, { r1 with slots := r1.slots, heap := h3.perm (.swap _ _ _) }⟩

theorem Le.cellRename {s s2 : List (Nat × AV)} {c r1 r2 : List Ch} (b j k d : Nat) {kv kk : Nat} {t t0 : TypeId} {esz m : Nat} {row : Nat → List AV} {cells : List AV} (hk : takeCh k c = some (.vec kv t esz m row, r1)) (hb : takeCh b r1 = some (.box kk t0 cells, r2)) (hj : cells[j]? = some (.own k))
    (hs2 : subS s2 s) (hf : freshS d s2 = true) (hc : freshC d c = true) : Le X n ⟨s, c⟩ ⟨s2, .box kk t0 (cells.set j (.own d)) :: .vec d t esz m row :: r2⟩ := by
  intro e a w r
  have hkv : kv = k := kid_of_take hk
  subst hkv
  have r0 : Rel X n e ⟨s2, c⟩ a w := r.less (fun i x h => subS_get hs2 i x h) (fun h => h)
  have q1 := Rel.newHd r0 d (e.hd kv) hf hc
  have hp : c.Perm (.vec kv t esz m row :: .box kk t0 cells :: r2) := (takeCh_perm hk).trans (.cons _ (takeCh_perm hb))
  have hne : kv ≠ d := by
    intro h; subst h
    have := freshC_mem hc _ (hp.symm.subset (List.mem_cons_self ..))
    simp [Ch.no] at this
  have h1 := q1.heap.perm hp
  have h2 : HeapOK X { e with hd := upd e.hd d (e.hd kv) } w (.vec d t esz m row :: .box kk t0 cells :: r2) := HeapOK.retell h1 (fun bs hb => by
    obtain ⟨h1, xs, h2, h3⟩ := hb
    have e1 : upd e.hd d (e.hd kv) kv = e.hd kv := by simp [upd, hne]
    have e2 : upd e.hd d (e.hd kv) d = e.hd kv := by simp [upd]
    simp only [e1] at h1 h2
    exact ⟨by simp only [e2]; exact h1, xs, by simp only [e2]; exact h2, h3⟩)
  have h3 := HeapOK.cell (y := .own d) (h2.perm (.swap _ _ _)) hj (fun v hv => by
    simp only [Rep] at hv ⊢
    obtain ⟨rfl, hs⟩ := hv
    exact ⟨by simp [upd], hs⟩)
  exact ⟨_, { q1 with slots := q1.slots, heap := h3 }⟩

theorem Rel.freezeC {s : List (Nat × AV)} {c rest : List Ch} (r : Rel X n e ⟨s, c⟩ a w) {k kv : Nat} {t : TypeId} {esz m : Nat} {row : Nat → List AV} (hk : takeCh k c = some (.vec kv t esz m row, rest)) :
    ∃ f : Env, Rel X n f ⟨s, rest⟩ a w ∧ f.hd = e.hd ∧ RepI f.G (.sl m esz row) (e.hd k) := by
  have hkv : kv = k := kid_of_take hk
  subst hkv
  have hh := r.heap.perm (takeCh_perm hk)
  obtain ⟨bs, ⟨hbs, xs, g1, g2⟩, _, hgood⟩ := hh.head
  have base : ∀ (f : Env), IM.le e.G f.G → f.μ = e.μ → f.hd = e.hd → ImOK f.G w → (∀ b o v, f.G b o = some v → e.G b o = some v ∨ b ∈ bs) → f.G.m = e.G.m → Rel X n f ⟨s, rest⟩ a w := by
    intro f hle hμ hhd him hnew hmm
    refine { r with slots := ?_, heap := ?_, im := him.1, mz := him.2, newm := by rw [hmm]; exact r.newm, le := IM.le_trans r.le hle, new := ?_, fix := by rw [hμ]; exact r.fix }
    · intro j x hx
      obtain ⟨v, q1, q2⟩ := r.slots j x hx
      exact ⟨v, q1, Rep.mono (e := e) (f := f) hle x (fun q _ => by rw [hμ, hhd]; exact ⟨rfl, rfl⟩) q2⟩
    · obtain ⟨pl, p1, p2, p3, p4⟩ := hh
      cases pl with
      | nil => simp at p1
      | cons p pl =>
        simp only [List.map_cons, List.cons.injEq] at p1
        simp only [List.flatMap_cons] at p3 p4
        have hp := p2 p (List.mem_cons_self ..)
        rw [p1.1] at hp
        have hpb : p.2 = bs := by rw [hp.1, hbs]
        obtain ⟨q1, q2, q3⟩ := List.nodup_append.1 p3
        refine ⟨pl, p1.2, fun q hq => ChOK.keep (e := e) hle q.1 (fun j _ => by rw [hμ, hhd]; exact ⟨rfl, rfl⟩) (fun b _ => rfl) (p2 q (List.mem_cons_of_mem _ hq)), q2, fun b hb => ?_⟩
        obtain ⟨s1, s2, s3⟩ := p4 b (List.mem_append.2 (.inr hb))
        refine ⟨s1, s2, fun o => ?_, by rw [hmm]; exact s3.2⟩
        cases hg : f.G b o with
        | none => rfl
        | some v =>
          rcases hnew b o v hg with h | h
          · rw [s3.1 o] at h; cases h
          · rw [← hpb] at h; exact absurd rfl (q3 b h b hb)
    · intro b o v hv
      rcases hnew b o v hv with h | h
      · exact r.new b o v h
      · exact .inr (hgood b h).2.1
  rcases g1.2 with ⟨hnil, hm⟩ | ⟨g, cap, cur, hsl, _, hg, hcap, hmax, hcs, htake⟩
  · refine ⟨e, base e (IM.le_refl _) rfl rfl ⟨r.im, r.mz⟩ (fun b o v h => .inl h) rfl, rfl, ?_⟩
    simp only [RepI]
    exact ⟨none, 0, by rw [hnil, hm], by omega, .inl hm⟩
  · have hbs' : bs = [g] := by rw [hbs, hsl]; rfl
    have hGg : e.G.free g := (hgood g (by rw [hbs']; simp)).2.2
    let G' : IM := ⟨fun b o => if b = g ∧ o < m * esz then cur[o]? else e.G b o, e.G.m⟩
    have hle : IM.le e.G G' := by
      refine ⟨?_, fun _ _ h => h⟩
      intro b o v hv
      show (if b = g ∧ o < m * esz then cur[o]? else e.G b o) = some v
      rw [if_neg]
      · exact hv
      · rintro ⟨rfl, _⟩; rw [hGg.1 o] at hv; cases hv
    refine ⟨{ e with G := G' }, base _ hle rfl rfl ⟨?_, ?_⟩ ?_ rfl, rfl, ?_⟩
    · intro b o v hv
      have hv' : (if b = g ∧ o < m * esz then cur[o]? else e.G b o) = some v := hv
      split at hv'
      · rename_i hc
        obtain ⟨rfl, _⟩ := hc
        rw [cell_of_row w b o cur t (0, 0) hg]
        exact hv'
      · exact r.im b o v hv'
    · intro b x hx
      refine (r.mz b x hx).keep (H := G') hle rfl (fun o v hv => ?_)
      have hv' : (if b = g ∧ o < m * esz then cur[o]? else e.G b o) = some v := hv
      split at hv'
      · rename_i hc
        rw [hc.1, hGg.2] at hx; cases hx
      · exact ⟨v, hv'⟩
    · intro b o v hv
      have hv' : (if b = g ∧ o < m * esz then cur[o]? else e.G b o) = some v := hv
      split at hv'
      · rename_i hc; rw [hbs', hc.1]; exact .inr (by simp)
      · exact .inl hv'
    · simp only [RepI]
      refine ⟨some ⟨g, 0, none⟩, cap, hsl, hcap, .inr ⟨g, 0, rfl, fun q hq => CellsAt.mk (fun j c hc => ?_)⟩⟩
      obtain ⟨z, z1, z2, z3⟩ := (g2 q hq).get j c hc
      have hj : j < esz := by
        rcases Nat.lt_or_ge j esz with h | h
        · exact h
        · rw [List.getElem?_eq_none (by simp; omega)] at z1; cases z1
      have hlt : q * esz + j < m * esz := by
        have : (q + 1) * esz ≤ m * esz := Nat.mul_le_mul_right _ hq
        rw [Nat.add_mul] at this; omega
      refine ⟨z, ?_, RepI.mono hle c z2, z3⟩
      show (if g = g ∧ 0 + q * esz + j < m * esz then cur[0 + q * esz + j]? else e.G g (0 + q * esz + j)) = some z
      rw [Nat.zero_add, if_pos ⟨rfl, hlt⟩]
      rw [List.getElem?_take, if_pos hj, List.getElem?_drop, ← htake, List.getElem?_take, if_pos hlt] at z1
      simpa using z1

theorem Le.cellFreeze {s : List (Nat × AV)} {c r1 r2 : List Ch} (b j k : Nat) {kv kk : Nat} {t t0 : TypeId} {esz m : Nat} {row : Nat → List AV} {cells : List AV} (hk : takeCh k c = some (.vec kv t esz m row, r1)) (hb : takeCh b r1 = some (.box kk t0 cells, r2)) (hj : cells[j]? = some (.own k)) :
    Le X n ⟨s, c⟩ ⟨s, .box kk t0 (cells.set j (.sl m esz row)) :: r2⟩ := by
  intro e a w r
  obtain ⟨f, q1, q2, q3⟩ := Rel.freezeC r hk
  have h3 := HeapOK.cell (y := .sl m esz row) (q1.heap.perm (takeCh_perm hb)) hj (fun v hv => by
    simp only [Rep] at hv ⊢
    obtain ⟨rfl, _⟩ := hv
    rw [q2]
    exact q3)
  exact ⟨f, { q1 with slots := q1.slots, heap := h3 }⟩

theorem X_bsl {p : Pl} {Si : List (Nat × AV)} {c : List Ch} {i : Nat} {o : Oper} {el esz len : Nat} {cs : List AV} (hg : guardA ops ⟨Si, c⟩ o = some true) (hd : dstOK n o.dst = true) (hb : bslA T ⟨Si, c⟩ o.op = some (el, esz, len, cs)) :
    StepX X n ops p Si c c i o (.sl len esz (chunkRow esz cs)) :=
  StepX.val hg hd (fun e a w S r r' => by
    obtain ⟨arr, b1, b2, b3, b4⟩ := bslA_sound r' hb
    let G' : IM := ⟨fun b oo => if b = w.heap.size then arr.toList[oo]? else e.G b oo, e.G.m⟩
    have hlt : ∀ b o v, e.G b o = some v → b < w.heap.size := fun b o v h => Go.block_lt_of_cell (r.im b o v h)
    have hle : IM.le e.G G' := by
      refine ⟨?_, fun _ _ h => h⟩
      intro b o v hv
      show (if b = w.heap.size then arr.toList[o]? else e.G b o) = some v
      rw [if_neg (by have := hlt b o v hv; omega)]
      exact hv
    have hnew : (w.alloc (.cells arr el)).heap[w.heap.size]? = some (.cells arr el (0, 0)) := Go.heap_alloc_new w _
    have him : ImOK G' (w.alloc (.cells arr el)) := by
      refine ⟨?_, fun b x hx => (r.mz b x hx).keep (H := G') hle (Go.heap_alloc_old w _ (r.mz b x hx).lt) (fun o v hv => ⟨v, by
        have hv' : (if b = w.heap.size then arr.toList[o]? else e.G b o) = some v := hv
        rw [if_neg (by have := (r.mz b x hx).lt; omega)] at hv'
        exact hv'⟩)⟩
      intro b o v hv
      have hv' : (if b = w.heap.size then arr.toList[o]? else e.G b o) = some v := hv
      split at hv'
      · rename_i hb; subst hb
        rw [cell_of_row _ _ o arr el (0, 0) hnew]
        simpa using hv'
      · have h1 := r.im b o v hv'
        simp only [World.cell?] at h1 ⊢
        rw [Go.heap_alloc_old w _ (hlt b o v hv')]
        exact h1
    have r2 := r.after hle ⟨fun b o v hv => by
      have hv' : (if b = w.heap.size then arr.toList[o]? else e.G b o) = some v := hv
      split at hv'
      · rename_i hb; exact .inr (by omega)
      · exact .inl hv', fun _ _ h => .inl h⟩ him ⟨rfl, rfl, rfl, by simp, fun b hb _ => Go.heap_alloc_old w _ hb⟩
    refine ⟨_, _, _, b4 w, r2, ?_⟩
    simp only [Rep, RepI]
    refine ⟨_, len, rfl, Nat.le_refl _, .inr ⟨w.heap.size, 0, rfl, fun q hq => CellsAt.mk (fun j x hx => ?_)⟩⟩
    obtain ⟨z, z1, z2, z3⟩ := (b3 q hq).get j x hx
    have hj : j < esz := by
      rcases Nat.lt_or_ge j esz with h | h
      · exact h
      · rw [List.getElem?_eq_none (by simp; omega)] at z1; cases z1
    refine ⟨z, ?_, RepI.mono hle x z2, z3⟩
    show (if w.heap.size = w.heap.size then arr.toList[0 + q * esz + j]? else _) = some z
    rw [if_pos rfl, Nat.zero_add]
    rw [List.getElem?_take, if_pos hj, List.getElem?_drop] at z1
    exact z1)

theorem X_appendK {p : Pl} {dst : Nat} {so_ xo : Operand} {t ty : TypeId} {pos : String} {aft : Array Edge} {gd : Option (Nat × Bool)} {j : Nat} {Si : List (Nat × AV)} {c r1 : List Ch} {k : Nat} {el esz m m2 m3 : Nat} {row row2 row3 : Nat → List AV} {by_ : Nat} {sz0 b0 : Nat} {ag0 ag1 : Bool} {z0 z1 : List Value} {d1 : TD}
    (hTs : T t = some ⟨sz0, b0, ag0, z0, .slice el⟩) (hTe : T el = some ⟨esz, by_, ag1, z1, d1⟩) (hpos : Nat.blt 0 esz = true)
    (hg : guardA ops ⟨Si, c⟩ ⟨some dst, .call ⟨.builtin .append, #[so_, xo], #[t, t]⟩, ty, pos, aft, gd⟩ = some true)
    (hso : opd Si so_ = some (.own k)) (hk : takeCh k c = some (.vec k el esz m row, r1))
    (hxo : opd Si xo = some (.sl m2 esz row2)) (hr2 : ∀ i, i < m2 → (row2 i).length = esz)
    (hd : Nat.blt dst n = true) (hcre : (j, dst) ∈ p.cre) (hfc : freshC dst r1 = true) (hki : p.ki = [])
    (hlen : (m + m2) * by_ ≤ 140737488355328) (hlen2 : m + m2 ≤ maxLen)
    (hm3 : m3 = m + m2) (hrow3 : ∀ i, i < m3 → appRow m row row2 i = row3 i) :
    StepX X n ops p Si c (.vec dst el esz m3 row3 :: r1) j ⟨some dst, .call ⟨.builtin .append, #[so_, xo], #[t, t]⟩, ty, pos, aft, gd⟩ (.own dst) := by
  subst hm3
  intro e a w S K Q rS hS hcr hkk
  have r0 : Rel X n e ⟨Si, c⟩ a w := rS.less hS (fun h => h)
  rw [if_pos (guardA_sound r0 hg)]
  have hfree : ∀ k y, get S k = some y → y.no dst = true := fun k y h => hcr k y h (j, dst) hcre rfl
  have r : Rel X n e ⟨S.filter fun q => q.2.no dst, c⟩ a w := rS.less (fun k y h => get_unfilter hfree h) (fun h => h)
  obtain ⟨pi, z, i1, i2, i3, i4, i5, i6, i7⟩ := (X.ok _ _ hTe).info
  obtain ⟨dd, e1, _, e3⟩ := (X.ok _ _ hTs).desc
  simp only [TDOK] at e3
  subst e3
  have hso' := opd_sound r0 hso
  simp only [Rep] at hso'
  obtain ⟨hso', _⟩ := hso'
  have hh := r.heap.perm (takeCh_perm hk)
  obtain ⟨bs, ⟨hbs, xs, g1, g2⟩, _, hgood⟩ := hh.head
  have hzs : z.cells.size = esz := by
    have : z.cells.toList.length = esz := by rw [i5]; exact i7
    simpa using this
  have hpos' : 0 < esz := by have := hpos; simp [Nat.blt] at this; omega
  have hold : ∀ b, (e.hd k).ownBlock = some b → b < w.heap.size ∧ (X.w0.heap.size ≤ b ∨ b ∈ X.bs) ∧ e.G.free b := fun b hb => hgood b (by rw [hbs, hb]; simp)
  have hdis : ∀ b, (e.hd k).ownBlock = some b → ∀ pl : List (Ch × List Nat), pl.map (·.1) = r1 → (∀ p ∈ pl, ChOK e w p.1 p.2) → b ∉ pl.flatMap (·.2) := by
    intro b hb pl hpl hok hin
    obtain ⟨pl', p1, p2, p3, p4⟩ := hh
    cases pl' with
    | nil => simp at p1
    | cons p pl' =>
      simp only [List.map_cons, List.cons.injEq] at p1
      simp only [List.flatMap_cons] at p3
      have hp := p2 p (List.mem_cons_self ..)
      rw [p1.1] at hp
      have heq : pl' = pl := by
        have key : ∀ (l1 l2 : List (Ch × List Nat)), l1.map (·.1) = l2.map (·.1) → (∀ p ∈ l1, ChOK e w p.1 p.2) → (∀ p ∈ l2, ChOK e w p.1 p.2) → l1 = l2 := by
          intro l1
          induction l1 with
          | nil => intro l2 h _ _; cases l2 with
            | nil => rfl
            | cons _ _ => simp at h
          | cons q l1 ih =>
            intro l2 h h1 h2
            cases l2 with
            | nil => simp at h
            | cons q2 l2 =>
              simp only [List.map_cons, List.cons.injEq] at h
              have e1 := h1 q (List.mem_cons_self ..)
              have e2 := h2 q2 (List.mem_cons_self ..)
              rw [← h.1] at e2
              have : q.2 = q2.2 := by
                cases hc : q.1 with
                | box k T cells => rw [hc] at e1 e2; rw [e1.1, e2.1]
                | vec k T esz n row => rw [hc] at e1 e2; rw [e1.1, e2.1]
                | obj k o => rw [hc] at e1 e2; rw [e1.1, e2.1]
                | mapc k ks xs => rw [hc] at e1 e2; rw [e1.1, e2.1]
                | abs A => rw [hc] at e1 e2; rw [e1.1, e2.1]
              rw [ih l2 h.2 (fun p hp => h1 p (List.mem_cons_of_mem _ hp)) (fun p hp => h2 p (List.mem_cons_of_mem _ hp))]
              congr 1
              exact Prod.ext h.1 this
        exact key pl' pl (by rw [p1.2, hpl]) (fun p hp => p2 p (List.mem_cons_of_mem _ hp)) hok
      subst heq
      have := (List.nodup_append.1 p3).2.2 b (by rw [hp.1, hb]; simp) b hin
      exact this rfl
  have hrowsOut : ∀ {news : List Value}, RowsL e.G esz m2 row2 news → RowsL e.G esz (m + m2) row3 (xs ++ news) := fun hn i hi => by
    rw [← hrow3 i hi]; exact rows_app g1.1 g2 hn i hi
  have fin : ∀ {v' : Value}, UpdX p j (some dst) (.own dst) S ((dst, .own dst) :: S.filter fun q => q.2.no dst) := fun {v'} => by
    refine ⟨?_, ?_, ?_⟩
    · rintro d' h'
      cases h'
      rw [get_cons, if_pos rfl]
    · intro k y hne hy _
      rw [get_cons, if_neg (fun h => hne (by rw [h]))]
      exact get_filter hy (hfree k y hy)
    · intro k y hy
      rw [get_cons] at hy
      by_cases h : dst = k
      · rw [if_pos h] at hy
        simp only [Option.some.injEq] at hy
        exact .inl ⟨by rw [h], hy.symm⟩
      · rw [if_neg h] at hy; exact .inr (.inl (get_unfilter hfree hy))
  rcases src_sl hxo hr2 e a w r0 with ⟨ad, cc, news, hx, hl, hnews, h1, hrn⟩ | ⟨hm2, cc, hx⟩
  · obtain ⟨v', w', hr, q2, q3, q4⟩ := run_append_own (P := P) w 0 t ty el pi z esz by_ e1 i1 i4 i2 i3 hzs hpos' (e.hd k) m xs g1 ad m2 cc news hl hnews h1 hlen2 hlen (Nat.zero_le _)
    refine .inl ?_
    unfold Oper.wp
    have hrun : (execOp a.eval ⟨some dst, .call ⟨.builtin .append, #[so_, xo], #[t, t]⟩, ty, pos, aft, gd⟩).run P w = .ok (.value v') w' := by
      simp only [execOp, resolve, invoke, builtin, Sem.run_bind, Sem.run_pure, Result.andThen_ok, List.map_toArray, List.map_cons, List.map_nil, hso', hx, hr]
    rw [hrun]
    have hblk : ∀ b, v'.ownBlock = some b → b < w'.heap.size ∧ (some b = (e.hd k).ownBlock ∨ w.heap.size ≤ b) := by
      intro b hb
      refine ⟨(q2.lt b hb).2, ?_⟩
      simp only at i2 i3
      subst i2 i3
      exact append_block t ty el pi z e1 i1 i4 (e.hd k) m xs g1 ad m2 cc news hl hnews h1 hlen2 hlen hr b hb
    have r2 := r.vec (d := dst) (w' := w') (v' := v') (t := el) (esz := esz) (m := m + m2) (row := row3) (xs := xs ++ news) (s := S.filter fun q => q.2.no dst) (c := r1) (c' := r1) (e.hd k).ownBlock hd
      (fun i x hi => hi) (freshS_filter dst S) hfc hh.drop hold hdis q2 (hrowsOut hrn) q3 hblk
    exact hkk _ _ _ _ r2 (fin (v' := v'))
  · subst hm2
    have hrun0 := append_none t ty el pi e1 i1 (e.hd k) m xs g1 cc
    refine .inl ?_
    unfold Oper.wp
    have hrun : (execOp a.eval ⟨some dst, .call ⟨.builtin .append, #[so_, xo], #[t, t]⟩, ty, pos, aft, gd⟩).run P w = .ok (.value (e.hd k)) w := by
      simp only [execOp, resolve, invoke, builtin, Sem.run_bind, Sem.run_pure, Result.andThen_ok, List.map_toArray, List.map_cons, List.map_nil, hso', hx, hrun0]
    rw [hrun]
    have hrn : RowsL e.G esz 0 row2 ([] : List Value) := fun i hi => by omega
    have r2 := r.vec (d := dst) (w' := w) (v' := e.hd k) (t := el) (esz := esz) (m := m + 0) (row := row3) (xs := xs ++ []) (s := S.filter fun q => q.2.no dst) (c := r1) (c' := r1) (e.hd k).ownBlock hd
      (fun i x hi => hi) (freshS_filter dst S) hfc hh.drop hold hdis (by simpa using g1) (hrowsOut hrn) ⟨rfl, rfl, rfl, Nat.le_refl _, fun _ _ _ => rfl⟩ (fun b hb => ⟨(hold b hb).1, .inl hb.symm⟩)
    exact hkk _ _ _ _ r2 (fin (v' := e.hd k))
end
end Go.Sy

namespace Go.Sy
open Go.RowKit

section
variable {P : Program} {T : Tab} {X : Ctx P T} {n : Nat} {e : Env} {st : St} {a : Act} {w : World} {ops : Array Oper} {K : St → Prop}

def voidRP : RP := { R := fun _ _ => False, mono := fun _ _ h => h, one := fun h => h.elim }
abbrev VOID : AV := .p voidRP

theorem X_ifc {p : Pl} {t : TypeId} {dsc : TypeDesc} {x : Operand} {y : AV} {d : Option Nat} {ty : TypeId} {pos : String} {aft : Array Edge} {gd : Option (Nat × Bool)} {j : Nat} {Si : List (Nat × AV)} {c : List Ch}
    (hu : P.underlying t = some dsc) (hni : ∀ ms, dsc ≠ .interface ms)
    (hg : guardA ops ⟨Si, c⟩ ⟨d, .makeInterface t x, ty, pos, aft, gd⟩ = some true) (hx : opd Si x = some y) (hd : dstOK n d = true) :
    StepX X n ops p Si c c j ⟨d, .makeInterface t x, ty, pos, aft, gd⟩ (.ifc t y) :=
  StepX.val hg hd (fun e a w S r r' => by
    have h1 := opd_sound r' hx
    refine ⟨.iface t (a.eval x), w, e, ?_, r, by simp only [Rep]; exact ⟨_, rfl, h1⟩⟩
    have hun : (underlying t : Sem TypeDesc).run P w = .ok dsc w := by simp [underlying, hu]
    simp only [execOp, Instr.makeInterface, Sem.run_bind, hun, Result.andThen_ok]
    cases dsc <;> first | rfl | exact absurd rfl (hni _))
end
end Go.Sy

namespace Go.Sy
open Go.RowKit

theorem constA_soundI (G : IM) {v : Value} : RepI G (constA v) v := by
  cases v <;> simp [constA, RepI, S]
theorem zero_soundI (G : IM) : ∀ {zs : List Value}, zs.all (·.oneCell') = true → RepIL G (zs.map constA) zs
  | [], _ => by simp [RepIL]
  | z :: zs, h => by
    simp only [List.all_cons, Bool.and_eq_true] at h
    simp only [List.map_cons, RepIL]
    exact ⟨z, zs, rfl, constA_soundI G, h.1, zero_soundI G h.2⟩

section
variable {P : Program} {T : Tab} {X : Ctx P T} {n : Nat} {e : Env} {st : St} {a : Act} {w : World} {ops : Array Oper} {K : St → Prop}

theorem O_makeW {t el : TypeId} {by_ sz0 b0 esz : Nat} {ag0 ag1 : Bool} {z0 zs : List Value} {d1 : TD} {lo co : Operand} {d m : Nat} {ty : TypeId} {pos : String} {aft : Array Edge} {rest : List Oper} {s : List (Nat × AV)} {c : List Ch}
    (hTs : T t = some ⟨sz0, b0, ag0, z0, .slice el⟩) (hTe : T el = some ⟨esz, by_, ag1, zs, d1⟩) (hlo : opd s lo = some (I64 (m : Nat))) (hco : opd s co = some (I64 (m : Nat))) (hd : Nat.blt d n = true)
    (hzl : zs.length = esz) (hb : by_ * m ≤ 281474976710656) (hm : m ≤ maxLen)
    (k : ∀ b, SymO X n ops rest ⟨(d, .v (HD b m m)) :: s, .abs (vecA (HD b m m) el esz m (fun _ => zs.map constA)) :: c⟩ K) : SymO X n ops (⟨some d, .makeSlice t lo co, ty, pos, aft, none⟩ :: rest) ⟨s, c⟩ K := by
  intro e a w Q r hq
  unfold wpList
  rw [if_pos (guardA_sound r (o := ⟨some d, .makeSlice t lo co, ty, pos, aft, none⟩) (b := true) rfl)]
  refine .inl ?_
  have h1 := opd_sound r hlo
  have h2 := opd_sound r hco
  simp only [Rep] at h1 h2
  obtain ⟨pi, z, i1, i2, i3, i4, i5, i6, i7⟩ := (X.ok _ _ hTe).info
  obtain ⟨dd, e1, _, e3⟩ := (X.ok _ _ hTs).desc
  simp only [TDOK] at e3
  subst e3
  have hm63 : (m : Int) ≤ 9223372036854775807 := by simp [maxLen] at hm; omega
  have hbb : (pi.bytes : Int) * (m : Int) ≤ 281474976710656 := by
    have h : ((by_ * m : Nat) : Int) ≤ 281474976710656 := by omega
    rw [i3]; rwa [Int.natCast_mul] at h
  have hrun := run_make (P := P) w t el pi z e1 i1 i4 .i64 .i64 m m (by omega) (Int.le_refl _) hbb hm63
  simp only [Int.toNat_natCast] at hrun
  unfold Oper.wp
  have hrun2 : (execOp a.eval ⟨some d, .makeSlice t lo co, ty, pos, aft, none⟩).run P w = .ok (.value (HD w.heap.size m m)) (w.alloc (.cells (madeCells z.cells (m * pi.size)) el)) := by
    simp only [execOp, h1, h2, Sem.run_bind, hrun, Result.andThen_ok, Sem.run_pure]
  rw [hrun2]
  have hz : z.cells.toList = zs := i5
  have hsz : z.cells.size = esz := by rw [← hzl, ← hz]; simp
  have hcl : (madeCells z.cells (m * pi.size)).toList.length = m * esz := by rw [i2]; simp [madeCells]
  have r2 := r.allocAbs (A := vecA (HD w.heap.size m m) el esz m (fun _ => zs.map constA)) (o := .cells (madeCells z.cells (m * pi.size)) el) rfl (by
    refine ⟨(madeCells z.cells (m * pi.size)).toList, ⟨hcl, .inr ⟨w.heap.size, m, madeCells z.cells (m * pi.size), rfl, Nat.zero_le _, Go.heap_alloc_new w _, Nat.le_refl _, hm, by simpa using hcl, ?_⟩⟩, ?_⟩
    · rw [List.take_of_length_le (by omega)]
    · intro i hi
      have hrow : ((madeCells z.cells (m * pi.size)).toList.drop (i * esz)).take esz = zs := by
        apply List.ext_getElem?
        intro j
        rw [List.getElem?_take]
        by_cases hj : j < esz
        · rw [if_pos hj, List.getElem?_drop]
          have hlt : i * esz + j < m * esz := by
            have : (i + 1) * esz ≤ m * esz := Nat.mul_le_mul_right _ hi
            rw [Nat.add_mul, Nat.one_mul] at this
            omega
          have hmod : (i * esz + j) % esz = j := by rw [Nat.mul_comm, Nat.mul_add_mod, Nat.mod_eq_of_lt hj]
          rw [← hz, i2]
          simp [madeCells, hlt, hsz, hmod, hj]
        · rw [if_neg hj, List.getElem?_eq_none (by omega)]
      show RepIL e.G (zs.map constA) _
      rw [hrow]
      exact zero_soundI _ i6)
  exact k w.heap.size _ _ _ Q (r2.put (x := .v (HD w.heap.size m m)) hd (by simp only [Rep])) hq
end
end Go.Sy

namespace Go.Sy
open Go.RowKit

section
variable {P : Program} {T : Tab} {X : Ctx P T} {n : Nat} {e : Env} {st : St} {a : Act} {w : World} {ops : Array Oper} {K : St → Prop}

end
end Go.Sy

namespace Go.Sy
open Go.RowKit Go.MapKept
section
variable {P : Program} {T : Tab} {X : Ctx P T} {n : Nat} {ops : Array Oper}

end
end Go.Sy

namespace Go.Sy
open Go.RowKit
section
variable {P : Program} {T : Tab} {X : Ctx P T} {n : Nat} {e : Env} {st : St} {a : Act} {w : World} {ops : Array Oper} {K : St → Prop}

theorem X_callK (is : List Nat) {p : Pl} {f : FuncId} {dst : Nat} {args : Array Operand} {tys : Array TypeId} {ty : TypeId} {pos : String} {aft : Array Edge} {gd : Option (Nat × Bool)} {j : Nat} {avs : List AV} {cs : List Abs} {cr : List Ch} {x : AV}
    {Si : List (Nat × AV)} {c : List Ch} (hf : FnA P f avs cs (fun r cs' => r = x ∧ cs' = cs)) (hg : guardA ops ⟨Si, c⟩ ⟨some dst, .call ⟨.value (.func f), args, tys⟩, ty, pos, aft, gd⟩ = some true) (ha : opds Si args.toList = some avs) (himm : AV.imm.immL avs = true)
    (hp : pickA is c = some (cs, cr)) (hd : Nat.blt dst n = true) :
    StepX X n ops p Si c c j ⟨some dst, .call ⟨.value (.func f), args, tys⟩, ty, pos, aft, gd⟩ x :=
  (X_callA is hf hg ha himm hp hd).perm (pickA_perm hp).symm

def Invokes (P : Program) (t : TypeId) (name : String) (f : FuncId) : Prop := ∀ (v : Value) (args : Array Value) (w : World), (callMethod (.iface t v) name args).run P w = .ok (.enter f (#[v] ++ args)) w

theorem run_invoke {t : TypeId} {name : String} {f : FuncId} (hm : Invokes P t name f) {dst : Option Tmp} {x : Operand} {args : Array Operand} {tys : Array TypeId} {ty : TypeId} {pos : String} {aft : Array Edge} {gd : Option (Nat × Bool)} (ρ : Operand → Value)
    {v : Value} (hρ : ρ x = .iface t v) (w : World) :
    (execOp ρ ⟨dst, .call ⟨.invoke x name, args, tys⟩, ty, pos, aft, gd⟩).run P w = .ok (.enter f (#[v] ++ args.map ρ)) w := by
  simp only [execOp, resolve, hρ, Sem.run_bind, Sem.run_pure, Result.andThen_ok, invoke]
  have h1 : (args.map ρ).extract 0 args.size = args.map ρ := by
    apply Array.ext'
    simp [List.take_of_length_le]
  have h3 := hm v (args.map ρ) w
  have h0 : (#[Value.iface t v] ++ args.map ρ)[0]? = some (Value.iface t v) := by
    rw [Array.getElem?_append_left (show 0 < 1 by omega)]
    rfl
  split
  · rename_i recv heq
    have he : some recv = some (Value.iface t v) := heq.symm.trans h0
    cases he
    simpa [h1] using h3
  · rename_i hne
    exact absurd h0 (hne _)

theorem O_invoke (is : List Nat) {t : TypeId} {name : String} {y : AV} {f : FuncId} {xo : Operand} {dst : Nat} {args : Array Operand} {tys : Array TypeId} {ty : TypeId} {pos : String} {aft : Array Edge} {gd : Option (Nat × Bool)} {rest : List Oper} {avs : List AV} {cs : List Abs} {cr : List Ch} {post : AV → List Abs → Prop}
    {s : List (Nat × AV)} {c : List Ch} (hm : Invokes P t name f) (hf : FnA P f (y :: avs) cs post) (hxo : opd s xo = some (.ifc t y))
    (hg : guardA ops ⟨s, c⟩ ⟨some dst, .call ⟨.invoke xo name, args, tys⟩, ty, pos, aft, gd⟩ = some true) (ha : opds s args.toList = some avs) (himm : AV.imm.immL (y :: avs) = true)
    (hp : pickA is c = some (cs, cr)) (hd : Nat.blt dst n = true)
    (k : ∀ r cs', post r cs' → SymO X n ops rest ⟨(dst, r) :: s, cs'.map Ch.abs ++ cr⟩ K) :
    SymO X n ops (⟨some dst, .call ⟨.invoke xo name, args, tys⟩, ty, pos, aft, gd⟩ :: rest) ⟨s, c⟩ K := by
  intro e a w Q r hq
  unfold wpList
  rw [if_pos (guardA_sound r hg)]
  refine .inl ?_
  unfold Oper.wp
  have hi2 : y.imm = true ∧ AV.imm.immL avs = true := by simpa [AV.imm.immL] using himm
  have hx := opd_sound r hxo
  simp only [Rep] at hx
  obtain ⟨v, hv, hr⟩ := hx
  rw [run_invoke hm a.eval hv w, Oper.upon_enter]
  have h1 : RepIT e.G (y :: avs) (v :: args.toList.map a.eval) := by
    have h2 := RepT.toI avs hi2.2 (opds_sound r ha)
    simp only [RepIT]
    exact ⟨v, _, rfl, Rep.toI y hi2.1 hr, h2⟩
  have harr : #[v] ++ args.map a.eval = (v :: args.toList.map a.eval).toArray := by
    apply Array.ext'; simp
  rw [harr]
  refine (call_after (ops := ops) (Q := Q) hf r h1 (pickA_perm hp) hd k hq).mono ?_
  rintro en w' ⟨cv, rfl, h⟩
  exact h

theorem run_equalIn_ifc {t : TypeId} {ms : Array (String × TypeId)} (h : P.underlying t = some (.interface ms)) (tt : TypeId) (v : Value) (w : World) (d : Nat) : (Op.equalIn (d + 1) t (.iface tt v) .nilIface).run P w = .ok false w := by
  simp [Op.equalIn, run_underlying h]
theorem run_equal_ifc {t : TypeId} {ms : Array (String × TypeId)} (h : P.underlying t = some (.interface ms)) (tt : TypeId) (v : Value) (w : World) : (Op.equal t (.iface tt v) .nilIface).run P w = .ok false w := run_equalIn_ifc h tt v w 9999
theorem run_equalIn_nilifc {t : TypeId} {ms : Array (String × TypeId)} (h : P.underlying t = some (.interface ms)) (w : World) (d : Nat) : (Op.equalIn (d + 1) t .nilIface .nilIface).run P w = .ok true w := by
  simp [Op.equalIn, run_underlying h]
theorem run_equal_nilifc {t : TypeId} {ms : Array (String × TypeId)} (h : P.underlying t = some (.interface ms)) (w : World) : (Op.equal t .nilIface .nilIface).run P w = .ok true w := run_equalIn_nilifc h w 9999
theorem X_ifcnil {p : Pl} {t : TypeId} {ms : Array (String × TypeId)} {x : Operand} {tt : TypeId} {y : AV} {d : Option Nat} {uy ty : TypeId} {pos : String} {aft : Array Edge} {gd : Option (Nat × Bool)} {j : Nat} {Si : List (Nat × AV)} {c : List Ch} (hm : P.underlying t = some (.interface ms))
    (hg : guardA ops ⟨Si, c⟩ ⟨d, .binOp .eql t x (.const .nilIface) uy, ty, pos, aft, gd⟩ = some true) (hx : opd Si x = some (.ifc tt y)) (hd : dstOK n d = true) :
    StepX X n ops p Si c c j ⟨d, .binOp .eql t x (.const .nilIface) uy, ty, pos, aft, gd⟩ (B false) :=
  StepX.val hg hd (fun e a w S r r' => by
    have h1 := opd_sound r' hx
    simp only [Rep] at h1
    obtain ⟨v, hv, _⟩ := h1
    have hgd : (eqGuard .eql t x (.const .nilIface) (.iface tt v) .nilIface).run P w = .ok () w := rfl
    have hbin : (binOp .eql t (.iface tt v) .nilIface).run P w = ((Op.equal t (.iface tt v) .nilIface).run P w).andThen fun b w => .ok (.bool b) w := by
      simp [binOp, Sem.run_bind]
    refine ⟨.bool false, w, e, ?_, r, by simp [Rep]⟩
    have hc : a.eval (.const .nilIface) = .nilIface := rfl
    simp only [execOp, hv, hc, Sem.run_bind, hgd, Result.andThen_ok, hbin, run_equal_ifc hm, Sem.run_pure])
theorem X_nilifcnil {p : Pl} {t : TypeId} {ms : Array (String × TypeId)} {x : Operand} {d : Option Nat} {uy ty : TypeId} {pos : String} {aft : Array Edge} {gd : Option (Nat × Bool)} {j : Nat} {Si : List (Nat × AV)} {c : List Ch} (hm : P.underlying t = some (.interface ms))
    (hg : guardA ops ⟨Si, c⟩ ⟨d, .binOp .eql t x (.const .nilIface) uy, ty, pos, aft, gd⟩ = some true) (hx : opd Si x = some (.v .nilIface)) (hd : dstOK n d = true) :
    StepX X n ops p Si c c j ⟨d, .binOp .eql t x (.const .nilIface) uy, ty, pos, aft, gd⟩ (B true) :=
  StepX.val hg hd (fun e a w S r r' => by
    have h1 := opd_sound r' hx
    simp only [Rep] at h1
    have hgd : (eqGuard .eql t x (.const .nilIface) .nilIface .nilIface).run P w = .ok () w := by
      unfold eqGuard
      cases x <;> rfl
    have hbin : (binOp .eql t .nilIface .nilIface).run P w = ((Op.equal t .nilIface .nilIface).run P w).andThen fun b w => .ok (.bool b) w := by
      simp [binOp, Sem.run_bind]
    refine ⟨.bool true, w, e, ?_, r, by simp [Rep]⟩
    have hc : a.eval (.const .nilIface) = .nilIface := rfl
    simp only [execOp, h1, hc, Sem.run_bind, hgd, Result.andThen_ok, hbin, run_equal_nilifc hm, Sem.run_pure])
end
end Go.Sy

namespace Go.Sy
open Go.RowKit Go.MapKept

theorem perm_map_inv {α β : Type} {f : α → β} {l1 l2 : List β} (h : l1.Perm l2) : ∀ es : List α, l1 = es.map f → ∃ es' : List α, l2 = es'.map f ∧ es'.Perm es := by
  induction h with
  | nil => intro es h; exact ⟨[], rfl, by cases es with | nil => exact .refl _ | cons _ _ => simp at h⟩
  | cons x _ ih =>
    intro es h
    cases es with
    | nil => simp at h
    | cons e es =>
      simp only [List.map_cons, List.cons.injEq] at h
      obtain ⟨es', h1, h2⟩ := ih es h.2
      exact ⟨e :: es', by simp [h.1, h1], h2.cons e⟩
  | swap x y l =>
    intro es h
    match es, h with
    | [], h => simp at h
    | [_], h => simp at h
    | e1 :: e2 :: es, h =>
      simp only [List.map_cons, List.cons.injEq] at h
      exact ⟨e2 :: e1 :: es, by simp [h.1, h.2.1, h.2.2], .swap _ _ _⟩
  | trans _ _ ih1 ih2 =>
    intro es h
    obtain ⟨es1, h1, h2⟩ := ih1 es h
    obtain ⟨es2, h3, h4⟩ := ih2 es1 h1
    exact ⟨es2, h3, h4.trans h2⟩

def lkN (k : Int) : List (Int × Int) → Option Int
  | [] => none
  | (j, y) :: r => if j = k then some y else lkN k r
theorem lkN_mem {k y : Int} : ∀ {es : List (Int × Int)}, lkN k es = some y → (k, y) ∈ es
  | [], h => by simp [lkN] at h
  | (j, z) :: r, h => by
    simp only [lkN] at h
    split at h
    · rename_i hj; cases h; subst hj; exact List.mem_cons_self
    · exact List.mem_cons_of_mem _ (lkN_mem h)
theorem lkN_none {k : Int} : ∀ {es : List (Int × Int)}, lkN k es = none ↔ k ∉ es.map (·.1)
  | [] => by simp [lkN]
  | (j, z) :: r => by
    simp only [lkN, List.map_cons, List.mem_cons, not_or]
    split
    · rename_i hj; simp [hj]
    · rename_i hj
      rw [lkN_none]
      exact ⟨fun h => ⟨fun e => hj e.symm, h⟩, fun h => h.2⟩
theorem lkN_of {k y : Int} : ∀ {es : List (Int × Int)}, (es.map (·.1)).Nodup → (k, y) ∈ es → lkN k es = some y
  | [], _, h => by cases h
  | (j, z) :: r, hn, h => by
    simp only [List.map_cons, List.nodup_cons] at hn
    simp only [lkN]
    rcases List.mem_cons.1 h with h | h
    · cases h; rw [if_pos rfl]
    · rw [if_neg]
      · exact lkN_of hn.2 h
      · intro e; subst e
        exact hn.1 (List.mem_map.2 ⟨(j, y), h, rfl⟩)
theorem lkN_perm {k : Int} {es es' : List (Int × Int)} (hp : es'.Perm es) (hn : (es.map (·.1)).Nodup) : lkN k es' = lkN k es := by
  have hn' : (es'.map (·.1)).Nodup := (hp.map _).nodup_iff.2 hn
  cases h : lkN k es with
  | none => rw [lkN_none] at h ⊢; rw [(hp.map _).mem_iff]; exact h
  | some y => exact lkN_of hn' (hp.mem_iff.2 (lkN_mem h))
theorem lookE_lkN (k : Int) : ∀ es : List (Int × Int), lookE k (es.map fun q => (q.1, I64 q.2)) = (lkN k es).map I64
  | [] => rfl
  | (j, y) :: r => by
    simp only [List.map_cons, lookE, lkN]
    split
    · rfl
    · exact lookE_lkN k r

abbrev MPC (d : Nat) (es : List (Int × Int)) : Ch := .mapc d (es.map fun q => .int .i64 q.1) (es.map fun q => I64 q.2)
theorem mpc_zip : ∀ es : List (Int × Int), (es.map fun q => Value.int .i64 q.1).zip ((es.map fun q => I64 q.2).map vOf) = es.map fun q => (Value.int .i64 q.1, Value.int .i64 q.2)
  | [] => rfl
  | q :: es => by simp only [List.map_cons, List.zip_cons_cons, mpc_zip es]; rfl

section
variable {P : Program} {T : Tab} {X : Ctx P T} {n : Nat} {e : Env} {st : St} {a : Act} {w : World} {ops : Array Oper} {K : St → Prop}

theorem Rel.allocC (r : Rel X n e st a w) {d : Nat} (hd : Nat.blt d n = true) (hf : freshS d st.s = true) (hc : freshC d st.c = true) :
    Rel X n { e with μ := upd e.μ d w.heap.size } ⟨(d, .mp d) :: st.s, MPC d [] :: st.c⟩ (a.put (some d) (.map (some w.heap.size))) (w.alloc (.map #[] 0)) := by
  have hid : ∀ (k : Nat), k ≠ d → upd e.μ d w.heap.size k = e.μ k := fun k hk => by simp [upd, hk]
  have hnod : ∀ {x : AV}, x.no d = true → ∀ j, x.no j = false → j ≠ d := fun hx j hj he => by subst he; rw [hx] at hj; cases hj
  have hGlt : ∀ b o v, e.G b o = some v → b < w.heap.size := fun b o v h => by
    have := block_lt_of_cell (r.im b o v h); exact this
  have r1 : Rel X n { e with μ := upd e.μ d w.heap.size } ⟨st.s, MPC d [] :: st.c⟩ a (w.alloc (.map #[] 0)) :=
    { defers := r.defers
      size := r.size
      slots := fun i x h => by
        obtain ⟨v, h1, h2⟩ := r.slots i x h
        exact ⟨v, h1, Rep.mono (e := e) (f := { e with μ := upd e.μ d w.heap.size }) (IM.le_refl _) x (fun j hj => ⟨hid j (hnod (freshS_get hf i x h) j hj), rfl⟩) h2⟩
      im := fun b o v h => by
        have h1 := r.im b o v h
        have h2 := hGlt b o v h
        simp only [World.cell?] at h1 ⊢
        rw [Go.heap_alloc_old w _ h2]
        exact h1
      heap := by
        refine HeapOK.push r.heap (IM.le_refl _) (fun c hcm j hj => ⟨hid j ?_, rfl⟩) (fun b hb => Go.heap_alloc_old w _ hb) (bs' := [w.heap.size]) ?_ (by simp) (by simp) ?_ (by simp) (fun b _ h => h)
        · intro he; subst he; rw [freshC_mem hc c hcm] at hj; cases hj
        · refine ⟨by simp [upd], #[], 0, ?_, by simp, by simp, by simp⟩
          simp only [upd, if_true]; exact (MapKept.heap_alloc w _).1
        · intro b hb
          simp only [List.mem_singleton] at hb
          subst hb
          exact ⟨by simp, .inl r.sz, r.free (Nat.le_refl _)⟩
      mz := r.mzKeep (fun b hb _ => Go.heap_alloc_old w _ hb)
      newm := r.newm
      le := r.le
      new := r.new
      os := r.os
      tape := r.tape
      output := r.output
      sz := by have := r.sz; simp; omega
      keep := fun b hb hbs hs => by rw [Go.heap_alloc_old w _ (by have := r.sz; omega)]; exact r.keep b hb hbs hs
      fix := fun k hk => by rw [show ({ e with μ := upd e.μ d w.heap.size } : Env).μ k = e.μ k from hid k (by simp [Nat.blt] at hd; omega)]; exact r.fix k hk }
  exact r1.put (d := d) (x := .mp d) (v := .map (some w.heap.size)) hd (by simp [Rep, upd])

theorem Rel.turnC (r : Rel X n e st a w) {k : Nat} {ks ks' : List Value} {xs xs' : List AV} {rest : List Ch} {arr' : Array MapEntry} {cl' : Nat} (hk : takeCh k st.c = some (.mapc k ks xs, rest))
    (h1 : (arr'.toList.map fun en => (en.key, en.val)).Perm (ks'.zip (xs'.map vOf))) (h2 : (arr'.toList.map (·.born)).Nodup) (h3 : ∀ x ∈ arr'.toList, x.born < cl') :
    Rel X n e ⟨st.s, .mapc k ks' xs' :: rest⟩ a { w with heap := w.heap.setIfInBounds (e.μ k) (.map arr' cl') } := by
  have hh := r.heap.perm (takeCh_perm hk)
  obtain ⟨bs, ⟨hbs, arr, cl, g1, g2⟩, _, hgood⟩ := hh.head
  have hlt : e.μ k < w.heap.size := (Array.getElem?_eq_some_iff.1 g1).1
  have hother : ∀ b, b ≠ e.μ k → (w.heap.setIfInBounds (e.μ k) (.map arr' cl'))[b]? = w.heap[b]? := fun b hb => by simp [Ne.symm hb]
  have hGk : e.G.free (e.μ k) := (hgood (e.μ k) (by rw [hbs]; simp)).2.2
  refine { r with defers := r.defers, size := r.size, slots := r.slots, im := ?_, mz := r.mzKeep (fun b _ hb => hother b (fun he => hb (by rw [he]; exact hGk))), heap := ?_, os := r.os, tape := r.tape, output := r.output, sz := by simpa using r.sz, keep := ?_ }
  · intro b oo v h
    have hne : b ≠ e.μ k := fun he => by subst he; rw [hGk.1 oo] at h; cases h
    have h1 := r.im b oo v h
    simp only [World.cell?] at h1 ⊢
    rw [hother b hne]
    exact h1
  · refine HeapOK.update hh (IM.le_refl _) (fun _ _ _ _ => ⟨rfl, rfl⟩) ?_ (by simp) (fun _ _ _ h => h)
    intro bs' hc hnd hg
    obtain ⟨rfl, _⟩ := hc
    refine ⟨fun b _ hb => hother b (by simpa using hb), [e.μ k], ⟨rfl, arr', cl', by simp [hlt], h1, h2, h3⟩, by simp, fun b hb => .inl hb, fun b hb => ?_⟩
    obtain ⟨q1, q2, q3⟩ := hg b hb
    exact ⟨by simpa using q1, q2, q3⟩
  · intro b hb hbs' hs
    have hne : b ≠ e.μ k := by
      intro he
      subst he
      rcases (hgood (e.μ k) (by rw [hbs]; simp)).2.1 with h | h
      · omega
      · exact hbs' h
    show (w.heap.setIfInBounds (e.μ k) (.map arr' cl'))[b]? = _
    rw [hother b hne]
    exact r.keep b hb hbs' hs

theorem X_makeMapC {p : Pl} {mt : TypeId} {d : Nat} {ty : TypeId} {pos : String} {aft : Array Edge} {gd : Option (Nat × Bool)} {j : Nat} {Si : List (Nat × AV)} {c : List Ch}
    (hg : guardA ops ⟨Si, c⟩ ⟨some d, .makeMap mt none, ty, pos, aft, gd⟩ = some true) (hd : Nat.blt d n = true) (hcre : (j, d) ∈ p.cre) (hc : freshC d c = true) (hki : p.ki = []) :
    StepX X n ops p Si c (MPC d [] :: c) j ⟨some d, .makeMap mt none, ty, pos, aft, gd⟩ (.mp d) := by
  intro e a w S K Q r hS hcr hk
  have r0 : Rel X n e ⟨Si, c⟩ a w := r.less hS (fun h => h)
  rw [if_pos (guardA_sound r0 hg)]
  have hfree : ∀ k y, get S k = some y → y.no d = true := fun k y h => hcr k y h (j, d) hcre rfl
  have r1 : Rel X n e ⟨S.filter fun q => q.2.no d, c⟩ a w := r.less (fun k y h => get_unfilter hfree h) (fun h => h)
  have r2 := r1.allocC hd (freshS_filter d S) hc
  have hrun : (execOp a.eval ⟨some d, .makeMap mt none, ty, pos, aft, gd⟩).run P w = .ok (.value (.map (some w.heap.size))) (w.alloc (.map #[] 0)) := rfl
  refine .inl ?_
  unfold Oper.wp
  rw [hrun]
  refine hk _ _ _ _ r2 ⟨?_, ?_, ?_⟩
  · rintro d' h'
    cases h'
    rw [get_cons, if_pos rfl]
  · intro k y hne hy _
    rw [get_cons, if_neg (fun h => hne (by rw [h]))]
    exact get_filter hy (hfree k y hy)
  · intro k y hy
    rw [get_cons] at hy
    by_cases h : d = k
    · rw [if_pos h] at hy; cases hy; exact .inl ⟨by rw [h], rfl⟩
    · rw [if_neg h] at hy; exact .inr (.inl (get_unfilter hfree hy))

theorem chunk_list {w : World} {d : Nat} {es : List (Int × Int)} {bs : List Nat} (h : ChOK e w (MPC d es) bs) : ∃ (arr : Array MapEntry) (cl : Nat) (es' : List (Int × Int)), w.heap[e.μ d]? = some (.map arr cl) ∧ arr.toList.map (fun en => (en.key, en.val)) = es'.map (fun q => (Value.int .i64 q.1, Value.int .i64 q.2)) ∧ es'.Perm es ∧ (arr.toList.map (·.born)).Nodup ∧ ∀ x ∈ arr.toList, x.born < cl := by
  obtain ⟨_, arr, cl, g1, g2, g3, g4⟩ := h
  rw [mpc_zip] at g2
  obtain ⟨es', h1, h2⟩ := perm_map_inv g2.symm es rfl
  exact ⟨arr, cl, es', g1, h1, h2, g3, g4⟩
theorem pair_lists {arr : List MapEntry} {es : List (Int × Int)} (h : arr.map (fun en => (en.key, en.val)) = es.map (fun q => (Value.int .i64 q.1, Value.int .i64 q.2))) (G : IM) :
    arr.map (·.key) = (es.map fun q => (q.1, I64 q.2)).map (fun q => Value.int .i64 q.1) ∧ RepIT G ((es.map fun q => (q.1, I64 q.2)).map (·.2)) (arr.map (·.val)) := by
  induction arr generalizing es with
  | nil => cases es with
    | nil => simp [RepIT]
    | cons _ _ => simp at h
  | cons x arr ih => cases es with
    | nil => simp at h
    | cons q es =>
      simp only [List.map_cons, List.cons.injEq, Prod.mk.injEq] at h
      obtain ⟨h1, h2⟩ := ih h.2
      simp only [List.map_cons, RepIT, h.1.1, h1, List.cons.injEq, true_and]
      exact ⟨_, _, ⟨rfl, rfl⟩, by rw [h.1.2]; simp only [RepI], h2⟩

theorem X_insC {p : Pl} {kt et mt : TypeId} {d : Nat} {i v : Int} {es es2 : List (Int × Int)} {m x y : Operand} {ty : TypeId} {pos : String} {aft : Array Edge} {gd : Option (Nat × Bool)} {j : Nat} {Si : List (Nat × AV)} {c cr : List Ch}
    (hm : P.underlying mt = some (.map kt et)) (hkt : P.underlying kt = some (.int .i64))
    (hg : guardA ops ⟨Si, c⟩ ⟨none, .insert mt m x y, ty, pos, aft, gd⟩ = some true) (hmo : opd Si m = some (.mp d)) (hx : opd Si x = some (I64 i)) (hy : opd Si y = some (I64 v)) (hp : takeCh d c = some (MPC d es, cr)) (hn : i ∉ es.map (·.1)) (hes : es2.Perm ((i, v) :: es)) :
    StepX X n ops p Si c (MPC d es2 :: cr) j ⟨none, .insert mt m x y, ty, pos, aft, gd⟩ .bad :=
  StepX.skip hg rfl (fun e a w S r r' => by
    have h1 := opd_sound r' hmo
    have h2 := opd_sound r' hx
    have h3 := opd_sound r' hy
    simp only [Rep] at h1 h2 h3
    have hh := r.heap.perm (takeCh_perm hp)
    obtain ⟨bs, hch, _, _⟩ := hh.head
    obtain ⟨arr, cl, es', g1, g2, g3, g4, g5⟩ := chunk_list hch
    obtain ⟨q1, q2⟩ := pair_lists g2 e.G
    have hlk : lookE i (es'.map fun q => (q.1, I64 q.2)) = none := by
      rw [lookE_lkN, Option.map_eq_none_iff, lkN_none, (g3.map _).mem_iff]
      exact hn
    rcases find_map (intKey (P := P) hkt) e.G i arr.toList _ 0 q1 q2 with ⟨f1, f2⟩ | ⟨jj, en, xx, f1, f2, f3, f4, f5, f6⟩
    · have hf := run_findKey (w := w) (intKey (P := P) hkt).hd f1
      have hrun : (Instr.mapUpdate mt (.map (some (e.μ d))) (.int .i64 i) (.int .i64 v)).run P w = .ok () { w with heap := w.heap.setIfInBounds (e.μ d) (.map (arr.push ⟨.int .i64 i, .int .i64 v, cl⟩) (cl + 1)) } := by
        have hf' : (Instr.findKey kt (.int .i64 i) arr.toList).run P w = .ok none w := hf
        have hck : ∀ b, (Instr.checkKey b 10000 kt (.int .i64 i)).run P w = .ok () w := fun b => run_checkKey (intKey (P := P) hkt).hd ((intKey (P := P) hkt).ik i) b 9999
        simp [Instr.mapUpdate, run_underlying hm, MapKept.run_getObj_map g1, hck, hf', MapKept.run_setObj_map _ g1]
      refine ⟨_, e, by simp only [execOp, h1, h2, h3, Sem.run_bind, hrun, Result.andThen_ok, Sem.run_pure]; rfl, r.turnC (st := ⟨S, c⟩) hp ?_ ?_ ?_⟩
      · rw [mpc_zip]
        have e1 : (arr.push ⟨.int .i64 i, .int .i64 v, cl⟩).toList.map (fun en => (en.key, en.val)) = (es' ++ [(i, v)]).map (fun q => (Value.int .i64 q.1, Value.int .i64 q.2)) := by
          simp only [Array.toList_push, List.map_append, g2, List.map_cons, List.map_nil]
        rw [e1]
        refine List.Perm.map _ ?_
        exact (List.perm_append_comm (l₁ := es') (l₂ := [(i, v)])).trans ((g3.cons _).trans hes.symm)
      · simp only [Array.toList_push, List.map_append, List.map_cons, List.map_nil]
        refine List.nodup_append.2 ⟨g4, by simp, ?_⟩
        intro u hu v hv
        simp only [List.mem_singleton] at hv
        subst hv
        obtain ⟨xx, hxx, rfl⟩ := List.mem_map.1 hu
        exact Nat.ne_of_lt (g5 xx hxx)
      · intro xx hxx
        simp only [Array.toList_push, List.mem_append, List.mem_singleton] at hxx
        rcases hxx with hxx | rfl
        · exact Nat.lt_succ_of_lt (g5 xx hxx)
        · exact Nat.lt_succ_self _
    · rw [hlk] at f4; cases f4)

theorem X_lookC {p : Pl} {kt et mt : TypeId} {d : Nat} {i : Int} {es : List (Int × Int)} {m x : Operand} {dst : Option Nat} {pi : TypeInfo} {ty : TypeId} {pos : String} {aft : Array Edge} {gd : Option (Nat × Bool)} {j : Nat} {Si : List (Nat × AV)} {c cr : List Ch}
    (hm : P.underlying mt = some (.map kt et)) (hkt : P.underlying kt = some (.int .i64)) (hpi : P.info? et = some pi) (hz : pi.zero = some (.int .i64 0))
    (hg : guardA ops ⟨Si, c⟩ ⟨dst, .lookup mt m x false, ty, pos, aft, gd⟩ = some true) (hmo : opd Si m = some (.mp d)) (hx : opd Si x = some (I64 i)) (hp : takeCh d c = some (MPC d es, cr)) (hn : (es.map (·.1)).Nodup) (hd : dstOK n dst = true) :
    StepX X n ops p Si c c j ⟨dst, .lookup mt m x false, ty, pos, aft, gd⟩ (I64 ((lkN i es).getD 0)) :=
  StepX.val hg hd (fun e a w S r r' => by
    have h1 := opd_sound r' hmo
    have h2 := opd_sound r' hx
    simp only [Rep] at h1 h2
    have hh := r.heap.perm (takeCh_perm hp)
    obtain ⟨bs, hch, _, _⟩ := hh.head
    obtain ⟨arr, cl, es', g1, g2, g3, g4, g5⟩ := chunk_list hch
    obtain ⟨q1, q2⟩ := pair_lists g2 e.G
    have hlk : lookE i (es'.map fun q => (q.1, I64 q.2)) = (lkN i es).map I64 := by
      rw [lookE_lkN, lkN_perm g3 hn]
    have hzero : (zeroValue et).run P w = .ok (.int .i64 0) w := by simp [zeroValue, typeInfo, hpi, hz]
    have hck : ∀ b, (Instr.checkKey b 10000 kt (.int .i64 i)).run P w = .ok () w := fun b => run_checkKey (intKey (P := P) hkt).hd ((intKey (P := P) hkt).ik i) b 9999
    rcases find_map (intKey (P := P) hkt) e.G i arr.toList _ 0 q1 q2 with ⟨f1, f2⟩ | ⟨jj, en, xx, f1, f2, f3, f4, f5, f6⟩
    · have hf : (Instr.findKey kt (.int .i64 i) arr.toList).run P w = .ok none w := run_findKey (w := w) (intKey (P := P) hkt).hd f1
      rw [hlk] at f2
      have hno : lkN i es = none := Option.map_eq_none_iff.1 f2
      refine ⟨.int .i64 0, w, e, ?_, r, by rw [hno]; simp [Rep]⟩
      have hl : (Instr.lookup mt (.map (some (e.μ d))) (.int .i64 i) false).run P w = .ok (.int .i64 0) w := by
        simp [Instr.lookup, run_underlying hm, MapKept.run_getObj_map g1, hck, hf, hzero]
      simp only [execOp, h1, h2, Sem.run_bind, hl, Result.andThen_ok, Sem.run_pure]
    · have hf : (Instr.findKey kt (.int .i64 i) arr.toList).run P w = .ok (some (0 + jj, en.val)) w := run_findKey (w := w) (intKey (P := P) hkt).hd f1
      rw [hlk] at f4
      obtain ⟨z, hz1, rfl⟩ := Option.map_eq_some_iff.1 f4
      simp only [RepI] at f5
      refine ⟨en.val, w, e, ?_, r, by rw [hz1, f5]; simp [Rep]⟩
      have hl : (Instr.lookup mt (.map (some (e.μ d))) (.int .i64 i) false).run P w = .ok en.val w := by
        simp [Instr.lookup, run_underlying hm, MapKept.run_getObj_map g1, hck, hf]
      simp only [execOp, h1, h2, Sem.run_bind, hl, Result.andThen_ok, Sem.run_pure])
end
end Go.Sy

namespace Go.Proofs
open Go.Sy Go.Lib

noncomputable def BPlain_F (rec : Ty → Int → Option (Val × Bool)) (t : Ty) (d : Int) : Option (Val × Bool) :=
  Option.bind (α := Bool) (cond (decide (1 ≤ t.kind)) (cond (decide (t.kind ≤ 5)) (some ((t.of.length : Int) == 0)) (some false)) (some false)) (fun m1 => Option.bind (α := Bool) (cond m1 (some m1) (Option.bind (α := Bool) (cond (t.kind == 7) (some ((t.of.length : Int) == 1)) (some false)) (fun m6 => cond m6 (some m6) (cond (t.kind == 8) (some ((t.of.length : Int) == 2)) (some false))))) (fun m4 => cond m4 (some ((⟨t.kind, 0, [], ([] : List Int), ([] : List Val)⟩ : Val), true)) (Option.bind (α := Bool) (cond (t.kind == 9) (some ((t.of.length : Int) == 1)) (some false)) (fun m11 => cond m11 (chk ((0 : Int) ≤ 0 ∧ 0 < (t.of.length : Int)) (Option.bind (rec (t.of.getD (Int.toNat 0) default) d) (fun r15 => some (r15.1, r15.2)))) (some ((⟨0, 0, [], ([] : List Int), ([] : List Val)⟩ : Val), false))))))
theorem BPlain_w (b : Nat) (l : List Dcl) (rec : Ty → Int → Option (Val × Bool)) (t : Ty) (d : Int) (r : Val × Bool) (hrec : ∀ t d r, rec t d = some r → FnA Tryz.prog 132 [.cp [PT b 0], .agg (Ty.c t), I64 d] [dscS b l] (fun x cs' => x = .tup [.agg (Val.c r.1), B r.2] ∧ cs' = [dscS b l])) (h : BPlain_F rec t d = some r) : FnA Tryz.prog 203 [.cp [PT b 0], .agg (Ty.c t), I64 d] [dscS b l] (fun x cs' => x = .tup [.agg (Val.c r.1), B r.2] ∧ cs' = [dscS b l]) := by
  unfold BPlain_F at h
  refine FnA.intro Tryz.tabOK Tryz.wide_ Tryz.func203 rfl (by decide) rfl (fun X => ?_)
  iterate 2 refine sc rfl ?_
  first|refine so rfl ?_|refine sb rfl ?_
  refine O_le _ (Le.freezebox 4 rfl rfl rfl) ?_
  iterate 2 (first|refine so rfl ?_|refine sb rfl ?_)
  refine so rfl ?_
  iterate 4 refine sc rfl ?_
  obtain ⟨m1, hm1, h⟩ := bT h
  refine C_join ⟨[(0, .cp [PT b 0]), (2, I64 d), (4, .cp [I64 t.kind, .s t.name, .sl t.of.length 3 (Ty.rows t.of)]), (6, .bp 6 0), (8, B m1)], [.box 6 70 [I64 0, I64 0, .s [], NIL, NIL], .abs (dscS b l)]⟩ ?_ (fun s hm1s => C_le _ hm1s ?_)
  · refine sc rfl ?_
    iterate 4 (first|refine so rfl ?_|refine sb rfl ?_)
    refine O_case 12 rfl (fun hb2 => ?_) (fun hb2 => ?_)
    · replace hm1 := cT hb2 hm1
      iterate 5 (first|refine so rfl ?_|refine sb rfl ?_)
      refine O_case 17 rfl (fun hb3 => ?_) (fun hb3 => ?_)
      · replace hm1 := cT hb3 hm1
        iterate 2 (first|refine so rfl ?_|refine sb rfl ?_)
        refine O_le _ (Le.one 19 (SL 3 Ty.c t.of) rfl (.row (Ty.rows_eq _))) ?_
        iterate 4 (first|refine so rfl ?_|refine sb rfl ?_)
        refine so rfl ?_
        obtain rfl := Option.some.inj hm1
        exact Le.sub [6, 1000000] ⟨rfl, rfl, rfl, rfl, rfl, trivial⟩ rfl
      · replace hm1 := cF hb3 hm1
        iterate 6 (first|refine so rfl ?_|refine sb rfl ?_)
        refine so rfl ?_
        obtain rfl := Option.some.inj hm1
        exact Le.sub [6, 1000000] ⟨rfl, rfl, rfl, rfl, rfl, trivial⟩ rfl
    · replace hm1 := cF hb2 hm1
      iterate 11 (first|refine so rfl ?_|refine sb rfl ?_)
      refine so rfl ?_
      obtain rfl := Option.some.inj hm1
      exact Le.sub [6, 1000000] ⟨rfl, rfl, rfl, rfl, rfl, trivial⟩ rfl
  obtain ⟨m4, hm4, h⟩ := bT h
  refine C_join ⟨[(0, .cp [PT b 0]), (2, I64 d), (4, .cp [I64 t.kind, .s t.name, .sl t.of.length 3 (Ty.rows t.of)]), (6, .bp 6 0), (8, B m4)], [.box 6 70 [I64 0, I64 0, .s [], NIL, NIL], .abs (dscS b l)]⟩ ?_ (fun s hm4s => C_le _ hm4s ?_)
  · refine C_if rfl (fun hb5 => ?_) (fun hb5 => ?_)
    · replace hm4 := cT hb5 hm4
      refine sc rfl ?_
      obtain rfl := Option.some.inj hm4
      exact Le.sub [6, 1000000] ⟨rfl, rfl, rfl, rfl, rfl, trivial⟩ rfl
    · replace hm4 := cF hb5 hm4
      refine sc rfl ?_
      obtain ⟨m6, hm6, hm4⟩ := bT hm4
      refine C_join ⟨[(0, .cp [PT b 0]), (2, I64 d), (4, .cp [I64 t.kind, .s t.name, .sl t.of.length 3 (Ty.rows t.of)]), (6, .bp 6 0), (8, B m6)], [.box 6 70 [I64 0, I64 0, .s [], NIL, NIL], .abs (dscS b l)]⟩ ?_ (fun s hm6s => C_le _ hm6s ?_)
      · refine sc rfl ?_
        iterate 4 (first|refine so rfl ?_|refine sb rfl ?_)
        refine O_case 26 rfl (fun hb7 => ?_) (fun hb7 => ?_)
        · replace hm6 := cT hb7 hm6
          iterate 2 (first|refine so rfl ?_|refine sb rfl ?_)
          refine O_le _ (Le.one 28 (SL 3 Ty.c t.of) rfl (.row (Ty.rows_eq _))) ?_
          iterate 4 (first|refine so rfl ?_|refine sb rfl ?_)
          refine so rfl ?_
          obtain rfl := Option.some.inj hm6
          exact Le.sub [6, 1000000] ⟨rfl, rfl, rfl, rfl, rfl, trivial⟩ rfl
        · replace hm6 := cF hb7 hm6
          iterate 6 (first|refine so rfl ?_|refine sb rfl ?_)
          refine so rfl ?_
          obtain rfl := Option.some.inj hm6
          exact Le.sub [6, 1000000] ⟨rfl, rfl, rfl, rfl, rfl, trivial⟩ rfl
      refine C_if rfl (fun hb8 => ?_) (fun hb8 => ?_)
      · replace hm4 := cT hb8 hm4
        refine sc rfl ?_
        obtain rfl := Option.some.inj hm4
        exact Le.sub [6, 1000000] ⟨rfl, rfl, rfl, rfl, rfl, trivial⟩ rfl
      · replace hm4 := cF hb8 hm4
        refine sc rfl ?_
        iterate 4 (first|refine so rfl ?_|refine sb rfl ?_)
        refine O_case 35 rfl (fun hb9 => ?_) (fun hb9 => ?_)
        · replace hm4 := cT hb9 hm4
          iterate 2 (first|refine so rfl ?_|refine sb rfl ?_)
          refine O_le _ (Le.one 37 (SL 3 Ty.c t.of) rfl (.row (Ty.rows_eq _))) ?_
          iterate 4 (first|refine so rfl ?_|refine sb rfl ?_)
          refine so rfl ?_
          obtain rfl := Option.some.inj hm4
          exact Le.sub [6, 1000000] ⟨rfl, rfl, rfl, rfl, rfl, trivial⟩ rfl
        · replace hm4 := cF hb9 hm4
          iterate 6 (first|refine so rfl ?_|refine sb rfl ?_)
          refine so rfl ?_
          obtain rfl := Option.some.inj hm4
          exact Le.sub [6, 1000000] ⟨rfl, rfl, rfl, rfl, rfl, trivial⟩ rfl
  refine C_if rfl (fun hb10 => ?_) (fun hb10 => ?_)
  · replace h := cT hb10 h
    iterate 2 refine sc rfl ?_
    iterate 3 (first|refine so rfl ?_|refine sb rfl ?_)
    refine O_le _ (Le.agg 43 [I64 t.kind, I64 0, .s [], SL 1 INTc ([] : List Int), .sl ([] : List Val).length 5 (Val.rows ([] : List Val))] rfl (.cons .refl (.cons .refl (.cons .refl (.cons .nil (.cons .nil .nil)))))) ?_
    iterate 2 (first|refine so rfl ?_|refine sb rfl ?_)
    refine so rfl ?_
    refine sc rfl ?_
    obtain rfl := Option.some.inj h
    first
      | exact ⟨_, [_], _, rfl, pickA_perm (is := [0]) (As := [_]) rfl, rfl, rfl, rfl⟩
      | exact ⟨_, [_], _, rfl, pickA_perm (is := [1]) (As := [_]) rfl, rfl, rfl, rfl⟩
  · replace h := cF hb10 h
    refine sc rfl ?_
    obtain ⟨m11, hm11, h⟩ := bT h
    refine C_join ⟨[(0, .cp [PT b 0]), (2, I64 d), (4, .cp [I64 t.kind, .s t.name, .sl t.of.length 3 (Ty.rows t.of)]), (6, .bp 6 0), (44, B m11)], [.box 6 70 [I64 0, I64 0, .s [], NIL, NIL], .abs (dscS b l)]⟩ ?_ (fun s hm11s => C_le _ hm11s ?_)
    · refine sc rfl ?_
      iterate 4 (first|refine so rfl ?_|refine sb rfl ?_)
      refine O_case 48 rfl (fun hb12 => ?_) (fun hb12 => ?_)
      · replace hm11 := cT hb12 hm11
        iterate 2 (first|refine so rfl ?_|refine sb rfl ?_)
        refine O_le _ (Le.one 50 (SL 3 Ty.c t.of) rfl (.row (Ty.rows_eq _))) ?_
        iterate 4 (first|refine so rfl ?_|refine sb rfl ?_)
        refine so rfl ?_
        obtain rfl := Option.some.inj hm11
        exact Le.sub [6, 1000000] ⟨rfl, rfl, rfl, rfl, rfl, trivial⟩ rfl
      · replace hm11 := cF hb12 hm11
        iterate 6 (first|refine so rfl ?_|refine sb rfl ?_)
        refine so rfl ?_
        obtain rfl := Option.some.inj hm11
        exact Le.sub [6, 1000000] ⟨rfl, rfl, rfl, rfl, rfl, trivial⟩ rfl
    refine C_if rfl (fun hb13 => ?_) (fun hb13 => ?_)
    · replace h := cT hb13 h
      iterate 2 refine sc rfl ?_
      iterate 3 (first|refine so rfl ?_|refine sb rfl ?_)
      refine O_le _ (Le.one 56 (SL 3 Ty.c t.of) rfl (.row (Ty.rows_eq _))) ?_
      obtain ⟨g14, h⟩ := gT h
      refine so rfl (And.intro g14 ?_)
      first|refine so rfl ?_|refine sb rfl ?_
      first|refine so rfl ?_|refine sb rfl ?_
      obtain ⟨r15, hr16, h⟩ := bT h
      first
        | refine O_callA [0] (hrec _ _ _ hr16) (by rfl) (by rfl) (by rfl) (by rfl) (by rfl) ?_
        | refine O_callA [1] (hrec _ _ _ hr16) (by rfl) (by rfl) (by rfl) (by rfl) (by rfl) ?_
      rintro q17 cs' ⟨rfl, rfl⟩
      iterate 4 (first|refine so rfl ?_|refine sb rfl ?_)
      refine so rfl ?_
      refine sc rfl ?_
      obtain rfl := Option.some.inj h
      first
        | exact ⟨_, [_], _, rfl, pickA_perm (is := [0]) (As := [_]) rfl, rfl, rfl, rfl⟩
        | exact ⟨_, [_], _, rfl, pickA_perm (is := [1]) (As := [_]) rfl, rfl, rfl, rfl⟩
    · replace h := cF hb13 h
      iterate 3 refine sc rfl ?_
      first|refine so rfl ?_|refine sb rfl ?_
      refine O_le _ (Le.agg 63 [I64 0, I64 0, .s [], SL 1 INTc ([] : List Int), .sl ([] : List Val).length 5 (Val.rows ([] : List Val))] rfl (.cons .refl (.cons .refl (.cons .refl (.cons .nil (.cons .nil .nil)))))) ?_
      iterate 2 (first|refine so rfl ?_|refine sb rfl ?_)
      refine so rfl ?_
      refine sc rfl ?_
      obtain rfl := Option.some.inj h
      first
        | exact ⟨_, [_], _, rfl, pickA_perm (is := [0]) (As := [_]) rfl, rfl, rfl, rfl⟩
        | exact ⟨_, [_], _, rfl, pickA_perm (is := [1]) (As := [_]) rfl, rfl, rfl, rfl⟩
end Go.Proofs

namespace Go.Proofs
open Go.Sy Go.Lib

abbrev MK (b : Nat) : AV := .cp [PT b 0]
abbrev BR (b : Nat) (l : List Dcl) (x : Val × Bool) : AV → List Abs → Prop := fun r cs' => r = .tup [.agg (Val.c x.1), B x.2] ∧ cs' = [dscS b l]

theorem DRows_X (b : Nat) (l : List Dcl) (hP : Prep l) (hW : WellL l) (nm : List UInt8) : FnA Tryz.prog 25 [PT b 0, .s nm] [dscS b l] (fun r cs' => (r = SL 5 Fld.c (rowsU l nm) ∧ ∃ Rs, RowsOK l Rs) ∧ cs' = [dscS b l]) :=
  FnA_ex (φ := fun r => r = SL 5 Fld.c (rowsU l nm) ∧ ∃ Rs, RowsOK l Rs) (fun q hq => (DRows_A b l hP q hq nm).mono (fun r cs' ⟨Rs, h1, h2, h3⟩ => ⟨⟨by rw [h2, rowsU_eq hW h1], Rs, h1⟩, some Rs, fun _ h => by cases h; exact h1, h3⟩)) (DRows_A b l hP none (fun _ h => by cases h) nm).1

theorem plain_A (b : Nat) (l : List Dcl) (t : Ty) (h6 : t.kind ≠ 6) (d : Nat) (hd : d ≤ 1000) (h : List UInt8 → Val × Bool)
    (hby : 0 < t.of.length → FnA Tryz.prog 132 [MK b, .agg (Ty.c (t.of.getD 0 default)), I64 (d : Nat)] [dscS b l] (BR b l (plF h (t.of.getD 0 default)))) :
    FnA Tryz.prog 203 [MK b, .agg (Ty.c t), I64 (d : Nat)] [dscS b l] (BR b l (plF h t)) := by
  classical
  obtain ⟨rec_, hrec_⟩ : ∃ f : Ty → Int → Option (Val × Bool), f = fun (t' : Ty) (d' : Int) => if 0 < t.of.length ∧ t' = t.of.getD 0 default ∧ d' = ((d : Nat) : Int) then some (plF h t') else none := ⟨_, rfl⟩
  refine BPlain_w b l rec_ t (d : Nat) (plF h t) (fun t' d' r hr => ?_) ?_
  · rw [hrec_] at hr
    simp only [] at hr
    split at hr
    · rename_i hc
      obtain ⟨c1, rfl, rfl⟩ := hc
      obtain rfl := Option.some.inj hr
      exact hby c1
    · cases hr
  have b1 : cond (decide (1 ≤ t.kind)) (cond (decide (t.kind ≤ 5)) (some ((t.of.length : Int) == 0)) (some false)) (some false) = some (decide (1 ≤ t.kind ∧ t.kind ≤ 5 ∧ t.of.length = 0)) := by
    by_cases c1 : 1 ≤ t.kind <;> by_cases c2 : t.kind ≤ 5 <;> by_cases c3 : t.of.length = 0 <;> simp [c1, c2, c3]
  have b2 : ∀ k n : Nat, cond (t.kind == (k : Int)) (some ((t.of.length : Int) == (n : Int))) (some false) = some (decide (t.kind = (k : Int) ∧ t.of.length = n)) := fun k n => by
    by_cases c1 : t.kind = k
    · rw [show (t.kind == (k : Int)) = true from beq_iff_eq.2 c1, cond_true]
      congr 1
      rw [Bool.eq_iff_iff, beq_iff_eq, decide_eq_true_eq]
      omega
    · rw [show (t.kind == (k : Int)) = false from beq_eq_false_iff_ne.2 c1, cond_false, decide_eq_false (fun h => c1 h.1)]
  unfold BPlain_F
  have b7 := b2 7 1
  have b8 := b2 8 2
  have b9 := b2 9 1
  simp only [Int.cast_ofNat_Int] at b7 b8 b9
  rw [b1, b7, b8, b9, plF_eq, if_neg h6]
  simp only [Option.bind_some]
  by_cases p1 : 1 ≤ t.kind ∧ t.kind ≤ 5 ∧ t.of.length = 0
  · rw [decide_eq_true p1, if_pos (.inl p1)]; rfl
  rw [decide_eq_false p1]
  by_cases p7 : t.kind = 7 ∧ t.of.length = 1
  · rw [decide_eq_true p7, if_pos (.inr (.inl p7))]; rfl
  rw [decide_eq_false p7]
  by_cases p8 : t.kind = 8 ∧ t.of.length = 2
  · rw [decide_eq_true p8, if_pos (.inr (.inr p8))]; rfl
  rw [decide_eq_false p8, if_neg (fun h => by rcases h with h | h | h <;> contradiction)]
  by_cases p9 : t.kind = 9 ∧ t.of.length = 1
  · rw [decide_eq_true p9, if_pos p9]
    simp only [cond_false, cond_true, Option.bind_some]
    rw [chk_pos (by omega), hrec_]
    show Option.bind (if 0 < t.of.length ∧ t.of.getD 0 default = t.of.getD 0 default ∧ ((d : Nat) : Int) = (d : Nat) then some (plF h (t.of.getD 0 default)) else none) _ = _
    rw [if_pos ⟨by omega, rfl, rfl⟩]; rfl
  · rw [decide_eq_false p9, if_neg p9]; rfl
end Go.Proofs
