/- The symbolic walk, part 54: regions whose order is drawn, with operations that turn memory, not all of these one behind the other. -/
import Derived.Test.YtekmhpkomhjbpaaGreatDoorE5
import Derived.Test.YtekmhpkomhjbpaaGreatDoorE4
import Derived.RangeFuncNested
import Derived.OrdersIn
import Derived.StillTail
import Derived.RangeFuncBox
import Derived.RangeFuncLeaves
import Derived.Shelf.Abstract
import Derived.WalkKit
import Derived.OwnWalkIn
import Derived.TacticsInMore
import Derived.LoopNIn
import Derived.LoopIn
set_option linter.unusedSimpArgs false
set_option linter.unusedVariables false
namespace Go.Sy
open Go.RowKit

def setM (L : Nat → Bool) (i : Nat) : Nat → Bool := fun k => if k = i then true else L k

section
variable {P : Program} {T : Tab} {X : Ctx P T} {n : Nat} {e : Env} {st : St} {a : Act} {w : World} {ops : Array Oper} {K : St → Prop}

theorem any_of_M {p : Pl} {base : List (Nat × AV)} {C : (Nat → Bool) → List Ch} {D : Done} {Q : QX X} (hE : ∀ e ∈ p.E, e < ops.size) (hC : ∀ L L' : Nat → Bool, (∀ e ∈ p.E, L e = L' e) → C L = C L') (hA : p.ancB ops = true) (hbse : p.baseB base = true) (hD : D.length = ops.size)
    (hstep : ∀ i o, ops[i]? = some o → ∃ x, D[i]? = some (o.dst, x) ∧ p.creB i x = true ∧ ∀ L : Nat → Bool, (∀ a ∈ p.anc i, L a = true) → (∀ q, i ∈ p.anc q → L q = false) → L i = false → StepX X n ops p (availX p i (D.take i) o.after.toList base) (C L) (if i ∈ p.E then C (setM L i) else C L) i o x)
    (hedge : ∀ i o, ops[i]? = some o → ∀ e ∈ o.after, Region.binds .any e = true → e.on < i)
    (hdist : ∀ (i j : Nat) o o' d, ops[i]? = some o → ops[j]? = some o' → o.dst = some d → o'.dst = some d → i = j)
    (hbase : ∀ (i : Nat) o d, ops[i]? = some o → o.dst = some d → get base d = none)
    (hfin : ∀ e a w, Rel X n e ⟨finS base (killD p D), C (fun _ => true)⟩ a w → Q .normal a w) :
    ∀ (fuel : Nat) (listed : Array Bool) (a : Act) (w : World) (e : Env) (S : List (Nat × AV)), listed.size = ops.size → listed.toList.count false = fuel → ClosedL ops listed → Rel X n e ⟨S, C (fun e => listed.getD e false)⟩ a w →
      (∀ k y, get base k = some y → get S k = some y) →
      (∀ (i : Nat) d x, listed.getD i false = true → D[i]? = some (some d, x) → (∀ q ∈ p.ki, listed.getD q.1 false = true → x.noO q.2 = true) → get S d = some x) →
      (∀ k y, get S k = some y → ∀ q ∈ p.cre, listed.getD q.1 false = false → y.no q.2 = true) →
      wpAny P .any ops Q fuel listed a w := by
  have bspec : ∀ {l : List (Nat × AV)}, p.baseB l = true → ∀ k y, get l k = some y → (∀ q ∈ p.cre, y.no q.2 = true) ∧ ∀ q ∈ p.ki, y.noO q.2 = true := by
    intro l
    induction l with
    | nil => intro _ k y h; simp [get] at h
    | cons z l ih =>
      obtain ⟨j, v⟩ := z
      intro h k y hy
      simp only [Pl.baseB, Bool.and_eq_true, List.all_eq_true] at h
      rw [get_cons] at hy
      by_cases hj : j = k
      · rw [if_pos hj] at hy; cases hy; exact ⟨h.1.1, h.1.2⟩
      · rw [if_neg hj] at hy; exact ih h.2 k y hy
  have ancL : ∀ {listed : Array Bool}, ClosedL ops listed → ∀ i, i < ops.size → (∀ j ∈ predsB ops i, listed.getD j false = true) → ∀ a ∈ p.anc i, listed.getD a false = true := by
    intro listed hc i
    induction i using Nat.strongRecOn with
    | ind i ih =>
      intro hi hp a ha
      have h1 := List.all_eq_true.1 (List.all_eq_true.1 hA i (by simpa using hi)) a ha
      simp only [Bool.or_eq_true, List.contains_iff_mem, List.any_eq_true] at h1
      rcases h1 with h1 | ⟨q, hq, h1⟩
      · exact hp a h1
      · obtain ⟨o, ho, ed, he, hb, rfl⟩ := mem_preds hq
        have hlt := hedge i o ho ed he hb
        refine ih ed.on hlt (by omega) (fun j hj => ?_) a h1
        obtain ⟨o', ho', ed', he', hb', rfl⟩ := mem_preds hj
        exact hc ed.on o' (hp _ hq) ho' ed' he' hb'
  have ancLd : ∀ {listed : Array Bool}, listed.size = ops.size → ClosedL ops listed → ∀ i, listed.getD i false = true → ∀ a ∈ p.anc i, listed.getD a false = true := by
    intro listed hsz hc i hi
    have hlt : i < ops.size := by
      rcases Nat.lt_or_ge i ops.size with h | h
      · exact h
      · rw [← hsz] at h; simp [Nat.not_lt.2 h] at hi
    refine ancL hc i hlt (fun j hj => ?_)
    obtain ⟨o, ho, ed, he, hb, rfl⟩ := mem_preds hj
    exact hc i o hi ho ed he hb
  have progress : ∀ (listed : Array Bool), listed.size = ops.size → Region.ready .any ops listed = [] → ∀ i, i < ops.size → listed.getD i false = true := by
    intro listed hsz hr i
    induction i using Nat.strongRecOn with
    | ind i ih =>
      intro hi
      cases hl : listed.getD i true with
      | true =>
        have : i < listed.size := by omega
        simp [this] at hl ⊢
        exact hl
      | false =>
        exfalso
        have hmem : i ∈ Region.ready .any ops listed := by
          rw [mem_ready]
          refine ⟨hl, ops[i], by simp [hi], fun e he hb => ih e.on (hedge i ops[i] (by simp [hi]) e he hb) ?_⟩
          have := hedge i ops[i] (by simp [hi]) e he hb
          omega
        rw [hr] at hmem
        cases hmem
  have final : ∀ (listed : Array Bool) a w e S, listed.size = ops.size → Region.ready .any ops listed = [] → Rel X n e ⟨S, C (fun e => listed.getD e false)⟩ a w →
      (∀ k y, get base k = some y → get S k = some y) → (∀ (i : Nat) d x, listed.getD i false = true → D[i]? = some (some d, x) → (∀ q ∈ p.ki, listed.getD q.1 false = true → x.noO q.2 = true) → get S d = some x) → Q .normal a w := by
    intro listed a w e S hsz hr r hb hs
    rw [hC (fun e => listed.getD e false) (fun _ => true) (fun e he => progress listed hsz hr e (hE e he))] at r
    refine hfin e a w (r.less (fun k y hk => ?_) (fun h => h))
    rcases finS_get hk with ⟨i, hi⟩ | h
    · obtain ⟨hi, he⟩ := killD_get hi
      have hlt : i < D.length := by
        rcases Nat.lt_or_ge i D.length with h | h
        · exact h
        · rw [List.getElem?_eq_none h] at hi; cases hi
      exact hs i k y (progress listed hsz hr i (by omega)) hi (fun q hq _ => List.all_eq_true.1 he q hq)
    · exact hb k y h
  intro fuel
  induction fuel with
  | zero =>
    intro listed a w e S hsz hc hcl r hb hs hcr
    have hall : ∀ i, i < listed.size → listed.getD i true = true := by
      intro i hi
      cases hl : listed.getD i true with
      | true => rfl
      | false =>
        exfalso
        have : false ∈ listed.toList := by
          simp [hi] at hl
          exact List.mem_iff_getElem.2 ⟨i, by simpa using hi, by simpa using hl⟩
        have := List.count_pos_iff.2 this
        omega
    have hr : Region.ready .any ops listed = [] := by
      cases hrr : Region.ready .any ops listed with
      | nil => rfl
      | cons j js =>
        exfalso
        have hm : j ∈ Region.ready .any ops listed := by rw [hrr]; simp
        rw [mem_ready] at hm
        obtain ⟨h0, o, ho, _⟩ := hm
        have hlt : j < ops.size := (Array.getElem?_eq_some_iff.1 ho).1
        rw [hall j (by omega)] at h0
        cases h0
    exact ⟨hr, final listed a w e S hsz hr r hb hs⟩
  | succ fuel ih =>
    intro listed a w e S hsz hc hcl r hb hs hcr
    refine ⟨fun hr => final listed a w e S hsz hr r hb hs, fun i hi => ?_⟩
    rw [mem_ready] at hi
    obtain ⟨h0, o, ho, hpre⟩ := hi
    have hlt : i < ops.size := (Array.getElem?_eq_some_iff.1 ho).1
    have hif : listed.getD i false = false := by
      have : i < listed.size := by omega
      simp [this] at h0 ⊢
      exact h0
    have hlf : listed.toList[i]? = some false := by
      have : i < listed.size := by omega
      simp [this] at h0 ⊢
      exact h0
    have hpl : ∀ j ∈ predsB ops i, listed.getD j false = true := by
      intro j hj
      obtain ⟨o', ho', ed, he, hb', rfl⟩ := mem_preds hj
      rw [ho] at ho'
      cases ho'
      exact hpre ed he hb'
    have hanc := ancL hcl i hlt hpl
    obtain ⟨x, hx, hcre, hst⟩ := hstep i o ho
    unfold wpOp
    simp only [ho]
    have hhi : ∀ q, i ∈ p.anc q → listed.getD q false = false := fun q hq => by
      cases hb : listed.getD q false with
      | false => rfl
      | true => rw [ancLd hsz hcl q hb i hq] at hif; cases hif
    have hav : ∀ k y, get (availX p i (D.take i) o.after.toList base) k = some y → get S k = some y := by
      intro k y hk
      rcases availX_get hk with ⟨ed, h1, h2, h3, h5⟩ | h
      · have h4 : D[ed.on]? = some (some k, y) := by
          rw [List.getElem?_take] at h3
          split at h3
          · exact h3
          · cases h3
        refine hs ed.on k y (hpre ed (by simpa using h1) h2) h4 (fun q hq hql => ?_)
        have h6 := List.all_eq_true.1 h5 q hq
        simp only [Bool.or_eq_true, List.contains_iff_mem] at h6
        rcases h6 with (h6 | h6) | h6
        · exact h6
        · have := Nat.eq_of_beq_eq_true h6
          rw [← this, hif] at hql; cases hql
        · rw [ancLd hsz hcl q.1 hql i h6] at hif; cases hif
      · exact hb k y h
    have hset : ∀ j, j ≠ i → (listed.setIfInBounds i true).getD j false = listed.getD j false := fun j hj => getD_set_ne false (Ne.symm hj)
    have hseti : (listed.setIfInBounds i true).getD i false = true := by
      have : i < listed.size := by omega
      simp [this]
    have hphn : (if i ∈ p.E then C (setM (fun e => listed.getD e false) i) else C (fun e => listed.getD e false)) = C (fun e => (listed.setIfInBounds i true).getD e false) := by
      have h1 : C (setM (fun e => listed.getD e false) i) = C (fun e => (listed.setIfInBounds i true).getD e false) := by
        congr 1; funext k; unfold setM
        by_cases hk : k = i
        · rw [if_pos hk, hk, hseti]
        · rw [if_neg hk, hset k hk]
      by_cases hi : i ∈ p.E
      · rw [if_pos hi, h1]
      · rw [if_neg hi]
        exact hC _ _ (fun e he => (hset e (fun h => hi (h ▸ he))).symm)
    refine hst (fun e => listed.getD e false) hanc hhi hif e a w S _ Q r hav (fun k y hy q hq hqi => hcr k y hy q hq (by rw [hqi]; exact hif)) (fun e' a' w' S' r' hu => ?_)
    refine ih (listed.setIfInBounds i true) a' w' e' S' (by simpa using hsz) ?_ ?_ (by rw [← hphn]; exact r') (fun k y hk => ?_) (fun j d y hj hy hq => ?_) (fun k y hy q hq hql => ?_)
    · rw [Array.toList_setIfInBounds]
      have hlt' : i < listed.toList.length := by simpa using (by omega : i < listed.size)
      have hg : listed.toList[i] = false := by
        have := List.getElem?_eq_getElem hlt'
        rw [hlf] at this
        simpa using this.symm
      rw [List.count_set hlt', hg, hc]
      simp
    · intro j o' hj ho' ed he hb'
      by_cases hji : j = i
      · subst hji
        rw [ho] at ho'; cases ho'
        have := hpre ed he hb'
        by_cases h : ed.on = j
        · rw [h]; exact hseti
        · rw [hset _ h]; exact this
      · rw [hset j hji] at hj
        have := hcl j o' hj ho' ed he hb'
        by_cases h : ed.on = i
        · rw [h]; exact hseti
        · rw [hset _ h]; exact this
    · refine hu.2.1 k y (fun h => ?_) (hb k y hk) (fun q hq _ => (bspec hbse k y hk).2 q hq)
      rw [hbase i o k ho h] at hk; cases hk
    · by_cases hji : j = i
      · subst hji
        rw [hx] at hy
        simp only [Option.some.injEq, Prod.mk.injEq] at hy
        rw [← hy.2]
        exact hu.1 d hy.1
      · rw [hset j hji] at hj
        have hold := hs j d y hj hy (fun q hqk hql => hq q hqk (by
          by_cases h : q.1 = i
          · rw [h]; exact hseti
          · rw [hset _ h]; exact hql))
        refine hu.2.1 d y (fun h => ?_) hold (fun q hqk hqi => hq q hqk (by rw [hqi]; exact hseti))
        have hjl : j < ops.size := by
          rw [← hD]
          rcases Nat.lt_or_ge j D.length with h | h
          · exact h
          · rw [List.getElem?_eq_none h] at hy; cases hy
        obtain ⟨x', hx', _⟩ := hstep j ops[j] (by simp [hjl])
        rw [hx'] at hy
        simp only [Option.some.injEq, Prod.mk.injEq] at hy
        exact hji (hdist j i ops[j] o d (by simp [hjl]) ho hy.1 h)
    · have hqi : q.1 ≠ i := fun h => by rw [h, hseti] at hql; cases hql
      rw [hset _ hqi] at hql
      rcases hu.2.2 k y hy with ⟨_, rfl⟩ | h | rfl
      · have h6 := List.all_eq_true.1 hcre q hq
        simp only [Bool.or_eq_true, List.contains_iff_mem] at h6
        rcases h6 with (h6 | h6) | h6
        · exact absurd (Nat.eq_of_beq_eq_true h6) hqi
        · rw [hanc q.1 h6] at hql; cases hql
        · exact h6
      · exact hcr k y h q hq hql
      · rfl

/-- The ways through the list. -/
def SymM {P : Program} {T : Tab} (X : Ctx P T) (n : Nat) (ops : Array Oper) (p : Pl) (base : List (Nat × AV)) (C : (Nat → Bool) → List Ch) (K : St → Prop) : List Oper → Done → Prop
  | [], done => K ⟨finS base (killD p done), C (fun _ => true)⟩
  | o :: rest, done => ∃ x, (p.creB done.length x = true ∧ ∀ L : Nat → Bool, (∀ a ∈ p.anc done.length, L a = true) → (∀ q, done.length ∈ p.anc q → L q = false) → L done.length = false → StepX X n ops p (availX p done.length done o.after.toList base) (C L) (if done.length ∈ p.E then C (setM L done.length) else C L) done.length o x) ∧
      SymM X n ops p base C K rest (done ++ [(o.dst, x)])

theorem SymM.plan {p : Pl} {base : List (Nat × AV)} {C : (Nat → Bool) → List Ch} : ∀ {l : List Oper} {done : Done}, SymM X n ops p base C K l done →
    ∃ D : Done, done <+: D ∧ D.length = done.length + l.length ∧ K ⟨finS base (killD p D), C (fun _ => true)⟩ ∧
      ∀ i o, l[i]? = some o → ∃ x, D[done.length + i]? = some (o.dst, x) ∧ p.creB (done.length + i) x = true ∧
        ∀ L : Nat → Bool, (∀ a ∈ p.anc (done.length + i), L a = true) → (∀ q, done.length + i ∈ p.anc q → L q = false) → L (done.length + i) = false → StepX X n ops p (availX p (done.length + i) (D.take (done.length + i)) o.after.toList base) (C L) (if done.length + i ∈ p.E then C (setM L (done.length + i)) else C L) (done.length + i) o x
  | [], done, h => ⟨done, List.prefix_refl _, by simp, h, fun i o hi => by simp at hi⟩
  | o :: rest, done, h => by
    obtain ⟨x, h1, h2⟩ := h
    obtain ⟨D, hp, hl, hK, hs⟩ := SymM.plan h2
    have hp' : done <+: D := (List.prefix_append done _).trans hp
    refine ⟨D, hp', by simp at hl ⊢; omega, hK, fun i o' hi => ?_⟩
    cases i with
    | zero =>
      simp only [List.getElem?_cons_zero, Option.some.injEq] at hi
      subst hi
      refine ⟨x, ?_, ?_⟩
      · obtain ⟨t, rfl⟩ := hp
        simp
      · obtain ⟨t, rfl⟩ := hp'
        simpa using h1
    | succ i =>
      obtain ⟨y, g1, g2⟩ := hs i o' (by simpa using hi)
      refine ⟨y, ?_, ?_⟩
      · simpa [Nat.add_assoc, Nat.add_comm 1 i] using g1
      · simpa [Nat.add_assoc, Nat.add_comm 1 i] using g2

theorem C_drawM (p : Pl) {id : Nat} {Q : Exit → St → Prop} {s base : List (Nat × AV)} {c : List Ch} (C : (Nat → Bool) → List Ch) (hb : eraseD ops.toList s = some base) (hchk : p.fine ops base = true) (hC : ∀ L L' : Nat → Bool, (∀ e ∈ p.E, L e = L' e) → C L = C L') (h0 : C (fun _ => false) = c)
    (h : SymM X n ops p base C (fun s => Q .normal s) ops.toList []) : SymC X n (.region id ops true) ⟨s, c⟩ Q := by
  intro e a w r
  have hbs : ∀ k y, get base k = some y → get s k = some y := fun k y hk => eraseD_get hb hk
  simp only [Pl.fine, Bool.and_eq_true] at hchk
  obtain ⟨⟨⟨g1, g2⟩, g3⟩, g4⟩ := hchk
  obtain ⟨D, _, hl, hK, hs⟩ := h.plan
  obtain ⟨c1, c2⟩ := chkD_spec g4
  have hbel : Below w.heap.size w { w with drawn := w.drawn + 1 } := ⟨rfl, rfl, rfl, Nat.le_refl _, fun _ _ => rfl⟩
  have hEs : ∀ e ∈ p.E, e < ops.size := fun e he => by
    have := List.all_eq_true.1 g3 e he
    simp [Nat.blt] at this; omega
  refine wp_region_any X.wide ?_
  have hrep : ∀ i, (Array.replicate ops.size false).getD i false = false := fun i => by
    rcases Nat.lt_or_ge i ops.size with h | h
    · simp [h]
    · simp [Nat.not_lt.2 h]
  refine any_of_M (X := X) (Q := concX X n Q) (n := n) (p := p) (base := base) (C := C) (D := D) hEs hC g1 g2 (by simpa using hl) (fun i o ho => ?_) (fun i o ho => ?_) (fun i j o o' d hi hj => c2 i j o o' d (by simpa using hi) (by simpa using hj)) (fun i o d ho hd => ((c1 i o (by simpa using ho)).2 d hd).1)
    (fun e a w r => ⟨e, _, r, hK⟩) _ _ a _ e base (by simp) (by simp) (fun j o hj => by rw [hrep] at hj; cases hj) ?_ (fun k y hk => hk) (fun i d x hi => by rw [hrep] at hi; cases hi) ?_
  · have := hs i o (by simpa using ho)
    simpa using this
  · simpa using (c1 i o (by simpa using ho)).1
  · have h1 : C (fun e => (Array.replicate ops.size false).getD e false) = C (fun _ => false) := hC _ _ (fun e _ => hrep e)
    rw [h1, h0]
    exact (r.below hbel).less hbs (fun h => h)
  · intro k y hy q hq _
    have : ∀ {l : List (Nat × AV)}, p.baseB l = true → get l k = some y → y.no q.2 = true := by
      intro l
      induction l with
      | nil => intro _ h; simp [get] at h
      | cons z l ih =>
        obtain ⟨j, v⟩ := z
        intro h hy
        simp only [Pl.baseB, Bool.and_eq_true, List.all_eq_true] at h
        rw [get_cons] at hy
        by_cases hj : j = k
        · rw [if_pos hj] at hy; cases hy; exact h.1.1 q hq
        · rw [if_neg hj] at hy; exact ih h.2 hy
    exact this g2 hy

/-- One step of a drawn region of effects, by reckoning: an operation that needs no memory. -/
def stepMK {P : Program} {T : Tab} (X : Ctx P T) (n : Nat) (ops : Array Oper) (p : Pl) (base : List (Nat × AV)) (C : (Nat → Bool) → List Ch) (K : St → Prop) : List Oper → Done → Option Prop
  | [], done => normG (finS base (killD p done)) fun s => some (K ⟨s, C (fun _ => true)⟩)
  | o :: rest, done => normG (availX p done.length done o.after.toList base) fun Si => match guardA ops ⟨Si, []⟩ o, dstOK n o.dst with
    | some true, true => (match stillX T ⟨Si, []⟩ o.op with
      | some (vc, x) => normA x fun x => (match p.creB done.length x, !(p.E.contains done.length) with
        | true, true => normG (done ++ [(o.dst, x)]) fun done => some (vc ∧ SymM X n ops p base C K rest done)
        | _, _ => none)
      | none => none)
    | some false, true => (match p.creB done.length (.tup []), !(p.E.contains done.length) with
        | true, true => normG (done ++ [(o.dst, .tup [])]) fun done => some (SymM X n ops p base C K rest done)
        | _, _ => none)
    | _, _ => none

theorem sm {p : Pl} {base : List (Nat × AV)} {C : (Nat → Bool) → List Ch} {l : List Oper} {done : Done} {q : Prop} (h : stepMK X n ops p base C K l done = some q) (hq : q) : SymM X n ops p base C K l done := by
  cases l with
  | nil =>
    simp only [stepMK, normG_eq, Option.some.injEq] at h
    subst h
    exact hq
  | cons o rest =>
    simp only [stepMK, normG_eq, normA_eq] at h
    split at h
    · rename_i hg hd
      split at h
      · rename_i vc x hs
        split at h
        · rename_i hc hE
          simp only [Option.some.injEq] at h
          subst h
          refine ⟨x, ⟨hc, fun L _ _ _ => ?_⟩, hq.2⟩
          rw [if_neg (not_mem_of_contains hE)]
          exact StepX.any hg hd hs hq.1
        · cases h
      · cases h
    · rename_i hg hd
      split at h
      · rename_i hc hE
        simp only [Option.some.injEq] at h
        subst h
        refine ⟨.tup [], ⟨hc, fun L _ _ _ => ?_⟩, hq⟩
        rw [if_neg (not_mem_of_contains hE)]
        exact X_none (by rw [guardA_any (c' := [])]; exact hg) hd
      · cases h
    · cases h

/-- One step, told. -/
theorem SM {p : Pl} {base : List (Nat × AV)} {C : (Nat → Bool) → List Ch} {o : Oper} {rest : List Oper} {done : Done} (x : AV) (hc : p.creB done.length x = true)
    (h : ∀ L : Nat → Bool, (∀ a ∈ p.anc done.length, L a = true) → (∀ q, done.length ∈ p.anc q → L q = false) → L done.length = false → StepX X n ops p (availX p done.length done o.after.toList base) (C L) (if done.length ∈ p.E then C (setM L done.length) else C L) done.length o x)
    (k : normG (done ++ [(o.dst, x)]) fun done => SymM X n ops p base C K rest done) : SymM X n ops p base C K (o :: rest) done := by
  rw [normG_eq] at k
  exact ⟨x, ⟨hc, h⟩, k⟩
end
end Go.Sy

/- The symbolic walk, part 55: new variables, and stores into them, in drawn regions of effects. -/
set_option linter.unusedSimpArgs false
set_option linter.unusedVariables false
namespace Go.Sy
open Go.RowKit

theorem freshS_filter (d : Nat) : ∀ S : List (Nat × AV), freshS d (S.filter fun q => q.2.no d) = true
  | [] => rfl
  | (k, y) :: S => by
    rw [List.filter_cons]
    split
    · rename_i h
      simp only [freshS, Bool.and_eq_true]
      first | exact ⟨h, freshS_filter d S⟩ | (refine ⟨?_, freshS_filter d S⟩; simpa using h)
    · exact freshS_filter d S
theorem get_filter {d : Nat} : ∀ {S : List (Nat × AV)} {k : Nat} {y : AV}, get S k = some y → y.no d = true → get (S.filter fun q => q.2.no d) k = some y
  | [], k, y, h, _ => by simp [get] at h
  | (j, z) :: S, k, y, h, hy => by
    rw [get_cons] at h
    by_cases hj : j = k
    · rw [if_pos hj] at h; cases h
      rw [List.filter_cons, if_pos (by simpa using hy), get_cons, if_pos hj]
    · rw [if_neg hj] at h
      rw [List.filter_cons]
      split
      · rw [get_cons, if_neg hj]; exact get_filter h hy
      · exact get_filter h hy
theorem get_unfilter {d : Nat} : ∀ {S : List (Nat × AV)} (hS : ∀ k y, get S k = some y → y.no d = true) {k : Nat} {y : AV}, get (S.filter fun q => q.2.no d) k = some y → get S k = some y := by
  intro S hS k y h
  cases hg : get S k with
  | some z =>
    have := get_filter hg (hS k z hg)
    rw [h] at this
    exact this.symm
  | none =>
    exfalso
    have : ∀ S : List (Nat × AV), get S k = none → get (S.filter fun q => q.2.no d) k = none := by
      intro S
      induction S with
      | nil => intro _; rfl
      | cons q S ih =>
        obtain ⟨j, z⟩ := q
        intro h
        rw [get_cons] at h
        by_cases hj : j = k
        · rw [if_pos hj] at h; cases h
        · rw [if_neg hj] at h
          rw [List.filter_cons]
          split
          · rw [get_cons, if_neg hj]; exact ih h
          · exact ih h
    rw [this S hg] at h; cases h

section
variable {P : Program} {T : Tab} {X : Ctx P T} {n : Nat} {e : Env} {st : St} {a : Act} {w : World} {ops : Array Oper} {K : St → Prop}

/-- A new variable. -/
theorem X_alloc {p : Pl} {t : TypeId} {ti : TI} {d : Nat} {ty : TypeId} {pos : String} {aft : Array Edge} {gd : Option (Nat × Bool)} {j : Nat} {Si : List (Nat × AV)} {c : List Ch} {cells : List AV}
    (hT : T t = some ti) (hcells : cells = ti.zero.map constA) (hg : guardA ops ⟨Si, c⟩ ⟨some d, .alloc t, ty, pos, aft, gd⟩ = some true) (hd : Nat.blt d n = true) (hcre : (j, d) ∈ p.cre) (hc : freshC d c = true) (hno : AV.no.noL d cells = true) (hki : p.ki = []) :
    StepX X n ops p Si c (.box d t cells :: c) j ⟨some d, .alloc t, ty, pos, aft, gd⟩ (.bp d 0) := by
  subst hcells
  intro e a w S K Q r hS hcr hk
  have r0 : Rel X n e ⟨Si, c⟩ a w := r.less hS (fun h => h)
  rw [if_pos (guardA_sound r0 hg)]
  have hfree : ∀ k y, get S k = some y → y.no d = true := fun k y h => hcr k y h (j, d) hcre rfl
  have r1 : Rel X n e ⟨S.filter fun q => q.2.no d, c⟩ a w := r.less (fun k y h => get_unfilter hfree h) (fun h => h)
  obtain ⟨pi, z, g1, g2, g3, g4, g5, g6, g7⟩ := (X.ok _ _ hT).info
  have r2 := r1.alloc (t := t) (arr := z.cells) hd (freshS_filter d S) hc (by rw [g5]; exact zero_sound e g6) hno
  have hrun : (execOp a.eval ⟨some d, .alloc t, ty, pos, aft, gd⟩).run P w = .ok (.value (.pointer (some ⟨w.heap.size, 0, none⟩))) (w.alloc (.cells z.cells t)) := by
    simp [execOp, Instr.alloc, zeroValue, typeInfo, g1, g4, newVar, newRow]
  refine .inl ?_
  unfold Oper.wp
  rw [hrun]
  refine hk _ _ _ _ r2 ⟨?_, ?_, ?_⟩
  · rintro d' h'
    cases h'
    rw [get_cons, if_pos rfl]
  · intro k y hne hy _
    rw [get_cons, if_neg (fun h => hne (by rw [h]))]
    exact get_filter hy (hfree k y hy)
  · intro k y hy
    rw [get_cons] at hy
    by_cases h : d = k
    · rw [if_pos h] at hy; cases hy; exact .inl ⟨by rw [h], rfl⟩
    · rw [if_neg h] at hy; exact .inr (.inl (get_unfilter hfree hy))

/-- A store into a variable of one's own. -/
theorem X_storeK {p : Pl} {t tt : TypeId} {i : TI} {ad xo : Operand} {b o kk : Nat} {av : AV} {cells new : List AV} {ty : TypeId} {pos : String} {aft : Array Edge} {gd : Option (Nat × Bool)} {j : Nat} {Si : List (Nat × AV)} {c rest : List Ch}
    (hT : T t = some i) (hg : guardA ops ⟨Si, c⟩ ⟨none, .store t ad xo, ty, pos, aft, gd⟩ = some true) (had : opd Si ad = some (.bp b o)) (hx : opd Si xo = some av) (hk : takeCh b c = some (.box kk tt cells, rest)) (hb : boxable av = true) (hl : Nat.beq (cellsA av).length i.size = true) (ho : Nat.ble (o + i.size) cells.length = true)
    (hn : new = cells.take o ++ cellsA av ++ cells.drop (o + (cellsA av).length)) :
    StepX X n ops p Si c (.box kk tt new :: rest) j ⟨none, .store t ad xo, ty, pos, aft, gd⟩ .bad :=
  StepX.skip hg rfl (fun e a w S r r' => by
    subst hn
    have hkk : kk = b := kid_of_take hk
    subst hkk
    have k2 := Nat.eq_of_beq_eq_true hl
    have k3 := Nat.le_of_ble_eq_true ho
    have hv := cellsA_sound (opd_sound r' hx) hb
    have hbp := opd_sound r' had
    simp only [Rep] at hbp
    obtain ⟨w', g1, g2⟩ := r.write (st := ⟨S, c⟩) hk hv (o := o) (by omega)
    have hsz : (a.eval xo).cells.size = i.size := by have := RepL.len hv; simp at this; omega
    have hrun : (execOp a.eval ⟨none, .store t ad xo, ty, pos, aft, gd⟩).run P w = .ok .skip w' := by
      simp only [execOp, Instr.storeAt, hbp, Instr.sureAddr, Sem.run_bind, Sem.run_pure, Result.andThen_ok, storeVar, X.ok.size hT, hsz]
      simp [g1]
    exact ⟨w', e, hrun, g2⟩)
end
end Go.Sy

/- The symbolic walk, part 63: cells of variables that hold slices of one's own; slice literals and appends in drawn regions of effects. -/
set_option linter.unusedSimpArgs false
set_option linter.unusedVariables false
namespace Go.Sy
open Go.RowKit

section
variable {P : Program} {T : Tab} {X : Ctx P T} {n : Nat} {e : Env} {st : St} {a : Act} {w : World} {ops : Array Oper} {K : St → Prop}

end
end Go.Sy

/- The symbolic walk, part 64: arrays built; entries of maps deleted. -/
set_option linter.unusedSimpArgs false
set_option linter.unusedVariables false
set_option maxRecDepth 100000
namespace Go.Sy
open Go.RowKit
section
variable {P : Program} {T : Tab} {X : Ctx P T} {n : Nat} {ops : Array Oper}

theorem X_buildArr {p : Pl} {t el len sz s0 b0 b1 : Nat} {ag1 ag0 : Bool} {zero z0 : List Value} {d0 : TD} {parts : Array (Nat × Operand)} {ps : List (Nat × AV)} {cs : List AV} {d : Nat} {ty : TypeId} {pos : String} {aft : Array Edge} {gd : Option (Nat × Bool)} {i : Nat} {Si : List (Nat × AV)} {c : List Ch}
    (hg : guardA ops ⟨Si, c⟩ ⟨some d, .build t parts, ty, pos, aft, gd⟩ = some true) (hd : Nat.blt d n = true) (ht : T t = some ⟨s0, b0, ag1, zero, .arr len el⟩) (hel : T el = some ⟨sz, b1, ag0, z0, d0⟩) (hps : opdP Si parts.toList = some ps)
    (hf : fillA (fun i => some (i * sz, sz)) (zero.map constA) ps = some cs) : StepX X n ops p Si c c i ⟨some d, .build t parts, ty, pos, aft, gd⟩ (.agg cs) :=
  StepX.val hg hd (fun e a w S r r' => by
    have hT := X.ok
    obtain ⟨pi, z, g1, g2, g3, g4, g5, g6, g7⟩ := (hT _ _ ht).info
    obtain ⟨dd, e1, _, e3⟩ := (hT _ _ ht).desc
    simp only [TDOK] at e3
    subst e3
    obtain ⟨q1, q2⟩ := opdP_sound r' hps
    simp only at g5 g6
    obtain ⟨out, o1, o2⟩ := fill_sound (e := e) (place := fun i => some (i * sz, sz)) (cp := fun i => some (i * sz, sz)) (fun i q h => h) ps (parts.toList.map fun (i, x) => (i, a.eval x)) _ z.cells cs (by simp [q1]) q2 (by rw [g5]; exact zero_sound e g6) hf
    have hsz := hT.size hel w
    refine ⟨.agg out, w, e, ?_, r, by simp only [Rep]; exact ⟨_, rfl, o2⟩⟩
    simp only [execOp, Instr.build, Sem.run_bind, zeroValue, typeInfo, run_program, Result.andThen_ok, g1, Sem.run_pure, g4, run_underlying e1, hsz, Array.toList_map]
    rw [o1]
    rfl)
end
end Go.Sy

/- The base of the great seat's texts. -/
set_option linter.unusedSimpArgs false
set_option linter.unusedVariables false
namespace Go.Proofs
open Go.Sy Go.Lib

abbrev INTc (i : Int) : List AV := [I64 i]
abbrev STRc (l : List UInt8) : List AV := [.s l]
abbrev BOLc (b : Bool) : List AV := [B b]
def by_ (l : List UInt8) (i : Nat) : Nat := (l.getD i 0).toNat
theorem by_lt (l : List UInt8) (i : Nat) : by_ l i < 256 := by unfold by_; exact UInt8.toNat_lt _
theorem getD_by (l : List UInt8) (i : Nat) : (l.getD i 0).toNat = by_ l i := rfl
end Go.Proofs

/- Numbers as bytes: the plain law; contracts of varint and of the document's. -/
set_option linter.unusedSimpArgs false
set_option linter.unusedVariables false
set_option maxRecDepth 100000
namespace Go.Proofs
open Go.Sy Go.Lib
theorem Byte_p (n : Int) : FnP Tryz.prog 194 [I64 n] (· = .s [UInt8.ofNat (IntKind.u8.wrap n).toNat]) := by
  refine FnP.intro Tryz.tabOK Tryz.wide_ Tryz.func194 rfl (by decide) rfl (fun X => ?_)
  repeat (first | refine sc rfl ?_ | refine so rfl ?_ | refine sb rfl ?_ | refine sv rfl ?_)
  exact ⟨_, rfl, rfl, rfl⟩

abbrev U64 (n : Int) : AV := .v (.int .u64 n)

/-- A number's bytes. -/
def vput (n : Nat) : List UInt8 := if h : n < 128 then [UInt8.ofNat n] else UInt8.ofNat (n % 128 + 128) :: vput (n / 128)
termination_by n
decreasing_by omega
theorem vput_lt {n : Nat} (h : n < 128) : vput n = [UInt8.ofNat n] := by rw [vput, dif_pos h]
theorem vput_ge {n : Nat} (h : ¬ n < 128) : vput n = UInt8.ofNat (n % 128 + 128) :: vput (n / 128) := by rw [vput, dif_neg h]
theorem vput_len (n : Nat) : (vput n).length ≤ n + 1 := by
  induction n using Nat.strongRecOn with
  | ind n ih =>
    by_cases h : n < 128
    · rw [vput_lt h]; simp
    · rw [vput_ge h, List.length_cons]
      have := ih (n / 128) (by omega)
      omega

theorem u8wrap {x : Int} (h : 0 ≤ x) (h2 : x < 256) : IntKind.u8.wrap x = x := by
  simp only [IntKind.wrap, show IntKind.u8.signed = false from rfl, show IntKind.u8.bits = 8 from rfl, Bool.false_and, Bool.false_eq_true, if_false]
  omega
theorem u64wrap {x : Int} (h : 0 ≤ x) (h2 : x < 18446744073709551616) : IntKind.u64.wrap x = x := by
  simp only [IntKind.wrap, show IntKind.u64.signed = false from rfl, show IntKind.u64.bits = 64 from rfl, Bool.false_and, Bool.false_eq_true, if_false]
  omega

theorem refPut01_p (n : Nat) : n < 18446744073709551616 → FnP Tryz.prog 140 [U64 (n : Int)] (· = .s (vput n)) := by
  induction n using Nat.strongRecOn with
  | ind n ih =>
    intro hn
    refine FnP.intro Tryz.tabOK Tryz.wide_ Tryz.func140 rfl (by decide) rfl (fun X => ?_)
    repeat (first | refine sc rfl ?_ | refine so rfl ?_ | refine sb rfl ?_)
    refine C_if rfl (fun h => ?_) (fun h => ?_) <;> simp only [decide_eq_true_eq, decide_eq_false_iff_not] at h
    · repeat (first | refine sc rfl ?_ | refine so rfl ?_ | refine sb rfl ?_)
      refine O_call (Byte_p _) (by rfl) (by rfl) (by rfl) (by rfl) (fun r hr => ?_)
      subst hr
      repeat (first | refine sc rfl ?_ | refine so rfl ?_ | refine sb rfl ?_)
      refine ⟨_, rfl, rfl, ?_⟩
      rw [vput_lt (by omega), w64 (by omega) (by omega), u8wrap (by omega) (by omega)]
      rfl
    · repeat (first | refine sc rfl ?_ | refine so rfl ?_ | refine sb rfl ?_ | refine ⟨by decide, ?_⟩)
      refine O_call (Byte_p _) (by rfl) (by rfl) (by rfl) (by rfl) (fun r hr => ?_)
      subst hr
      repeat (first | refine sc rfl ?_ | refine so rfl ?_ | refine sb rfl ?_ | refine ⟨by decide, ?_⟩)
      have e1 : IntKind.u64.wrap ((n : Int).tdiv 128) = ((n / 128 : Nat) : Int) := by
        rw [Int.tdiv_eq_ediv_of_nonneg (by omega), u64wrap (by omega) (by omega)]
        omega
      rw [e1]
      refine O_call (ih (n / 128) (by omega) (by omega)) (by rfl) (by rfl) (by rfl) (by rfl) (fun r hr => ?_)
      subst hr
      have hl := vput_len (n / 128)
      repeat (first | refine sc rfl ?_ | refine so rfl ?_ | refine sb rfl ?_)
      refine ⟨by simp only [List.length_singleton]; omega, ?_⟩
      repeat (first | refine sc rfl ?_ | refine so rfl ?_ | refine sb rfl ?_)
      refine ⟨_, rfl, rfl, ?_⟩
      have e2 : (n : Int).tmod 128 = (n : Int) % 128 := Int.tmod_eq_emod_of_nonneg (by omega)
      rw [vput_ge (by omega), e2, w64 (x := (n : Int) % 128) (by omega) (by omega), w64 (by omega) (by omega), u8wrap (by omega) (by omega)]
      rw [show ((n : Int) % 128 + 128).toNat = n % 128 + 128 by omega]
      rfl

abbrev TK := Nat × Nat × Int
/-- With f bytes at most, behind another one (z) or not: the number, how many bytes, what is wrong. -/
def tkS : Nat → Bool → List UInt8 → TK
  | 0, _, _ => (0, 0, 2)
  | _ + 1, _, [] => (0, 0, 2)
  | f + 1, z, c :: r => if (f = 0 ∧ 1 < c.toNat) ∨ (c.toNat = 0 ∧ z = true) then (0, 0, 1) else if c.toNat < 128 then (c.toNat, 1, 0)
    else match tkS f true r with
      | (m, k, e) => if e = 0 then (c.toNat % 128 + 128 * m, k + 1, 0) else (0, 0, e)
def tk (l : List UInt8) : TK := tkS 10 false l
def comb (i n : Nat) : TK → TK
  | (m, k, e) => if e = 0 then (n + 128 ^ i * m, i + k, 0) else (0, 0, e)

theorem tkS_err : ∀ (f : Nat) (z : Bool) (l : List UInt8), (tkS f z l).2.2 ≠ 0 → (tkS f z l).1 = 0 ∧ (tkS f z l).2.1 = 0
  | 0, _, _, _ => ⟨rfl, rfl⟩
  | f + 1, z, [], _ => ⟨rfl, rfl⟩
  | f + 1, z, c :: r, h => by
    simp only [tkS] at h ⊢
    split at h
    · rename_i h1; rw [if_pos h1]; exact ⟨rfl, rfl⟩
    · rename_i h1
      rw [if_neg h1]
      split at h
      · exact absurd rfl h
      · rename_i h2
        rw [if_neg h2]
        split at h
        · exact absurd rfl h
        · rename_i h3
          simp only [h3, if_false]
          exact ⟨trivial, trivial⟩
theorem comb0 (t : TK) (h : t.2.2 ≠ 0 → t.1 = 0 ∧ t.2.1 = 0) : comb 0 0 t = t := by
  obtain ⟨m, k, e⟩ := t
  unfold comb
  by_cases he : e = 0
  · subst he; simp
  · obtain ⟨h1, h2⟩ := h he
    simp only at h1 h2
    subst h1 h2
    simp [he]
theorem tk_comb (l : List UInt8) : tk l = comb 0 0 (tkS 10 false (l.drop 0)) := by
  rw [comb0 _ (tkS_err _ _ _)]; rfl

/-- One byte more. -/
theorem comb_step {f i n : Nat} {z : Bool} {l : List UInt8} {c : Nat} (hi : i < l.length) (hc : by_ l i = c) (hok : ¬ ((f = 0 ∧ 1 < c) ∨ (c = 0 ∧ z = true))) (h128 : ¬ c < 128) :
    comb i n (tkS (f + 1) z (l.drop i)) = comb (i + 1) (n + c % 128 * 128 ^ i) (tkS f true (l.drop (i + 1))) := by
  rw [List.drop_eq_getElem_cons hi]
  have hcc : (l[i]).toNat = c := by
    rw [← hc]; unfold by_; rw [List.getD_eq_getElem?_getD, List.getElem?_eq_getElem hi]; rfl
  simp only [tkS, hcc, if_neg hok, if_neg h128]
  obtain ⟨m, k, e⟩ := tkS f true (l.drop (i + 1))
  simp only [comb]
  by_cases he : e = 0
  · subst he
    simp only [if_true]
    refine Prod.ext ?_ (Prod.ext ?_ rfl)
    · simp only [Nat.pow_succ, Nat.mul_add, Nat.add_assoc]
      congr 1
      rw [Nat.mul_comm (c % 128), ← Nat.mul_assoc]
    · simp only []; omega
  · simp only [he, if_false]
theorem comb_last {f i n : Nat} {z : Bool} {l : List UInt8} {c : Nat} (hi : i < l.length) (hc : by_ l i = c) (hok : ¬ ((f = 0 ∧ 1 < c) ∨ (c = 0 ∧ z = true))) (h128 : c < 128) :
    comb i n (tkS (f + 1) z (l.drop i)) = (n + c % 128 * 128 ^ i, i + 1, 0) := by
  rw [List.drop_eq_getElem_cons hi]
  have hcc : (l[i]).toNat = c := by
    rw [← hc]; unfold by_; rw [List.getD_eq_getElem?_getD, List.getElem?_eq_getElem hi]; rfl
  simp only [tkS, hcc, if_neg hok, if_pos h128, comb]
  simp only [if_true]
  rw [Nat.mod_eq_of_lt h128, Nat.mul_comm]
theorem comb_bad {f i n : Nat} {z : Bool} {l : List UInt8} {c : Nat} (hi : i < l.length) (hc : by_ l i = c) (hok : (f = 0 ∧ 1 < c) ∨ (c = 0 ∧ z = true)) :
    comb i n (tkS (f + 1) z (l.drop i)) = (0, 0, 1) := by
  rw [List.drop_eq_getElem_cons hi]
  have hcc : (l[i]).toNat = c := by
    rw [← hc]; unfold by_; rw [List.getD_eq_getElem?_getD, List.getElem?_eq_getElem hi]; rfl
  simp only [tkS, hcc, if_pos hok, comb]
  simp
theorem comb_end {f i n : Nat} {z : Bool} {l : List UInt8} (h : l.length ≤ i ∨ f = 0) : comb i n (tkS f z (l.drop i)) = (0, 0, 2) := by
  rcases h with h | h
  · rw [List.drop_eq_nil_of_le h]
    cases f <;> simp [tkS, comb]
  · subst h; simp [tkS, comb]

/-! ### put and take -/
theorem tkS_take : ∀ (f : Nat) (z : Bool) (l : List UInt8) (n k : Nat), tkS (f + 1) z l = (n, k, 0) → l.take k = vput n ∧ 1 ≤ k ∧ k ≤ l.length ∧ n < 2 * 128 ^ f ∧ (z = true → 0 < n) := by
  intro f
  induction f with
  | zero =>
    intro z l n k h
    cases l with
    | nil => simp [tkS] at h
    | cons c r =>
      rw [tkS] at h
      split at h
      · simp at h
      · rename_i h1
        split at h
        · rename_i h2
          simp only [Prod.mk.injEq] at h
          obtain ⟨rfl, rfl, _⟩ := h
          have h6 : ¬ 1 < c.toNat := fun hh => h1 (.inl ⟨rfl, hh⟩)
          rw [vput_lt h2]
          refine ⟨by simp, by omega, by simp, by simp; omega, fun hz => ?_⟩
          rcases Nat.eq_zero_or_pos c.toNat with h3 | h3
          · exact absurd (.inr ⟨h3, hz⟩) h1
          · exact h3
        · simp [tkS] at h
  | succ f ih =>
    intro z l n k h
    cases l with
    | nil => simp [tkS] at h
    | cons c r =>
      have hc := UInt8.toNat_lt c
      rw [tkS] at h
      split at h
      · simp at h
      · rename_i h1
        split at h
        · rename_i h2
          simp only [Prod.mk.injEq] at h
          obtain ⟨rfl, rfl, _⟩ := h
          rw [vput_lt h2]
          have : 0 < 128 ^ f := Nat.pow_pos (by omega)
          refine ⟨by simp, by omega, by simp, by rw [Nat.pow_succ]; omega, fun hz => ?_⟩
          rcases Nat.eq_zero_or_pos c.toNat with h3 | h3
          · exact absurd (.inr ⟨h3, hz⟩) h1
          · exact h3
        · rename_i h2
          obtain ⟨m, k', e, ht⟩ : ∃ m k' e, tkS (f + 1) true r = (m, k', e) := ⟨_, _, _, rfl⟩
          rw [ht] at h
          simp only at h
          split at h
          · rename_i he
            subst he
            simp only [Prod.mk.injEq] at h
            obtain ⟨rfl, rfl, _⟩ := h
            obtain ⟨i1, i2, i3, i4, i5⟩ := ih true r m k' ht
            have := i5 rfl
            refine ⟨?_, by omega, by simp; omega, by rw [Nat.pow_succ]; omega, fun _ => by omega⟩
            rw [List.take_succ_cons, i1, vput_ge (n := c.toNat % 128 + 128 * m) (by omega)]
            rw [show (c.toNat % 128 + 128 * m) / 128 = m by omega, show (c.toNat % 128 + 128 * m) % 128 + 128 = c.toNat by omega]
            simp
          · rename_i he
            simp only [Prod.mk.injEq] at h
            exact absurd h.2.2 he
theorem tk_take {l : List UInt8} {n k : Nat} (h : tk l = (n, k, 0)) : l.take k = vput n ∧ 1 ≤ k ∧ k ≤ l.length ∧ n < 18446744073709551616 := by
  obtain ⟨h1, h2, h3, h4, _⟩ := tkS_take 9 false l n k h
  exact ⟨h1, h2, h3, by omega⟩

abbrev tkA (t : TK) : AV := .tup [U64 (t.1 : Nat), I64 (t.2.1 : Nat), I64 t.2.2]

theorem or64 (n m i : Nat) (hn : n < 128 ^ i) (h : n + m * 128 ^ i < 18446744073709551616) : bitsV .or .u64 (n : Int) ((m * 128 ^ i : Nat) : Int) = ((n + m * 128 ^ i : Nat) : Int) := by
  have h1 : n ||| (m * 128 ^ i) = n + m * 128 ^ i := by
    have h2 : (128 : Nat) ^ i = 2 ^ (7 * i) := by rw [Nat.pow_mul]
    rw [h2] at hn ⊢
    have := Nat.two_pow_add_eq_or_of_lt hn m
    rw [Nat.mul_comm m, Nat.or_comm, ← this, Nat.add_comm]
  simp only [bitsV]
  rw [show IntKind.u64.bits = 64 from rfl, BitVec.toNat_or, BitVec.ofInt_natCast, BitVec.ofInt_natCast, BitVec.toNat_ofNat, BitVec.toNat_ofNat, Nat.mod_eq_of_lt (by omega), Nat.mod_eq_of_lt (by omega), h1]
  exact u64wrap (by omega) (by omega)
theorem and127 (c : Nat) (h : c < 256) : bitsV .and .u8 (c : Int) 127 = ((c % 128 : Nat) : Int) := by
  have h1 : c &&& 127 = c % 128 := by
    have := Nat.and_two_pow_sub_one_eq_mod c 7
    simpa using this
  simp only [bitsV]
  rw [show IntKind.u8.bits = 8 from rfl, BitVec.toNat_and, BitVec.ofInt_natCast, show (BitVec.ofInt 8 127) = BitVec.ofNat 8 127 from rfl, BitVec.toNat_ofNat, BitVec.toNat_ofNat, Nat.mod_eq_of_lt h, show 127 % 2 ^ 8 = 127 from rfl, h1]
  exact u8wrap (by omega) (by omega)
theorem pow_le9 {i : Nat} (h : i ≤ 9) : 128 ^ i ≤ 9223372036854775808 := by
  have : 128 ^ i ≤ 128 ^ 9 := Nat.pow_le_pow_right (by omega) h
  omega

theorem vTake_p (l : List UInt8) (hl : l.length ≤ 9223372036854775807) : FnP Tryz.prog 131 [.s l] (· = tkA (tk l)) := by
  refine FnP.intro Tryz.tabOK Tryz.wide_ Tryz.func131 rfl (by decide) rfl (fun X => ?_)
  have fin : ∀ (t : TK) (r : AV), tk l = t → r = tkA t → r = tkA (tk l) := fun t r h hr => by rw [hr, h]
  repeat (first | refine sc rfl ?_ | refine so rfl ?_ | refine sb rfl ?_ | refine C_scope ?_)
  refine C_loop (fun q : Nat × Nat => ⟨[(0, .s l), (10, I64 (min l.length 10 : Nat)), (11, I64 (q.1 : Nat)), (5, U64 (q.2 : Nat))], []⟩)
    (fun q => q.1 ≤ 10 ∧ q.1 ≤ l.length ∧ q.2 < 128 ^ q.1 ∧ tk l = comb q.1 q.2 (tkS (10 - q.1) (decide (0 < q.1)) (l.drop q.1))) (fun q => 10 - q.1) (0, 0) ⟨by decide, by simp only []; omega, by decide, tk_comb l⟩
    (Le.sub [] ⟨rfl, congrArg (fun x => some (I64 x)) (by omega), rfl, rfl, trivial⟩ rfl) ?_
  rintro ⟨i, n⟩ ⟨hi10, hil, hn, ht⟩
  simp only [] at hi10 hil hn ht
  repeat (first | refine sc rfl ?_ | refine so rfl ?_ | refine sb rfl ?_ | refine C_scope ?_)
  refine C_if rfl (fun h => ?_) (fun h => ?_) <;> simp only [decide_eq_true_eq, decide_eq_false_iff_not] at h
  · have hi : i < l.length ∧ i < 10 := by omega
    obtain ⟨f, hf⟩ : ∃ f, 10 - i = f + 1 := ⟨9 - i, by omega⟩
    rw [hf] at ht
    obtain ⟨c, hc⟩ : ∃ c, by_ l i = c := ⟨_, rfl⟩
    have hc256 : c < 256 := by rw [← hc]; exact by_lt l i
    repeat (first | refine sc rfl ?_ | refine so rfl ?_ | refine sb rfl ?_ | refine C_scope ?_ | refine ⟨by omega, ?_⟩)
    rw [Int.toNat_natCast, getD_by, hc]
    have key : ((f = 0 ∧ 1 < c) ∨ (c = 0 ∧ decide (0 < i) = true)) ↔ ((i = 9 ∧ 1 < c) ∨ (c = 0 ∧ 0 < i)) := by simp only [decide_eq_true_eq]; omega
    refine O_join ⟨[(0, .s l), (10, I64 (min l.length 10 : Nat)), (11, I64 (i : Nat)), (5, U64 (n : Nat)), (6, I64 (i : Nat)), (7, .v (.int .u8 c)), (17, B (decide (i = 9 ∧ 1 < c)))], []⟩ ?_ (fun s h => C_le _ h ?_)
    · have fin2 : ∀ x : Bool, x = decide (i = 9 ∧ 1 < c) → some (B x) = some (B (decide (i = 9 ∧ 1 < c))) := fun x hb => by rw [hb]
      refine O_case 20 rfl (fun h5 => ?_) (fun h5 => ?_) <;> simp at h5 <;> repeat (first | refine sc rfl ?_ | refine so rfl ?_ | refine sb rfl ?_)
      · exact Le.sub [] ⟨rfl, rfl, rfl, rfl, rfl, rfl, fin2 _ (by rw [Bool.eq_iff_iff]; simp; omega), trivial⟩ rfl
      · exact Le.sub [] ⟨rfl, rfl, rfl, rfl, rfl, rfl, fin2 _ (by rw [Bool.eq_iff_iff]; simp; omega), trivial⟩ rfl
    refine C_ifJ ⟨[(0, .s l), (10, I64 (min l.length 10 : Nat)), (11, I64 (i : Nat)), (5, U64 (n : Nat)), (6, I64 (i : Nat)), (7, .v (.int .u8 c)), (17, B (decide ((i = 9 ∧ 1 < c) ∨ (c = 0 ∧ 0 < i))))], []⟩ rfl (fun h1 => ?_) (fun h1 => ?_) (fun s h => C_le _ h ?_)
    · simp only [decide_eq_true_eq] at h1
      repeat (first | refine sc rfl ?_ | refine so rfl ?_ | refine sb rfl ?_)
      exact Le.sub [] ⟨rfl, rfl, rfl, rfl, rfl, rfl, congrArg (fun x => some (B x)) (by rw [Bool.eq_iff_iff]; simp only [decide_eq_true_eq]; omega), trivial⟩ rfl
    · simp only [decide_eq_false_iff_not] at h1
      repeat (first | refine sc rfl ?_ | refine so rfl ?_ | refine sb rfl ?_)
      have fin2 : ∀ x : Bool, x = decide ((i = 9 ∧ 1 < c) ∨ (c = 0 ∧ 0 < i)) → some (B x) = some (B (decide ((i = 9 ∧ 1 < c) ∨ (c = 0 ∧ 0 < i)))) := fun x hb => by rw [hb]
      refine O_case 26 rfl (fun h5 => ?_) (fun h5 => ?_) <;> simp at h5 <;> repeat (first | refine sc rfl ?_ | refine so rfl ?_ | refine sb rfl ?_)
      · exact Le.sub [] ⟨rfl, rfl, rfl, rfl, rfl, rfl, fin2 _ (by rw [Bool.eq_iff_iff]; simp; omega), trivial⟩ rfl
      · exact Le.sub [] ⟨rfl, rfl, rfl, rfl, rfl, rfl, fin2 _ (by rw [Bool.eq_iff_iff]; simp; omega), trivial⟩ rfl
    repeat (first | refine sc rfl ?_ | refine so rfl ?_ | refine sb rfl ?_)
    refine C_if rfl (fun h1 => ?_) (fun h1 => ?_)
    · have h2 := key.2 (of_decide_eq_true h1)
      repeat (first | refine sc rfl ?_ | refine so rfl ?_ | refine sb rfl ?_)
      exact ⟨_, rfl, rfl, fin (0, 0, 1) _ (by rw [ht, comb_bad hi.1 hc h2]) rfl⟩
    have h2 : ¬ ((f = 0 ∧ 1 < c) ∨ (c = 0 ∧ decide (0 < i) = true)) := fun hh => of_decide_eq_false h1 (key.1 hh)
    have hp9 := pow_le9 (i := i) (by omega)
    have hm : c % 128 * 128 ^ i ≤ 127 * 128 ^ i := Nat.mul_le_mul_right _ (by omega)
    have hsum : n + c % 128 * 128 ^ i < 18446744073709551616 := by
      by_cases h9 : i = 9
      · subst h9
        have h3 : c ≤ 1 := by omega
        have h4 : c % 128 * 128 ^ 9 ≤ 1 * 128 ^ 9 := Nat.mul_le_mul_right _ (by omega)
        omega
      · have h4 : 128 ^ i ≤ 128 ^ 8 := Nat.pow_le_pow_right (by omega) (by omega)
        omega
    repeat (first | refine sc rfl ?_ | refine so rfl ?_ | refine sb rfl ?_ | refine ⟨by omega, ?_⟩)
    rw [w64 (x := 7 * (i : Int)) (by omega) (by omega)]
    refine ⟨by omega, ?_⟩
    have hv : bitsV .or .u64 (n : Int) (IntKind.u64.wrap (IntKind.u64.wrap (bitsV .and .u8 (c : Int) 127) * 2 ^ min (7 * (i : Int)).toNat IntKind.u64.bits)) = ((n + c % 128 * 128 ^ i : Nat) : Int) := by
      rw [and127 c hc256, u64wrap (x := ((c % 128 : Nat) : Int)) (by omega) (by omega), show IntKind.u64.bits = 64 from rfl, show min (7 * (i : Int)).toNat 64 = 7 * i by omega]
      have h3 : ((c % 128 : Nat) : Int) * 2 ^ (7 * i) = ((c % 128 * 128 ^ i : Nat) : Int) := by
        have h2 : (128 : Nat) ^ i = 2 ^ (7 * i) := by rw [Nat.pow_mul]
        rw [h2]
        rw [Int.natCast_mul, Int.natCast_pow]
        rfl
      rw [h3, u64wrap (by omega) (by omega), or64 n _ i hn hsum]
    repeat (first | refine sc rfl ?_ | refine so rfl ?_ | refine sb rfl ?_)
    rw [hv]
    repeat (first | refine sc rfl ?_ | refine so rfl ?_ | refine sb rfl ?_)
    refine C_if rfl (fun h3 => ?_) (fun h3 => ?_) <;> simp only [decide_eq_true_eq, decide_eq_false_iff_not] at h3
    · repeat (first | refine sc rfl ?_ | refine so rfl ?_ | refine sb rfl ?_)
      rw [w64 (by omega) (by omega)]
      exact ⟨_, rfl, rfl, fin (n + c % 128 * 128 ^ i, i + 1, 0) _ (by rw [ht, comb_last hi.1 hc h2 (by omega)]) rfl⟩
    · repeat (first | refine sc rfl ?_ | refine so rfl ?_ | refine sb rfl ?_)
      rw [w64 (by omega) (by omega)]
      refine ⟨(i + 1, n + c % 128 * 128 ^ i), ⟨by simp only []; omega, by simp only []; omega, ?_, ?_⟩, by simp only []; omega, Le.sub [] ⟨rfl, rfl, rfl, rfl, trivial⟩ rfl⟩
      · simp only [Nat.pow_succ]
        omega
      · simp only []
        rw [ht, comb_step hi.1 hc h2 (by omega), show 10 - (i + 1) = f by omega, show decide (0 < i + 1) = true from decide_eq_true (by omega)]
  · repeat (first | refine sc rfl ?_ | refine so rfl ?_ | refine sb rfl ?_ | refine C_scope ?_)
    refine ⟨_, rfl, rfl, fin (0, 0, 2) _ ?_ rfl⟩
    rw [ht, comb_end (by omega)]

def pw (i : Nat) : Nat := if i ≤ 9 then 128 ^ i else 0
theorem pw_step {i : Nat} (h : i < 10) : IntKind.u64.wrap ((pw i : Nat) * 128 : Int) = ((pw (i + 1) : Nat) : Int) := by
  unfold pw
  rw [if_pos (by omega)]
  by_cases h9 : i = 9
  · subst h9; decide
  · rw [if_pos (by omega), Nat.pow_succ]
    have : 128 ^ i ≤ 128 ^ 8 := Nat.pow_le_pow_right (by omega) (by omega)
    rw [show ((128 ^ i : Nat) : Int) * 128 = ((128 ^ i * 128 : Nat) : Int) by rw [Int.natCast_mul]; rfl]
    exact u64wrap (by omega) (by omega)

theorem refTake01_p (l : List UInt8) (hl : l.length ≤ 9223372036854775807) : FnP Tryz.prog 89 [.s l] (· = tkA (tk l)) := by
  refine FnP.intro Tryz.tabOK Tryz.wide_ Tryz.func89 rfl (by decide) rfl (fun X => ?_)
  have fin : ∀ (t : TK) (r : AV), tk l = t → r = tkA t → r = tkA (tk l) := fun t r h hr => by rw [hr, h]
  repeat (first | refine sc rfl ?_ | refine so rfl ?_ | refine sb rfl ?_)
  refine C_loop (fun q : Nat × Nat => ⟨[(0, .s l), (7, I64 (q.1 : Nat)), (5, U64 (q.2 : Nat)), (6, U64 (pw q.1 : Nat))], []⟩)
    (fun q => q.1 ≤ 10 ∧ q.1 ≤ l.length ∧ q.2 < 128 ^ q.1 ∧ tk l = comb q.1 q.2 (tkS (10 - q.1) (decide (0 < q.1)) (l.drop q.1))) (fun q => 10 - q.1) (0, 0) ⟨by decide, by simp only []; omega, by decide, tk_comb l⟩
    (Le.sub [] ⟨rfl, rfl, rfl, rfl, trivial⟩ rfl) ?_
  rintro ⟨i, n⟩ ⟨hi10, hil, hn, ht⟩
  simp only [] at hi10 hil hn ht
  repeat (first | refine sc rfl ?_ | refine so rfl ?_ | refine sb rfl ?_)
  refine O_join ⟨[(0, .s l), (7, I64 (i : Nat)), (5, U64 (n : Nat)), (6, U64 (pw i : Nat)), (16, B (decide (i < l.length ∧ i < 10)))], []⟩ ?_ (fun s h => C_le _ h ?_)
  · have fin2 : ∀ x : Bool, x = decide (i < l.length ∧ i < 10) → some (B x) = some (B (decide (i < l.length ∧ i < 10))) := fun x hb => by rw [hb]
    refine O_case 13 rfl (fun h5 => ?_) (fun h5 => ?_) <;> simp at h5 <;> repeat (first | refine sc rfl ?_ | refine so rfl ?_ | refine sb rfl ?_)
    · exact Le.sub [] ⟨rfl, rfl, rfl, rfl, fin2 _ (by rw [Bool.eq_iff_iff]; simp; omega), trivial⟩ rfl
    · exact Le.sub [] ⟨rfl, rfl, rfl, rfl, fin2 _ (by rw [Bool.eq_iff_iff]; simp; omega), trivial⟩ rfl
  refine C_if rfl (fun h => ?_) (fun h => ?_) <;> simp only [decide_eq_true_eq, decide_eq_false_iff_not] at h
  · have hi : i < l.length ∧ i < 10 := by omega
    obtain ⟨f, hf⟩ : ∃ f, 10 - i = f + 1 := ⟨9 - i, by omega⟩
    rw [hf] at ht
    obtain ⟨c, hc⟩ : ∃ c, by_ l i = c := ⟨_, rfl⟩
    have hc256 : c < 256 := by rw [← hc]; exact by_lt l i
    have key : ((f = 0 ∧ 1 < c) ∨ (c = 0 ∧ decide (0 < i) = true)) ↔ ((i = 9 ∧ 1 < c) ∨ (c = 0 ∧ 0 < i)) := by simp only [decide_eq_true_eq]; omega
    repeat (first | refine sc rfl ?_ | refine so rfl ?_ | refine sb rfl ?_ | refine And.intro (by omega) ?_)
    rw [Int.toNat_natCast, getD_by, hc, u64wrap (x := (c : Int)) (by omega) (by omega)]
    repeat (first | refine sc rfl ?_ | refine so rfl ?_ | refine sb rfl ?_)
    refine O_join ⟨[(0, .s l), (7, I64 (i : Nat)), (5, U64 (n : Nat)), (6, U64 (pw i : Nat)), (8, U64 (c : Nat)), (36, B (decide ((i = 9 ∧ 1 < c) ∨ (c = 0 ∧ 0 < i))))], []⟩ ?_ (fun s h => C_le _ h ?_)
    · have fin2 : ∀ x : Bool, x = decide ((i = 9 ∧ 1 < c) ∨ (c = 0 ∧ 0 < i)) → some (B x) = some (B (decide ((i = 9 ∧ 1 < c) ∨ (c = 0 ∧ 0 < i)))) := fun x hb => by rw [hb]
      refine O_case 25 rfl (fun h5 => ?_) (fun h5 => ?_) <;> simp at h5 <;> repeat (first | refine sc rfl ?_ | refine so rfl ?_ | refine sb rfl ?_)
      · refine O_case 29 rfl (fun h6 => ?_) (fun h6 => ?_) <;> simp at h6 <;> repeat (first | refine sc rfl ?_ | refine so rfl ?_ | refine sb rfl ?_)
        · exact Le.sub [] ⟨rfl, rfl, rfl, rfl, rfl, fin2 _ (by rw [Bool.eq_iff_iff]; simp; omega), trivial⟩ rfl
        · refine O_case 32 rfl (fun h7 => ?_) (fun h7 => ?_) <;> simp at h7 <;> repeat (first | refine sc rfl ?_ | refine so rfl ?_ | refine sb rfl ?_)
          · exact Le.sub [] ⟨rfl, rfl, rfl, rfl, rfl, fin2 _ (by rw [Bool.eq_iff_iff]; simp; omega), trivial⟩ rfl
          · exact Le.sub [] ⟨rfl, rfl, rfl, rfl, rfl, fin2 _ (by rw [Bool.eq_iff_iff]; simp; omega), trivial⟩ rfl
      · refine O_case 32 rfl (fun h7 => ?_) (fun h7 => ?_) <;> simp at h7 <;> repeat (first | refine sc rfl ?_ | refine so rfl ?_ | refine sb rfl ?_)
        · exact Le.sub [] ⟨rfl, rfl, rfl, rfl, rfl, fin2 _ (by rw [Bool.eq_iff_iff]; simp; omega), trivial⟩ rfl
        · exact Le.sub [] ⟨rfl, rfl, rfl, rfl, rfl, fin2 _ (by rw [Bool.eq_iff_iff]; simp; omega), trivial⟩ rfl
    refine C_if rfl (fun h1 => ?_) (fun h1 => ?_)
    · have h2 := key.2 (of_decide_eq_true h1)
      repeat (first | refine sc rfl ?_ | refine so rfl ?_ | refine sb rfl ?_)
      exact ⟨_, rfl, rfl, fin (0, 0, 1) _ (by rw [ht, comb_bad hi.1 hc h2]) rfl⟩
    have h2 : ¬ ((f = 0 ∧ 1 < c) ∨ (c = 0 ∧ decide (0 < i) = true)) := fun hh => of_decide_eq_false h1 (key.1 hh)
    have hp9 := pow_le9 (i := i) (by omega)
    have hm : c % 128 * 128 ^ i ≤ 127 * 128 ^ i := Nat.mul_le_mul_right _ (by omega)
    have hsum : n + c % 128 * 128 ^ i < 18446744073709551616 := by
      by_cases h9 : i = 9
      · subst h9
        have h3 : c ≤ 1 := by omega
        have h4 : c % 128 * 128 ^ 9 ≤ 1 * 128 ^ 9 := Nat.mul_le_mul_right _ (by omega)
        omega
      · have h4 : 128 ^ i ≤ 128 ^ 8 := Nat.pow_le_pow_right (by omega) (by omega)
        omega
    have hpw : pw i = 128 ^ i := by unfold pw; rw [if_pos (by omega)]
    repeat (first | refine sc rfl ?_ | refine so rfl ?_ | refine sb rfl ?_ | refine And.intro (by omega) ?_)
    have hv : IntKind.u64.wrap ((n : Int) + IntKind.u64.wrap ((c : Int).tmod 128 * ((pw i : Nat) : Int))) = ((n + c % 128 * 128 ^ i : Nat) : Int) := by
      rw [Int.tmod_eq_emod_of_nonneg (by omega), hpw, show (c : Int) % 128 * ((128 ^ i : Nat) : Int) = ((c % 128 * 128 ^ i : Nat) : Int) by rw [Int.natCast_mul]; rfl, u64wrap (x := ((c % 128 * 128 ^ i : Nat) : Int)) (by omega) (by omega), show (n : Int) + ((c % 128 * 128 ^ i : Nat) : Int) = ((n + c % 128 * 128 ^ i : Nat) : Int) by omega, u64wrap (by omega) (by omega)]
    rw [hv, pw_step hi.2]
    repeat (first | refine sc rfl ?_ | refine so rfl ?_ | refine sb rfl ?_)
    refine C_if rfl (fun h3 => ?_) (fun h3 => ?_) <;> simp only [decide_eq_true_eq, decide_eq_false_iff_not] at h3
    · repeat (first | refine sc rfl ?_ | refine so rfl ?_ | refine sb rfl ?_)
      rw [w64 (by omega) (by omega)]
      exact ⟨_, rfl, rfl, fin (n + c % 128 * 128 ^ i, i + 1, 0) _ (by rw [ht, comb_last hi.1 hc h2 (by omega)]) rfl⟩
    · repeat (first | refine sc rfl ?_ | refine so rfl ?_ | refine sb rfl ?_)
      rw [w64 (by omega) (by omega)]
      refine ⟨(i + 1, n + c % 128 * 128 ^ i), ⟨by simp only []; omega, by simp only []; omega, ?_, ?_⟩, by simp only []; omega, Le.sub [] ⟨rfl, rfl, rfl, rfl, trivial⟩ rfl⟩
      · simp only [Nat.pow_succ]
        omega
      · simp only []
        rw [ht, comb_step hi.1 hc h2 (by omega), show 10 - (i + 1) = f by omega, show decide (0 < i + 1) = true from decide_eq_true (by omega)]
  · repeat (first | refine sc rfl ?_ | refine so rfl ?_ | refine sb rfl ?_)
    refine ⟨_, rfl, rfl, fin (0, 0, 2) _ ?_ rfl⟩
    rw [ht, comb_end (by omega)]

end Go.Proofs

/- Regions whose order is drawn, in rounds of ranges over functions. -/
set_option linter.unusedSimpArgs false
set_option linter.unusedVariables false
set_option maxRecDepth 100000
namespace Go

section
variable {P : Program} {ops : Array Oper} {md : Region.Mode} {Q : Exit → Act → World → Prop}

def noDefer : Op → Bool
  | .defer _ => false
  | _ => true

theorem semAt_nd {ro : Option Nat} {ρ : Operand → Value} {o : Oper} (h : noDefer o.op = true) : o.semAt ro ρ = execOp ρ o :=
  Oper.semAt_eq ro ρ o (fun c hc => by rw [hc] at h; cases h)

theorem Oper.wp_round {l n : Nat} {o : Oper} {a : Act} {w : World} {K K' : Act → World → Prop} (hd : noDefer o.op = true) (hK : ∀ a w, K a w → K' a w)
    (h : o.wp P a w K Q) : o.wpIn (Fence.wide.inRound l) n P a w K' Q := by
  refine ⟨fun _ _ => trivial, ?_⟩
  rw [semAt_nd hd]
  unfold Oper.wp at h
  generalize (execOp a.eval o).run P w = r at h ⊢
  cases r with
  | ok x w' =>
    cases x <;> simp only [Oper.upon] at h <;> simp only [Oper.uponIn]
    all_goals first | exact hK _ _ h | exact h.elim | skip
    case enter f args =>
      refine ⟨fun h0 => (by cases h0), ?_⟩
      refine CallsIn.inRound l (callsIn_wide.2 (h.mono ?_))
      intro e w2 h2
      cases e with
      | returned v => exact hK _ _ h2
      | panicked c => exact h2
      | outgrown => exact h2
    case row r args =>
      refine ⟨fun h0 => (by cases h0), ?_⟩
      have h3 : RowsIn Fence.wide (n - 1) P r args w' (fun v w'' => K' (a.put o.dst v) w'') := fun c cs _ => by
        obtain ⟨v, w2, r2, s⟩ := h c cs
        exact ⟨v, w2, hK _ _ r2, stepsIn_wide.2 s⟩
      exact h3
  | halt x w' => cases x <;> simp only [Oper.upon] at h <;> simp only [Oper.uponIn] <;> exact h

theorem wpOp_round {l n i : Nat} {a : Act} {w : World} {K K' : Act → World → Prop} (hd : ∀ o : Oper, ops[i]? = some o → noDefer o.op = true) (hQ : ¬LetsOut Q) (hK : ∀ a w, K a w → K' a w)
    (h : wpOp P ops Q i K a w) : wpOpIn (Fence.wide.inRound l) n P ops Q i K' a w := by
  unfold wpOp at h
  unfold wpOpIn
  split
  · rename_i ho; simp only [ho] at h; exact hK _ _ h
  · rename_i o ho
    simp only [ho] at h
    split
    · rename_i hw
      simp only [hw, if_true] at h
      rcases h with h | h
      · exact Oper.wp_round (hd o ho) hK h
      · exact absurd h.2 hQ
    · rename_i hw
      simp only [hw] at h
      exact ⟨fun _ _ => trivial, hK _ _ h⟩

theorem wpAny_round {l n : Nat} (hd : ∀ (i : Nat) (o : Oper), ops[i]? = some o → noDefer o.op = true) (hQ : ¬LetsOut Q) : ∀ (fuel : Nat) (listed : Array Bool) (a : Act) (w : World),
    wpAny P md ops Q fuel listed a w → wpAnyIn (Fence.wide.inRound l) n P md ops Q fuel listed a w
  | 0, _, _, _, h => h
  | fuel + 1, listed, a, w, h => ⟨h.1, fun i hi => wpOp_round (hd i) hQ (fun a w => wpAny_round hd hQ fuel _ a w) (h.2 i hi)⟩

/-- A drawn region in a round: by what any order does. -/
theorem round_region_any {l n id : Nat} {a : Act} {w : World} (hm : P.follows .mixedOrders = true) (hd : ops.toList.all (fun o : Oper => noDefer o.op) = true) (hQ : ¬LetsOut Q)
    (h : wpAny P .any ops Q ops.size (Array.replicate ops.size false) a { w with drawn := w.drawn + 1 }) : (Code.region id ops true).wpIn (Fence.wide.inRound l) n P Q a w :=
  wpIn_region_any hm (wpAny_round (fun i o ho => List.all_eq_true.1 hd o (Array.mem_toList_iff.2 (Array.mem_of_getElem? ho))) hQ _ _ _ _ h)

theorem round_region_still {l n id : Nat} {a : Act} {w : World} {L : List Oper} (hm : P.follows .mixedOrders = true) (hB : Region.lexB .any L.toArray = true) (hd : L.all (fun o : Oper => noDefer o.op) = true) (hQ : ¬LetsOut Q)
    (h : wpStill P L.toArray { w with drawn := w.drawn + 1 } (fun a' => Q .normal a' { w with drawn := w.drawn + 1 }) L a) : (Code.region id L.toArray true).wpIn (Fence.wide.inRound l) n P Q a w := by
  simp only [Region.lexB, Bool.and_eq_true] at hB
  refine round_region_any hm (by simpa using hd) hQ (wpAny_of_still (Q := fun a' => Q .normal a' { w with drawn := w.drawn + 1 }) (fun _ h => h) _ _ _ ?_)
  have := wpAnyS_lex (md := .any) hB.1 L 0 (Array.replicate L.length false) a (by simp) (by simpa using hB.2) h
  simpa using this
theorem round_region_still_tail {l m id : Nat} {a : Act} {w : World} {L : List Oper} (n : Nat) (hm : P.follows .mixedOrders = true) (hB : Region.lexTailB .any L.toArray n = true) (hd : L.all (fun o : Oper => noDefer o.op) = true) (hQ : ¬LetsOut Q)
    (h : wpStill P L.toArray { w with drawn := w.drawn + 1 } (fun a' => wpList P L.toArray Q (L.drop n) a' { w with drawn := w.drawn + 1 }) (L.take n) a) : (Code.region id L.toArray true).wpIn (Fence.wide.inRound l) m P Q a w := by
  simp only [Region.lexTailB, Bool.and_eq_true, decide_eq_true_eq] at hB
  obtain ⟨⟨⟨⟨hsel, hn⟩, hs⟩, hc⟩, hlex⟩ := hB
  have hn' : n < L.length := by simpa using hn
  have htl : (L.take n).length = n := by simp; omega
  have hdl : (L.drop n).length = L.toArray.size - n := by simp
  have inv0 : HeadInv .any L.toArray n (Array.replicate L.toArray.size false) :=
    ⟨by simp, fun j oj _ hl => (by rw [getD_replicate_false] at hl; cases hl), fun t _ ht => getD_in (by simpa using ht) (getD_replicate_false _ _)⟩
  have H := wpAnyL_lex (md := .any) (g := L.toArray.size - n) hsel hs hc hn (L.take n) 0 _ a (fun j hj => by
    have hj' : j < n := by rw [htl] at hj; exact hj
    simp [hj']) (by simpa using htl) inv0 (by rw [htl]; exact hlex) h
  refine round_region_any hm (by simpa using hd) hQ ?_
  have := wpAny_of_head (Q' := Q) (g := L.toArray.size - n) (fun listed a' hL => by
    have := wpAny_of_seq (md := .any) (Q' := Q) (L.drop n) n listed a' { w with drawn := w.drawn + 1 } (fun j => by simp [List.getElem?_drop]) (by rw [hdl]; exact hL.1) hL.2
    rwa [hdl] at this) _ _ _ H
  rw [htl, show n + (L.toArray.size - n) = L.toArray.size by omega] at this
  exact this
end
end Go

/- The places of a configuration: the iterator. -/
set_option linter.unusedSimpArgs false
set_option linter.unusedVariables false
set_option maxRecDepth 100000
namespace Go.Proofs
open Go.RowKit Go.Shelf

attribute [local go_sem] Oper.semAt_some

def loP (i : Nat) : Int := if i = 0 then 1040 else 0
def hiP (i : Nat) : Int := if i = 4 then 64 else if i = 5 then 64 else if i = 6 then 16 else 1048576
abbrev plV (B i : Nat) : Value := .agg #[.pointer (some ⟨B, i, none⟩), .int .i64 (loP i), .int .i64 (hiP i)]
abbrev encP (B i : Nat) : Array Value := #[.int .i64 (i : Int), plV B i]
def arrP (B : Nat) : List Value := [.pointer (some ⟨B, 0, none⟩), .int .i64 1040, .int .i64 1048576, .pointer (some ⟨B, 1, none⟩), .int .i64 0, .int .i64 1048576, .pointer (some ⟨B, 2, none⟩), .int .i64 0, .int .i64 1048576,
  .pointer (some ⟨B, 3, none⟩), .int .i64 0, .int .i64 1048576, .pointer (some ⟨B, 4, none⟩), .int .i64 0, .int .i64 64, .pointer (some ⟨B, 5, none⟩), .int .i64 0, .int .i64 64, .pointer (some ⟨B, 6, none⟩), .int .i64 0, .int .i64 16,
  .pointer (some ⟨B, 7, none⟩), .int .i64 0, .int .i64 1048576, .pointer (some ⟨B, 8, none⟩), .int .i64 0, .int .i64 1048576]
theorem ntmps232_ : Tryz.f232.ntmps = 16 := by kernel_rfl

open Go.Sy in
theorem RepL_v {e : Env} : ∀ {l zs : List Value}, RepL e (l.map .v) zs → zs = l
  | [], zs, h => by simpa [RepL] using h
  | x :: l, zs, h => by
    simp only [List.map_cons, RepL] at h
    obtain ⟨z, t, rfl, h1, _, h2⟩ := h
    simp only [Rep] at h1
    rw [h1, RepL_v h2]
open Go.Sy in
theorem RepL_mkv {e : Env} : ∀ {l : List Value}, (∀ x ∈ l, x.oneCell' = true) → RepL e (l.map .v) l
  | [], _ => by simp [RepL]
  | x :: l, h => by
    simp only [List.map_cons, RepL]
    exact ⟨x, l, rfl, by simp [Rep], h x (List.mem_cons_self ..), RepL_mkv (fun y hy => h y (List.mem_cons_of_mem _ hy))⟩
/-- The load of an aggregate that lies in a block whole. -/
theorem load_whole {t b : Nat} {i : Go.Sy.TI} (ht : Tryz.tab t = some i) {T : TypeId} {l : List Value} {W : World} (hg : W.heap[b]? = some (.cells l.toArray T (0, 0))) (h1 : ∀ x ∈ l, x.oneCell' = true)
    (hl : Go.Sy.loadA i (l.map .v) = some (.agg (l.map .v))) : (loadVar t ⟨b, 0, none⟩).run Tryz.prog W = .ok (.agg l.toArray) W := by
  obtain ⟨v, h3, h4⟩ := Go.Sy.load_sound Tryz.tabOK ht (e := ⟨Go.Sy.IM.empty, fun _ => 0, fun _ => undef⟩) (w := W) (b := b) (o := 0) (cells := l.map .v)
    (by have := Go.Sy.readable_bp (e := ⟨Go.Sy.IM.empty, fun _ => 0, fun _ => undef⟩) hg (cells := l.map .v) (by simpa using RepL_mkv h1) 0; simpa using this) hl
  simp only [Go.Sy.Rep] at h3
  obtain ⟨ys, rfl, h5⟩ := h3
  have h6 := RepL_v h5
  rw [h4 W (Go.Sy.SameAs.refl W)]
  congr 2
  rw [← h6]
theorem arrP_one (B : Nat) : ∀ x ∈ arrP B, x.oneCell' = true := by
  intro x hx
  simp only [arrP, List.mem_cons, List.not_mem_nil, or_false] at hx
  rcases hx with rfl | rfl | rfl | rfl | rfl | rfl | rfl | rfl | rfl | rfl | rfl | rfl | rfl | rfl | rfl | rfl | rfl | rfl | rfl | rfl | rfl | rfl | rfl | rfl | rfl | rfl | rfl <;> rfl
theorem load_arr {W : World} {g B : Nat} (hg : W.heap[g]? = some (.cells (arrP B).toArray 388 (0, 0))) : (loadVar 388 ⟨g, 0, none⟩).run Tryz.prog W = .ok (.agg (arrP B).toArray) W :=
  load_whole (i := _) rfl hg (arrP_one B) rfl

theorem LI_step {F : Fence} {n : Nat} {P : Program} {ops : Array Oper} {Q : Exit → Act → World → Prop} {o : Oper} {rest : List Oper} {a : Act} {w w' : World} {v : Value} (hg : o.guard = none) (hd : noDefer o.op = true)
    (hab : ∀ f, o.about P w a.eval = some f → F.fn f) (hv : (execOp a.eval o).run P w = .ok (.value v) w') (k : wpListIn F n P ops Q rest (a.put o.dst v) w') : wpListIn F n P ops Q (o :: rest) a w := by
  unfold wpListIn
  have hw : Region.wanted o (yielded ops a.tmps) = true := by unfold Region.wanted; rw [hg]
  rw [if_pos hw]
  refine ⟨hab, ?_⟩
  rw [semAt_nd hd, hv]
  exact k

theorem idx_arr {w : World} {B i : Nat} (hi : i < 9) : (Instr.index 388 (.agg (arrP B).toArray) (.int .i64 (i : Int))).run Tryz.prog w = .ok (plV B i) w := by
  rcases (by omega : i = 0 ∨ i = 1 ∨ i = 2 ∨ i = 3 ∨ i = 4 ∨ i = 5 ∨ i = 6 ∨ i = 7 ∨ i = 8) with rfl | rfl | rfl | rfl | rfl | rfl | rfl | rfl | rfl
  all_goals (simp [Instr.index, go_sem]; rfl)

set_option maxHeartbeats 4000000 in
theorem places1_in (F : Fence) (n : Nat) (h7 : F.fn 232) (hro : F.round = none) (hn : 1 ≤ n) (l g B : Nat) (J Jx : List Nat → World → Prop)
    (W : World) (hJ : AbidesFrom W.heap.size J)
    (hY : ∀ pre x W, J pre W → pre.length < 9 → x = pre.length → YieldAt F (n - 1) Tryz.prog l (encP B x) W fun e W' =>
      (e = .returned (.bool true) ∧ J (pre ++ [x]) W' ∧ KeepsWalks W W') ∨ (e = .returned (.bool false) ∧ Jx (pre ++ [x]) W'))
    (hg : W.heap[g]? = some (.cells (arrP B).toArray 388 (0, 0))) (h0 : J [] W) :
    CallsIn F n Tryz.prog 232 #[.func (.yield l) #[] #[], .pointer (some ⟨g, 0, none⟩)] W fun e W' => (∃ v, e = .returned v) ∧
      ((∃ ys, ys = List.range 9 ∧ J ys W') ∨ (∃ pre, (∃ k, k ≤ 9 ∧ pre = List.range k) ∧ Jx pre W')) := by
  refine callsIn_of_wp Tryz.func232 rfl h7 ?_ hro
  simp only [ntmps232_, List.size_toArray, List.length_cons, List.length_nil, Nat.reduceAdd, Nat.reduceSub, Array.replicate_succ, Array.replicate_zero, List.push_toArray, List.append_toArray, List.nil_append, List.cons_append]
  refine wpIn_seq (wpIn_region_lit (LI_step (v := .agg (arrP B).toArray) (w' := W) rfl rfl (fun f hf => by simp [Oper.about] at hf) ?_ ?_))
  · have e1 : (Act.eval { tmps := #[.func (.yield l) #[] #[], .pointer (some ⟨g, 0, none⟩), undef, undef, undef, undef, undef, undef, undef, undef, undef, undef, undef, undef, undef, undef], defers := [] } (.tmp 1)) = .pointer (some ⟨g, 0, none⟩) := rfl
    simp only [execOp, e1, Instr.loadAt, Instr.sureAddr, Sem.run_bind, Sem.run_pure, Result.andThen_ok, load_arr hg]
  obtain ⟨A, hA⟩ : ∃ A, (arrP B).toArray = A := ⟨_, rfl⟩
  have hix : ∀ (i : Nat) (w : World), i < 9 → (Instr.index 388 (.agg A) (.int .i64 (i : Int))).run Tryz.prog w = .ok (plV B i) w := fun i w h => by rw [← hA]; exact idx_arr h
  rw [hA]
  gi_wp2
  gi_loopw [6] (fun i wr => ∃ k : Nat, k ≤ 9 ∧ i = .int .i64 k ∧ J (List.range k) wr ∧ W.heap.size ≤ wr.heap.size) (fun i _ => 9 - (intOf i).toNat)
  case atStart => exact ⟨0, Nat.zero_le _, rfl, h0, Nat.le_refl _⟩
  case round =>
    obtain ⟨k, hk, rfl, hJs, hsz⟩ := hrel
    by_cases hlt : k < 9
    · have hJ2 : J (List.range k) (wr.alloc (.cells #[.pointer (some ⟨B, k, none⟩), .int .i64 (loP k), .int .i64 (hiP k)] 331)) := hJ _ _ _ none hJs (World.grownBy_alloc _ _ _) (fun r e => by cases e)
      obtain ⟨fn, tmps, assign, body, hy, hR⟩ := hY _ k _ hJ2 (by simpa using hlt) (by simp)
      have hidx := hix k wr hlt
      gi_wp2
      refine hR.mono ?_
      rintro e W3 (⟨rfl, hJ3, hk3⟩ | ⟨rfl, hJx3⟩)
      · gi_wp2
        go_roundw
        case rel => exact ⟨k + 1, by omega, by simp, by rw [List.range_succ]; exact hJ3, by have := hk3.size; simp at this; omega⟩
        case measure => simp [intOf]; omega
      · gi_wp2
        refine bodyPost_ret (results_none rfl _ _ _) rfl ?_
        exact ⟨⟨_, rfl⟩, .inr ⟨_, ⟨k + 1, by omega, (List.range_succ).symm⟩, hJx3⟩⟩
    · obtain rfl : k = 9 := by omega
      gi_wp2
      go_end0
      exact ⟨⟨_, rfl⟩, .inl ⟨_, rfl, hJs⟩⟩

theorem places_stops (F : Fence) (n : Nat) (h7 : F.fn 232) (hro : F.round = none) (hn : 1 ≤ n) (g B : Nat) (w : World) (hg : w.heap[g]? = some (.cells (arrP B).toArray 388 (0, 0))) :
    SeqStopsK F n Tryz.prog 232 #[.pointer (some ⟨g, 0, none⟩)] (fun i : Fin 9 => encP B i.val) KeepsWalks (fun xs => xs = List.finRange 9) (fun _ => True) 9 w := by
  intro l J Jx W hb hJ hJx hY h0
  have hgw : g < w.heap.size := (Array.getElem?_eq_some_iff.1 hg).1
  have hgW : W.heap[g]? = some (.cells (arrP B).toArray 388 (0, 0)) := (hb.block g hgw).trans hg
  refine (places1_in F n h7 hro hn l g B (fun pre W => ∃ q : List (Fin 9), q.map Fin.val = pre ∧ J q W) (fun pre W => ∃ q : List (Fin 9), q.map Fin.val = pre ∧ Jx q W) W ?_ ?_ hgW ⟨[], rfl, h0⟩).mono ?_
  · rintro s A C row ⟨q, h1, h2⟩ hg hr
    exact ⟨q, h1, hJ q A C row h2 hg hr⟩
  · rintro pre x W1 ⟨q, rfl, hq⟩ hl hx
    rw [List.length_map] at hl hx
    have hx9 : x < 9 := by omega
    obtain ⟨fn, tmps, assign, body, hy, hR⟩ := hY q ⟨x, hx9⟩ W1 hq hl
    refine ⟨fn, tmps, assign, body, hy, hR.mono ?_⟩
    rintro e W' (⟨h1, h2, h3⟩ | ⟨h1, h2⟩)
    · exact .inl ⟨h1, ⟨_, by simp, h2⟩, h3⟩
    · exact .inr ⟨h1, ⟨_, by simp, h2⟩⟩
  · rintro e W' ⟨hv, ⟨ys, rfl, q, hq, hJq⟩ | ⟨pre, _, q, hq, hJq⟩⟩
    · refine ⟨hv, .inl ⟨q, ?_, hJq⟩⟩
      have e2 : (List.finRange 9).map Fin.val = List.range 9 := rfl
      refine List.ext_getElem? (fun i => ?_)
      have e3 : (q.map Fin.val)[i]? = ((List.finRange 9).map Fin.val)[i]? := by rw [hq, e2]
      rw [List.getElem?_map, List.getElem?_map] at e3
      cases h1 : q[i]? with
      | none => rw [h1] at e3; cases h2 : (List.finRange 9)[i]? with
        | none => rfl
        | some y => rw [h2] at e3; cases e3
      | some z => rw [h1] at e3; cases h2 : (List.finRange 9)[i]? with
        | none => rw [h2] at e3; cases e3
        | some y =>
          rw [h2] at e3
          simp only [Option.map_some, Option.some.injEq] at e3
          rw [Fin.ext e3]
    · exact ⟨hv, .inr ⟨q, trivial, hJq⟩⟩
end Go.Proofs

/- The places of a configuration: the function that makes the iterator. -/
set_option linter.unusedSimpArgs false
set_option linter.unusedVariables false
set_option maxRecDepth 100000
namespace Go.Proofs
open Go.Sy Go.Lib

def z27 : List AV := [.v (.pointer none), I64 0, I64 0, .v (.pointer none), I64 0, I64 0, .v (.pointer none), I64 0, I64 0, .v (.pointer none), I64 0, I64 0, .v (.pointer none), I64 0, I64 0, .v (.pointer none), I64 0, I64 0, .v (.pointer none), I64 0, I64 0, .v (.pointer none), I64 0, I64 0, .v (.pointer none), I64 0, I64 0]
def CP9 (z : List AV) (b37 b38 : Bool) : List Ch := bif b37 then [.box 3 388 (bif b38 then z else z27)] else []
def PP9 : Pl := ⟨[[], [], [], [], [], [], [], [], [], [], [], [], [], [], [], [], [], [], [], [], [], [], [], [], [], [], [], [], [], [], [], [], [], [], [], [], [], [], [37]], [37, 38], [(37, 3)], []⟩

theorem places_A (b : Nat) : FnA Tryz.prog 192 [PT b 0] [] (fun r cs' => ∃ g, r = .p (cloRP 232 [PT g 0]) ∧ cs' = [boxA g 388 ((arrP b).map .v)]) := by
  refine FnA.intro Tryz.tabOK Tryz.wide_ Tryz.func192 rfl (by decide) rfl (fun X => ?_)
  repeat (first | refine sc rfl ?_ | refine so rfl ?_ | refine sb rfl ?_)
  refine C_drawM PP9 (fun L => CP9 ((arrP b).map .v) (L 37) (L 38)) rfl (by kernel_rfl) (fun L L' h => by show CP9 _ (L 37) (L 38) = CP9 _ (L' 37) (L' 38); rw [h 37 (by decide), h 38 (by decide)]) rfl ?_
  iterate 36 (refine sm rfl ⟨trivial, ?_⟩)
  refine SM (.agg ((arrP b).map .v)) rfl (fun L h1 h2 h3 => X_buildArr rfl rfl rfl rfl rfl rfl) ?_
  refine SM (.bp 3 0) rfl (fun L h1 h2 h3 => ?_) ?_
  · show StepX _ _ _ _ _ (CP9 ((arrP b).map .v) (L 37) (L 38)) (CP9 ((arrP b).map .v) true (L 38)) _ _ _
    rw [show L 37 = false from h3, h2 38 (show (37 : Nat) ∈ PP9.anc 38 by decide)]
    exact X_alloc rfl rfl rfl rfl (show ((37, 3) : Nat × Nat) ∈ PP9.cre by decide) rfl rfl rfl
  refine SM .bad rfl (fun L h1 h2 h3 => ?_) ?_
  · show StepX _ _ _ _ _ (CP9 ((arrP b).map .v) (L 37) (L 38)) (CP9 ((arrP b).map .v) (L 37) true) _ _ _
    rw [show L 38 = false from h3, h1 37 (show (37 : Nat) ∈ PP9.anc 38 by decide)]
    exact X_storeK rfl rfl rfl rfl rfl rfl rfl rfl rfl
  refine sm rfl ?_
  show SymC _ _ _ ⟨_, [.box 3 388 ((arrP b).map .v)]⟩ _
  refine C_absb 3 rfl rfl rfl (fun g => ?_)
  repeat (first | refine sc rfl ?_ | refine so rfl ?_ | refine sb rfl ?_)
  refine O_makeFunc rfl rfl rfl rfl ?_
  repeat (first | refine sc rfl ?_ | refine so rfl ?_ | refine sb rfl ?_)
  first
    | exact ⟨_, [_], _, rfl, pickA_perm (is := [0]) (As := [_]) rfl, rfl, g, rfl, rfl⟩
    | exact ⟨_, [_], _, rfl, pickA_perm (is := [1]) (As := [_]) rfl, rfl, g, rfl, rfl⟩
end Go.Proofs

/- Orders, rows, events: data (printed by gen.py) -/
set_option linter.unusedSimpArgs false
set_option linter.unusedVariables false
set_option maxRecDepth 100000
namespace Go.Proofs
open Go.Sy Go.Lib

structure Cf where
  quantum : Int
  rate : Int
  burst : Int
  mem : Int
  slots : Int
  outs : Int
  conns : Int
  state : Int
  decode : Int

instance : Inhabited Cf := ⟨⟨0, 0, 0, 0, 0, 0, 0, 0, 0⟩⟩
def Cf.c (x : Cf) : List AV := [I64 x.quantum, I64 x.rate, I64 x.burst, I64 x.mem, I64 x.slots, I64 x.outs, I64 x.conns, I64 x.state, I64 x.decode]
structure Ord where
  id : Int
  op : Int
  owner : Int
  conf : Cf

instance : Inhabited Ord := ⟨⟨0, 0, 0, default⟩⟩
def Ord.c (x : Ord) : List AV := [.v (.int .u64 x.id), I64 x.op, I64 x.owner, I64 x.conf.quantum, I64 x.conf.rate, I64 x.conf.burst, I64 x.conf.mem, I64 x.conf.slots, I64 x.conf.outs, I64 x.conf.conns, I64 x.conf.state, I64 x.conf.decode]
structure Nte where
  conn : Int
  owner : Int
  kind : Int
  body : List UInt8
  err : Int
  reply : List UInt8

instance : Inhabited Nte := ⟨⟨0, 0, 0, [], 0, []⟩⟩
def Nte.c (x : Nte) : List AV := [I64 x.conn, I64 x.owner, I64 x.kind, .s x.body, I64 x.err, .s x.reply]
structure Rw where
  fat : Int
  act : Int
  note : Nte

instance : Inhabited Rw := ⟨⟨0, 0, default⟩⟩
def Rw.c (x : Rw) : List AV := [I64 x.fat, I64 x.act, I64 x.note.conn, I64 x.note.owner, I64 x.note.kind, .s x.note.body, I64 x.note.err, .s x.note.reply]
structure Evt where
  kind : Int
  conn : Int
  num : Int
  bytes : List UInt8

instance : Inhabited Evt := ⟨⟨0, 0, 0, []⟩⟩
def Evt.c (x : Evt) : List AV := [I64 x.kind, I64 x.conn, .v (.int .u64 x.num), .s x.bytes]
structure Lod where
  tokens : Int
  mem : Int
  slots : Int
  outs : Int

instance : Inhabited Lod := ⟨⟨0, 0, 0, 0⟩⟩
structure Vw where
  conf : Cf
  rests : Bool
  load : Lod
  waits : Int
  cost : Int
  conns : Int
  state : Int
  kept : Int
  tombs : Int
  text : List UInt8

instance : Inhabited Vw := ⟨⟨default, false, default, 0, 0, 0, 0, 0, 0, []⟩⟩
structure Cal where
  id : Int
  wait : Int
  num : Int
  args : List UInt8

instance : Inhabited Cal := ⟨⟨0, 0, 0, []⟩⟩
def Cal.c (x : Cal) : List AV := [.v (.int .u64 x.id), I64 x.wait, I64 x.num, .s x.args]
structure Bnd where
  id : Int
  num : Int
  service : List UInt8
  method : List UInt8
  op : Int

instance : Inhabited Bnd := ⟨⟨0, 0, [], [], 0⟩⟩
def Bnd.c (x : Bnd) : List AV := [.v (.int .u64 x.id), I64 x.num, .s x.service, .s x.method, I64 x.op]
structure Frm where
  kind : Int
  flags : Int
  body : List UInt8

instance : Inhabited Frm := ⟨⟨0, 0, []⟩⟩
structure Itm where
  conn : Int
  frame : Frm
  arrived : Int

instance : Inhabited Itm := ⟨⟨0, default, 0⟩⟩
structure Rpl where
  id : Int
  status : Int
  data : List UInt8

instance : Inhabited Rpl := ⟨⟨0, 0, []⟩⟩
structure Stp where
  kind : Int
  most : Int

instance : Inhabited Stp := ⟨⟨0, 0⟩⟩
def Stp.c (x : Stp) : List AV := [I64 x.kind, I64 x.most]
structure Got where
  num : Int
  text : List UInt8
  fat : Int
  e : Int

instance : Inhabited Got := ⟨⟨0, [], 0, 0⟩⟩
structure Bdg where
  epoch : Int
  tag : Int

instance : Inhabited Bdg := ⟨⟨0, 0⟩⟩
structure Hlo where
  owner : Int
  epoch : Int
  tag : Int

instance : Inhabited Hlo := ⟨⟨0, 0, 0⟩⟩
end Go.Proofs

/- Small functions (printed by gen.py) -/
set_option linter.unusedSimpArgs false
set_option linter.unusedVariables false
set_option maxRecDepth 100000
namespace Go.Proofs
open Go.Sy Go.Lib

noncomputable def AsksB_F (k : Int) : Option (Bool) :=
  Option.bind (α := Bool) (cond (k == 2) (some (k == 2)) (cond (k == 3) (some (k == 3)) (cond (k == 4) (some (k == 4)) (cond (k == 6) (some (k == 6)) (some (k == 7)))))) (fun m1 => cond m1 (some true) (some false))
theorem AsksB_w (k : Int) (r : Bool) (h : AsksB_F k = some r) : FnP Tryz.prog 44 [I64 k] (· = B r) := by
  unfold AsksB_F at h
  refine FnP.intro Tryz.tabOK Tryz.wide_ Tryz.func44 rfl (by decide) rfl (fun X => ?_)
  refine sc rfl ?_
  refine sc rfl ?_
  iterate 1 (first | refine so rfl ?_ | refine sb rfl ?_)
  refine so rfl ?_
  refine sc rfl ?_
  refine sc rfl ?_
  refine sc rfl ?_
  iterate 1 (first | refine so rfl ?_ | refine sb rfl ?_)
  refine so rfl ?_
  refine sc rfl ?_
  refine sc rfl ?_
  refine sc rfl ?_
  refine sc rfl ?_
  iterate 2 (first | refine so rfl ?_ | refine sb rfl ?_)
  refine so rfl ?_
  obtain ⟨m1, hm1, h⟩ := bT h
  refine C_join ⟨[(4, B m1)], []⟩ ?_ (fun s hm1s => C_le _ hm1s ?_)
  · refine C_if rfl (fun hb2 => ?_) (fun hb2 => ?_)
    · replace hm1 := cT hb2 hm1
      refine sc rfl ?_
      obtain rfl := Option.some.inj hm1
      exact Le.sub [] ⟨rfl, trivial⟩ rfl
    · replace hm1 := cF hb2 hm1
      refine sc rfl ?_
      refine sc rfl ?_
      iterate 2 (first | refine so rfl ?_ | refine sb rfl ?_)
      refine so rfl ?_
      refine C_if rfl (fun hb3 => ?_) (fun hb3 => ?_)
      · replace hm1 := cT hb3 hm1
        refine sc rfl ?_
        obtain rfl := Option.some.inj hm1
        exact Le.sub [] ⟨rfl, trivial⟩ rfl
      · replace hm1 := cF hb3 hm1
        refine sc rfl ?_
        refine sc rfl ?_
        iterate 2 (first | refine so rfl ?_ | refine sb rfl ?_)
        refine so rfl ?_
        refine C_if rfl (fun hb4 => ?_) (fun hb4 => ?_)
        · replace hm1 := cT hb4 hm1
          refine sc rfl ?_
          obtain rfl := Option.some.inj hm1
          exact Le.sub [] ⟨rfl, trivial⟩ rfl
        · replace hm1 := cF hb4 hm1
          refine sc rfl ?_
          refine sc rfl ?_
          iterate 2 (first | refine so rfl ?_ | refine sb rfl ?_)
          refine so rfl ?_
          refine C_if rfl (fun hb5 => ?_) (fun hb5 => ?_)
          · replace hm1 := cT hb5 hm1
            refine sc rfl ?_
            obtain rfl := Option.some.inj hm1
            exact Le.sub [] ⟨rfl, trivial⟩ rfl
          · replace hm1 := cF hb5 hm1
            refine sc rfl ?_
            iterate 2 (first | refine so rfl ?_ | refine sb rfl ?_)
            refine so rfl ?_
            obtain rfl := Option.some.inj hm1
            exact Le.sub [] ⟨rfl, trivial⟩ rfl
  refine C_if rfl (fun hb6 => ?_) (fun hb6 => ?_)
  · replace h := cT hb6 h
    refine sc rfl ?_
    refine sc rfl ?_
    iterate 1 (first | refine so rfl ?_ | refine sb rfl ?_)
    refine so rfl ?_
    refine sc rfl ?_
    obtain rfl := Option.some.inj h
    exact ⟨_, rfl, rfl, rfl⟩
  · replace h := cF hb6 h
    refine sc rfl ?_
    refine sc rfl ?_
    refine sc rfl ?_
    iterate 1 (first | refine so rfl ?_ | refine sb rfl ?_)
    refine so rfl ?_
    refine sc rfl ?_
    obtain rfl := Option.some.inj h
    exact ⟨_, rfl, rfl, rfl⟩
end Go.Proofs

/- Small functions of the document (printed by gen.py) -/
set_option linter.unusedSimpArgs false
set_option linter.unusedVariables false
set_option maxRecDepth 100000
namespace Go.Proofs
open Go.Sy Go.Lib

noncomputable def ConfOfR_L2 (l : List Int) (s2 : Int) : Option ((Int) ⊕ ((Cf × Int) ⊕ (Unit))) :=
  cond (decide (s2 < 9)) (chk ((0 : Int) ≤ s2 ∧ s2 < (l.length : Int)) (cond (decide ((l.getD (Int.toNat s2) default) < 0)) (some (Sum.inr ((Sum.inl ((⟨0, 0, 0, 0, 0, 0, 0, 0, 0⟩ : Cf), 1))))) (chk ((0 : Int) ≤ s2 ∧ s2 < (l.length : Int)) (chk ((0 : Int) ≤ s2 ∧ s2 < (([1048576, 1048576, 1048576, 1048576, 64, 64, 16, 1048576, 1048576] : List Int).length : Int)) (cond (decide ((([1048576, 1048576, 1048576, 1048576, 64, 64, 16, 1048576, 1048576] : List Int).getD (Int.toNat s2) default) < (l.getD (Int.toNat s2) default))) (some (Sum.inr ((Sum.inl ((⟨0, 0, 0, 0, 0, 0, 0, 0, 0⟩ : Cf), 1))))) (some (Sum.inl (IntKind.i64.wrap (s2 + 1))))))))) (some (Sum.inr ((Sum.inr ()))))
noncomputable def ConfOfR_F (l : List Int) : Option (Cf × Int) :=
  cond ((l.length : Int) != 9) (some ((⟨0, 0, 0, 0, 0, 0, 0, 0, 0⟩ : Cf), 1)) (Option.bind (Iter (ConfOfR_L2 l) 0) (Sum.elim (fun c14 => some c14) (fun b7 => chk ((0 : Int) ≤ 0 ∧ 0 < (l.length : Int)) (cond (decide ((l.getD (Int.toNat 0) default) < 1040)) (some ((⟨0, 0, 0, 0, 0, 0, 0, 0, 0⟩ : Cf), 1)) (chk ((0 : Int) ≤ 0 ∧ 0 < (l.length : Int)) (chk ((0 : Int) ≤ 1 ∧ 1 < (l.length : Int)) (chk ((0 : Int) ≤ 2 ∧ 2 < (l.length : Int)) (chk ((0 : Int) ≤ 3 ∧ 3 < (l.length : Int)) (chk ((0 : Int) ≤ 4 ∧ 4 < (l.length : Int)) (chk ((0 : Int) ≤ 5 ∧ 5 < (l.length : Int)) (chk ((0 : Int) ≤ 6 ∧ 6 < (l.length : Int)) (chk ((0 : Int) ≤ 7 ∧ 7 < (l.length : Int)) (chk ((0 : Int) ≤ 8 ∧ 8 < (l.length : Int)) (some ((⟨l.getD (Int.toNat 0) default, l.getD (Int.toNat 1) default, l.getD (Int.toNat 2) default, l.getD (Int.toNat 3) default, l.getD (Int.toNat 4) default, l.getD (Int.toNat 5) default, l.getD (Int.toNat 6) default, l.getD (Int.toNat 7) default, l.getD (Int.toNat 8) default⟩ : Cf), 0)))))))))))))))
theorem ConfOfR_w (l : List Int) (r : Cf × Int) (h : ConfOfR_F l = some r) : FnP Tryz.prog 138 [SL 1 INTc l] (· = .tup [.agg (Cf.c r.1), I64 r.2]) := by
  unfold ConfOfR_F at h
  refine FnP.intro Tryz.tabOK Tryz.wide_ Tryz.func138 rfl (by decide) rfl (fun X => ?_)
  refine sc rfl ?_
  refine sc rfl ?_
  iterate 2 (first | refine so rfl ?_ | refine sb rfl ?_)
  refine so rfl ?_
  refine sc rfl ?_
  refine sc rfl ?_
  refine sc rfl ?_
  iterate 3 (first | refine so rfl ?_ | refine sb rfl ?_)
  refine so rfl ?_
  refine C_if rfl (fun hb1 => ?_) (fun hb1 => ?_)
  · replace h := cT hb1 h
    refine sc rfl ?_
    refine sc rfl ?_
    iterate 1 (first | refine so rfl ?_ | refine sb rfl ?_)
    iterate 2 (first | refine so rfl ?_ | refine sb rfl ?_)
    refine so rfl ?_
    refine sc rfl ?_
    obtain rfl := Option.some.inj h
    exact ⟨_, rfl, rfl, rfl⟩
  · replace h := cF hb1 h
    refine sc rfl ?_
    refine sc rfl ?_
    refine sc rfl ?_
    refine sb rfl ?_
    refine O_le _ (Le.lit 10 INTc ([1048576, 1048576, 1048576, 1048576, 64, 64, 16, 1048576, 1048576] : List Int) rfl rfl rfl (by intro j hj; match j, hj with | 0, _ => rfl | 1, _ => rfl | 2, _ => rfl | 3, _ => rfl | 4, _ => rfl | 5, _ => rfl | 6, _ => rfl | 7, _ => rfl | 8, _ => rfl)) ?_
    iterate 1 (first | refine so rfl ?_ | refine sb rfl ?_)
    refine so rfl ?_
    refine sc rfl ?_
    refine sc rfl ?_
    refine sc rfl ?_
    iterate 1 (first | refine so rfl ?_ | refine sb rfl ?_)
    refine so rfl ?_
    obtain ⟨o3, ho3, h⟩ := bT h
    refine C_joinP ((fun b7 : Unit => (⟨[(0, SL 1 INTc l), (2, .bp 2 0)], [.box 2 28 [I64 0, I64 0, I64 0, I64 0, I64 0, I64 0, I64 0, I64 0, I64 0]]⟩ : St)) (match o3 with | (.inl b7) => default | (.inr b7) => b7)) (∃ b, o3 = (.inr b)) ?_ (fun s hs hp => ?_)
    · refine sc rfl ?_
      refine C_iter (fun s2 : Int => ⟨[(0, SL 1 INTc l), (2, .bp 2 0), (4, SL 1 INTc ([1048576, 1048576, 1048576, 1048576, 64, 64, 16, 1048576, 1048576] : List Int)), (5, I64 s2)], [.box 2 28 [I64 0, I64 0, I64 0, I64 0, I64 0, I64 0, I64 0, I64 0, I64 0]]⟩) ho3 (Le.sub [2] ⟨rfl, rfl, rfl, rfl, trivial⟩ rfl) (fun s2 y4 hy5 hr6 => ?_)
      unfold ConfOfR_L2 at hy5
      refine sc rfl ?_
      refine sc rfl ?_
      refine sc rfl ?_
      iterate 2 (first | refine so rfl ?_ | refine sb rfl ?_)
      refine so rfl ?_
      refine C_if rfl (fun hb8 => ?_) (fun hb8 => ?_)
      · replace hy5 := cT hb8 hy5
        refine sc rfl ?_
        refine sc rfl ?_
        refine sc rfl ?_
        refine sc rfl ?_
        refine C_drawD rfl (by kernel_rfl) ?_
        iterate 2 (first | refine sd rfl ?_ | refine sdb rfl ?_)
        obtain ⟨g9, hy5⟩ := gT hy5
        refine sd rfl (And.intro g9 ?_)
        iterate 3 (first | refine sd rfl ?_ | refine sdb rfl ?_)
        refine D_case 5 rfl (fun hb10 => ?_) (fun hb10 => ?_)
        · replace hy5 := cT hb10 hy5
          iterate 10 (first | refine sd rfl ?_ | refine sdb rfl ?_)
          refine sd rfl ?_
          refine C_true rfl rfl ?_
          refine sc rfl ?_
          refine sc rfl ?_
          iterate 1 (first | refine so rfl ?_ | refine sb rfl ?_)
          iterate 2 (first | refine so rfl ?_ | refine sb rfl ?_)
          refine so rfl ?_
          refine sc rfl ?_
          obtain rfl := Option.some.inj hy5
          have ho32 := hr6 _ rfl
          subst ho32
          obtain rfl := Option.some.inj h
          exact ⟨_, rfl, rfl, rfl⟩
        · replace hy5 := cF hb10 hy5
          iterate 2 (first | refine sd rfl ?_ | refine sdb rfl ?_)
          obtain ⟨g11, hy5⟩ := gT hy5
          refine sd rfl (And.intro g11 ?_)
          iterate 3 (first | refine sd rfl ?_ | refine sdb rfl ?_)
          obtain ⟨g12, hy5⟩ := gT hy5
          refine sd rfl (And.intro g12 ?_)
          iterate 3 (first | refine sd rfl ?_ | refine sdb rfl ?_)
          refine sd rfl ?_
          refine C_if rfl (fun hb13 => ?_) (fun hb13 => ?_)
          · replace hy5 := cT hb13 hy5
            refine sc rfl ?_
            refine sc rfl ?_
            iterate 1 (first | refine so rfl ?_ | refine sb rfl ?_)
            iterate 2 (first | refine so rfl ?_ | refine sb rfl ?_)
            refine so rfl ?_
            refine sc rfl ?_
            obtain rfl := Option.some.inj hy5
            have ho32 := hr6 _ rfl
            subst ho32
            obtain rfl := Option.some.inj h
            exact ⟨_, rfl, rfl, rfl⟩
          · replace hy5 := cF hb13 hy5
            refine sc rfl ?_
            refine sc rfl ?_
            iterate 3 (first | refine so rfl ?_ | refine sb rfl ?_)
            refine so rfl ?_
            obtain rfl := Option.some.inj hy5
            exact ⟨_, rfl, Le.sub [2] ⟨rfl, rfl, rfl, rfl, trivial⟩ rfl⟩
      · replace hy5 := cF hb8 hy5
        refine sc rfl ?_
        obtain rfl := Option.some.inj hy5
        have ho32 := hr6 _ rfl
        subst ho32
        exact ⟨Le.sub [2] ⟨rfl, rfl, trivial⟩ rfl, ⟨_, rfl⟩⟩
    obtain ⟨b7, rfl⟩ := hp
    refine C_le ⟨[(0, SL 1 INTc l), (2, .bp 2 0)], [.box 2 28 [I64 0, I64 0, I64 0, I64 0, I64 0, I64 0, I64 0, I64 0, I64 0]]⟩ hs ?_
    refine sc rfl ?_
    refine sc rfl ?_
    refine sc rfl ?_
    iterate 1 (first | refine so rfl ?_ | refine sb rfl ?_)
    obtain ⟨g15, h⟩ := gT h
    refine so rfl (And.intro g15 ?_)
    iterate 2 (first | refine so rfl ?_ | refine sb rfl ?_)
    refine so rfl ?_
    refine C_if rfl (fun hb16 => ?_) (fun hb16 => ?_)
    · replace h := cT hb16 h
      refine sc rfl ?_
      refine sc rfl ?_
      iterate 1 (first | refine so rfl ?_ | refine sb rfl ?_)
      iterate 2 (first | refine so rfl ?_ | refine sb rfl ?_)
      refine so rfl ?_
      refine sc rfl ?_
      obtain rfl := Option.some.inj h
      exact ⟨_, rfl, rfl, rfl⟩
    · replace h := cF hb16 h
      refine sc rfl ?_
      refine sc rfl ?_
      refine C_drawT 1 28 rfl (by kernel_rfl) (by kernel_rfl) ?_
      iterate 1 (first | refine sd rfl ?_ | refine sdb rfl ?_)
      obtain ⟨g17, h⟩ := gT h
      refine sd rfl (And.intro g17 ?_)
      iterate 2 (first | refine sd rfl ?_ | refine sdb rfl ?_)
      obtain ⟨g18, h⟩ := gT h
      refine sd rfl (And.intro g18 ?_)
      iterate 2 (first | refine sd rfl ?_ | refine sdb rfl ?_)
      obtain ⟨g19, h⟩ := gT h
      refine sd rfl (And.intro g19 ?_)
      iterate 2 (first | refine sd rfl ?_ | refine sdb rfl ?_)
      obtain ⟨g20, h⟩ := gT h
      refine sd rfl (And.intro g20 ?_)
      iterate 2 (first | refine sd rfl ?_ | refine sdb rfl ?_)
      obtain ⟨g21, h⟩ := gT h
      refine sd rfl (And.intro g21 ?_)
      iterate 2 (first | refine sd rfl ?_ | refine sdb rfl ?_)
      obtain ⟨g22, h⟩ := gT h
      refine sd rfl (And.intro g22 ?_)
      iterate 2 (first | refine sd rfl ?_ | refine sdb rfl ?_)
      obtain ⟨g23, h⟩ := gT h
      refine sd rfl (And.intro g23 ?_)
      iterate 2 (first | refine sd rfl ?_ | refine sdb rfl ?_)
      obtain ⟨g24, h⟩ := gT h
      refine sd rfl (And.intro g24 ?_)
      iterate 2 (first | refine sd rfl ?_ | refine sdb rfl ?_)
      obtain ⟨g25, h⟩ := gT h
      refine sd rfl (And.intro g25 ?_)
      iterate 2 (first | refine sd rfl ?_ | refine sdb rfl ?_)
      refine sd rfl ?_
      iterate 2 (first | refine so rfl ?_ | refine sb rfl ?_)
      refine so rfl ?_
      refine sc rfl ?_
      obtain rfl := Option.some.inj h
      exact ⟨_, rfl, rfl, rfl⟩
noncomputable def ConfListR_F (c : Cf) : Option (List Int) :=
  some ([c.quantum, c.rate, c.burst, c.mem, c.slots, c.outs, c.conns, c.state, c.decode] : List Int)
theorem ConfListR_w (c : Cf) (r : List Int) (h : ConfListR_F c = some r) : FnP Tryz.prog 195 [.agg (Cf.c c)] (· = SL 1 INTc r) := by
  unfold ConfListR_F at h
  refine FnP.intro Tryz.tabOK Tryz.wide_ Tryz.func195 rfl (by decide) rfl (fun X => ?_)
  refine sc rfl ?_
  refine sc rfl ?_
  iterate 2 (first | refine so rfl ?_ | refine sb rfl ?_)
  refine so rfl ?_
  refine sc rfl ?_
  refine sc rfl ?_
  iterate 18 (first | refine so rfl ?_ | refine sb rfl ?_)
  refine sb rfl ?_
  refine O_le _ (Le.lit 21 INTc ([c.quantum, c.rate, c.burst, c.mem, c.slots, c.outs, c.conns, c.state, c.decode] : List Int) rfl rfl rfl (by intro j hj; match j, hj with | 0, _ => rfl | 1, _ => rfl | 2, _ => rfl | 3, _ => rfl | 4, _ => rfl | 5, _ => rfl | 6, _ => rfl | 7, _ => rfl | 8, _ => rfl)) ?_
  iterate 1 (first | refine so rfl ?_ | refine sb rfl ?_)
  refine so rfl ?_
  refine sc rfl ?_
  obtain rfl := Option.some.inj h
  exact ⟨_, rfl, rfl, rfl⟩
noncomputable def ConfCheckR_F (c : Cf) : Option (Int) :=
  Option.bind (ConfListR_F c) (fun r1 => Option.bind (ConfOfR_F r1) (fun r4 => some r4.2))
theorem ConfCheckR_w (c : Cf) (r : Int) (h : ConfCheckR_F c = some r) : FnP Tryz.prog 193 [.agg (Cf.c c)] (· = I64 r) := by
  unfold ConfCheckR_F at h
  refine FnP.intro Tryz.tabOK Tryz.wide_ Tryz.func193 rfl (by decide) rfl (fun X => ?_)
  refine sc rfl ?_
  refine sc rfl ?_
  iterate 2 (first | refine so rfl ?_ | refine sb rfl ?_)
  refine so rfl ?_
  refine sc rfl ?_
  refine sc rfl ?_
  iterate 1 (first | refine so rfl ?_ | refine sb rfl ?_)
  obtain ⟨r1, hr2, h⟩ := bT h
  refine O_call (ConfListR_w _ _ hr2) (by rfl) (by rfl) (by rfl) (by rfl) (fun q3 hq3 => ?_)
  subst hq3
  obtain ⟨r4, hr5, h⟩ := bT h
  refine O_call (ConfOfR_w _ _ hr5) (by rfl) (by rfl) (by rfl) (by rfl) (fun q6 hq6 => ?_)
  subst hq6
  iterate 6 (first | refine so rfl ?_ | refine sb rfl ?_)
  refine so rfl ?_
  refine sc rfl ?_
  refine sc rfl ?_
  iterate 2 (first | refine so rfl ?_ | refine sb rfl ?_)
  refine so rfl ?_
  refine sc rfl ?_
  obtain rfl := Option.some.inj h
  exact ⟨_, rfl, rfl, rfl⟩
noncomputable def FormR_F (o : Ord) : Option (Bool) :=
  Option.bind (α := Bool) (cond (decide (o.op < 1)) (some true) (cond (decide (6 < o.op)) (some true) (cond (decide (o.owner < 1)) (some true) (some (decide (8 < o.owner)))))) (fun m1 => cond m1 (some false) (Option.bind (α := Bool) (cond (o.op != 1) (cond (o.op != 6) (some true) (Option.bind (ConfCheckR_F o.conf) (fun r9 => some (r9 == 0)))) (Option.bind (ConfCheckR_F o.conf) (fun r12 => some (r12 == 0)))) (fun m6 => some m6)))
theorem FormR_w (o : Ord) (r : Bool) (h : FormR_F o = some r) : FnP Tryz.prog 139 [.agg (Ord.c o)] (· = B r) := by
  unfold FormR_F at h
  refine FnP.intro Tryz.tabOK Tryz.wide_ Tryz.func139 rfl (by decide) rfl (fun X => ?_)
  refine sc rfl ?_
  refine sc rfl ?_
  iterate 2 (first | refine so rfl ?_ | refine sb rfl ?_)
  refine so rfl ?_
  refine sc rfl ?_
  refine sc rfl ?_
  obtain ⟨m1, hm1, h⟩ := bT h
  refine C_join ⟨[(1, .bp 1 0), (20, B m1)], [.box 1 38 [.v (.int .u64 o.id), I64 o.op, I64 o.owner, I64 o.conf.quantum, I64 o.conf.rate, I64 o.conf.burst, I64 o.conf.mem, I64 o.conf.slots, I64 o.conf.outs, I64 o.conf.conns, I64 o.conf.state, I64 o.conf.decode]]⟩ ?_ (fun s hm1s => C_le _ hm1s ?_)
  · refine sc rfl ?_
    iterate 4 (first | refine so rfl ?_ | refine sb rfl ?_)
    refine O_case 6 rfl (fun hb2 => ?_) (fun hb2 => ?_)
    · replace hm1 := cT hb2 hm1
      iterate 14 (first | refine so rfl ?_ | refine sb rfl ?_)
      refine so rfl ?_
      obtain rfl := Option.some.inj hm1
      exact Le.sub [1] ⟨rfl, rfl, trivial⟩ rfl
    · replace hm1 := cF hb2 hm1
      iterate 5 (first | refine so rfl ?_ | refine sb rfl ?_)
      refine O_case 11 rfl (fun hb3 => ?_) (fun hb3 => ?_)
      · replace hm1 := cT hb3 hm1
        iterate 9 (first | refine so rfl ?_ | refine sb rfl ?_)
        refine so rfl ?_
        obtain rfl := Option.some.inj hm1
        exact Le.sub [1] ⟨rfl, rfl, trivial⟩ rfl
      · replace hm1 := cF hb3 hm1
        iterate 5 (first | refine so rfl ?_ | refine sb rfl ?_)
        refine O_case 16 rfl (fun hb4 => ?_) (fun hb4 => ?_)
        · replace hm1 := cT hb4 hm1
          iterate 4 (first | refine so rfl ?_ | refine sb rfl ?_)
          refine so rfl ?_
          obtain rfl := Option.some.inj hm1
          exact Le.sub [1] ⟨rfl, rfl, trivial⟩ rfl
        · replace hm1 := cF hb4 hm1
          iterate 4 (first | refine so rfl ?_ | refine sb rfl ?_)
          refine so rfl ?_
          obtain rfl := Option.some.inj hm1
          exact Le.sub [1] ⟨rfl, rfl, trivial⟩ rfl
  refine C_if rfl (fun hb5 => ?_) (fun hb5 => ?_)
  · replace h := cT hb5 h
    refine sc rfl ?_
    refine sc rfl ?_
    iterate 1 (first | refine so rfl ?_ | refine sb rfl ?_)
    refine so rfl ?_
    refine sc rfl ?_
    obtain rfl := Option.some.inj h
    exact ⟨_, rfl, rfl, rfl⟩
  · replace h := cF hb5 h
    refine sc rfl ?_
    refine sc rfl ?_
    obtain ⟨m6, hm6, h⟩ := bT h
    refine C_join ⟨[(2, B m6)], [.box 1 38 [.v (.int .u64 o.id), I64 o.op, I64 o.owner, I64 o.conf.quantum, I64 o.conf.rate, I64 o.conf.burst, I64 o.conf.mem, I64 o.conf.slots, I64 o.conf.outs, I64 o.conf.conns, I64 o.conf.state, I64 o.conf.decode]]⟩ ?_ (fun s hm6s => C_le _ hm6s ?_)
    · refine sc rfl ?_
      iterate 4 (first | refine so rfl ?_ | refine sb rfl ?_)
      refine O_case 24 rfl (fun hb7 => ?_) (fun hb7 => ?_)
      · replace hm6 := cT hb7 hm6
        iterate 5 (first | refine so rfl ?_ | refine sb rfl ?_)
        refine O_case 29 rfl (fun hb8 => ?_) (fun hb8 => ?_)
        · replace hm6 := cT hb8 hm6
          iterate 6 (first | refine so rfl ?_ | refine sb rfl ?_)
          refine so rfl ?_
          obtain rfl := Option.some.inj hm6
          exact Le.sub [1] ⟨rfl, trivial⟩ rfl
        · replace hm6 := cF hb8 hm6
          iterate 2 (first | refine so rfl ?_ | refine sb rfl ?_)
          obtain ⟨r9, hr10, hm6⟩ := bT hm6
          refine O_call (ConfCheckR_w _ _ hr10) (by rfl) (by rfl) (by rfl) (by rfl) (fun q11 hq11 => ?_)
          subst hq11
          iterate 3 (first | refine so rfl ?_ | refine sb rfl ?_)
          refine so rfl ?_
          obtain rfl := Option.some.inj hm6
          exact Le.sub [1] ⟨rfl, trivial⟩ rfl
      · replace hm6 := cF hb7 hm6
        iterate 7 (first | refine so rfl ?_ | refine sb rfl ?_)
        obtain ⟨r12, hr13, hm6⟩ := bT hm6
        refine O_call (ConfCheckR_w _ _ hr13) (by rfl) (by rfl) (by rfl) (by rfl) (fun q14 hq14 => ?_)
        subst hq14
        iterate 3 (first | refine so rfl ?_ | refine sb rfl ?_)
        refine so rfl ?_
        obtain rfl := Option.some.inj hm6
        exact Le.sub [1] ⟨rfl, trivial⟩ rfl
    refine sc rfl ?_
    obtain rfl := Option.some.inj h
    exact ⟨_, rfl, rfl, rfl⟩
noncomputable def AsksR_F (k : Int) : Option (Bool) :=
  Option.bind (α := Bool) (cond (k == 2) (some true) (cond (k == 3) (some true) (cond (k == 4) (some true) (cond (k == 6) (some true) (some (k == 7)))))) (fun m1 => some m1)
theorem AsksR_w (k : Int) (r : Bool) (h : AsksR_F k = some r) : FnP Tryz.prog 39 [I64 k] (· = B r) := by
  unfold AsksR_F at h
  refine FnP.intro Tryz.tabOK Tryz.wide_ Tryz.func39 rfl (by decide) rfl (fun X => ?_)
  refine sc rfl ?_
  refine sc rfl ?_
  iterate 1 (first | refine so rfl ?_ | refine sb rfl ?_)
  refine so rfl ?_
  refine sc rfl ?_
  obtain ⟨m1, hm1, h⟩ := bT h
  refine C_join ⟨[(2, B m1)], []⟩ ?_ (fun s hm1s => C_le _ hm1s ?_)
  · refine sc rfl ?_
    iterate 3 (first | refine so rfl ?_ | refine sb rfl ?_)
    refine O_case 5 rfl (fun hb2 => ?_) (fun hb2 => ?_)
    · replace hm1 := cT hb2 hm1
      iterate 16 (first | refine so rfl ?_ | refine sb rfl ?_)
      refine so rfl ?_
      obtain rfl := Option.some.inj hm1
      exact Le.sub [] ⟨rfl, trivial⟩ rfl
    · replace hm1 := cF hb2 hm1
      iterate 4 (first | refine so rfl ?_ | refine sb rfl ?_)
      refine O_case 9 rfl (fun hb3 => ?_) (fun hb3 => ?_)
      · replace hm1 := cT hb3 hm1
        iterate 12 (first | refine so rfl ?_ | refine sb rfl ?_)
        refine so rfl ?_
        obtain rfl := Option.some.inj hm1
        exact Le.sub [] ⟨rfl, trivial⟩ rfl
      · replace hm1 := cF hb3 hm1
        iterate 4 (first | refine so rfl ?_ | refine sb rfl ?_)
        refine O_case 13 rfl (fun hb4 => ?_) (fun hb4 => ?_)
        · replace hm1 := cT hb4 hm1
          iterate 8 (first | refine so rfl ?_ | refine sb rfl ?_)
          refine so rfl ?_
          obtain rfl := Option.some.inj hm1
          exact Le.sub [] ⟨rfl, trivial⟩ rfl
        · replace hm1 := cF hb4 hm1
          iterate 4 (first | refine so rfl ?_ | refine sb rfl ?_)
          refine O_case 17 rfl (fun hb5 => ?_) (fun hb5 => ?_)
          · replace hm1 := cT hb5 hm1
            iterate 4 (first | refine so rfl ?_ | refine sb rfl ?_)
            refine so rfl ?_
            obtain rfl := Option.some.inj hm1
            exact Le.sub [] ⟨rfl, trivial⟩ rfl
          · replace hm1 := cF hb5 hm1
            iterate 4 (first | refine so rfl ?_ | refine sb rfl ?_)
            refine so rfl ?_
            obtain rfl := Option.some.inj hm1
            exact Le.sub [] ⟨rfl, trivial⟩ rfl
  refine sc rfl ?_
  obtain rfl := Option.some.inj h
  exact ⟨_, rfl, rfl, rfl⟩
noncomputable def CameInR_F (x : Rw) (owner : Int) : Option (Bool) :=
  Option.bind (α := Bool) (cond (x.act == 1) (cond (x.note.owner == owner) (cond (x.note.err == 0) (Option.bind (AsksR_F x.note.kind) (fun r5 => some r5)) (some false)) (some false)) (some false)) (fun m1 => some m1)
theorem CameInR_w (x : Rw) (owner : Int) (r : Bool) (h : CameInR_F x owner = some r) : FnP Tryz.prog 45 [.agg (Rw.c x), I64 owner] (· = B r) := by
  unfold CameInR_F at h
  refine FnP.intro Tryz.tabOK Tryz.wide_ Tryz.func45 rfl (by decide) rfl (fun X => ?_)
  refine sc rfl ?_
  refine sc rfl ?_
  iterate 2 (first | refine so rfl ?_ | refine sb rfl ?_)
  refine so rfl ?_
  refine sc rfl ?_
  obtain ⟨m1, hm1, h⟩ := bT h
  refine C_join ⟨[(4, B m1)], [.box 2 43 [I64 x.fat, I64 x.act, I64 x.note.conn, I64 x.note.owner, I64 x.note.kind, .s x.note.body, I64 x.note.err, .s x.note.reply]]⟩ ?_ (fun s hm1s => C_le _ hm1s ?_)
  · refine sc rfl ?_
    iterate 4 (first | refine so rfl ?_ | refine sb rfl ?_)
    refine O_case 8 rfl (fun hb2 => ?_) (fun hb2 => ?_)
    · replace hm1 := cT hb2 hm1
      iterate 7 (first | refine so rfl ?_ | refine sb rfl ?_)
      refine O_case 15 rfl (fun hb3 => ?_) (fun hb3 => ?_)
      · replace hm1 := cT hb3 hm1
        iterate 6 (first | refine so rfl ?_ | refine sb rfl ?_)
        refine O_case 21 rfl (fun hb4 => ?_) (fun hb4 => ?_)
        · replace hm1 := cT hb4 hm1
          iterate 3 (first | refine so rfl ?_ | refine sb rfl ?_)
          obtain ⟨r5, hr6, hm1⟩ := bT hm1
          refine O_call (AsksR_w _ _ hr6) (by rfl) (by rfl) (by rfl) (by rfl) (fun q7 hq7 => ?_)
          subst hq7
          iterate 2 (first | refine so rfl ?_ | refine sb rfl ?_)
          refine so rfl ?_
          obtain rfl := Option.some.inj hm1
          exact Le.sub [2] ⟨rfl, trivial⟩ rfl
        · replace hm1 := cF hb4 hm1
          iterate 6 (first | refine so rfl ?_ | refine sb rfl ?_)
          refine so rfl ?_
          obtain rfl := Option.some.inj hm1
          exact Le.sub [2] ⟨rfl, trivial⟩ rfl
      · replace hm1 := cF hb3 hm1
        iterate 12 (first | refine so rfl ?_ | refine sb rfl ?_)
        refine so rfl ?_
        obtain rfl := Option.some.inj hm1
        exact Le.sub [2] ⟨rfl, trivial⟩ rfl
    · replace hm1 := cF hb2 hm1
      iterate 19 (first | refine so rfl ?_ | refine sb rfl ?_)
      refine so rfl ?_
      obtain rfl := Option.some.inj hm1
      exact Le.sub [2] ⟨rfl, trivial⟩ rfl
  refine sc rfl ?_
  obtain rfl := Option.some.inj h
  exact ⟨_, rfl, rfl, rfl⟩
end Go.Proofs

/- The server's parts: accounts, buckets. -/
set_option linter.unusedSimpArgs false
set_option linter.unusedVariables false
set_option maxRecDepth 100000
namespace Go.Proofs
open Go.Sy Go.Lib

abbrev accA (g : Nat) (l t : Int) : Abs := boxA g 177 [I64 l, I64 t]
theorem accSet_A (g : Nat) (l t x : Int) : FnA Tryz.prog 227 [PT g 0, I64 x] [accA g l t] (fun r cs' => cs' = [accA g (max 0 (min x 1048576)) t]) := by
  refine FnA.intro Tryz.tabOK Tryz.wide_ Tryz.func227 rfl (by decide) rfl (fun X => ?_)
  repeat (first | refine sc rfl ?_ | refine so rfl ?_ | refine sb rfl ?_)
  refine O_Xd (X_ptrnnil Tryz.underlying287 rfl rfl rfl) ?_
  repeat (first | refine sc rfl ?_ | refine so rfl ?_ | refine sb rfl ?_)
  refine C_true rfl rfl ?_
  repeat (first | refine sc rfl ?_ | refine so rfl ?_ | refine sb rfl ?_)
  first
    | refine O_Xn (X_storeP 0 (writes_box (by show 0 < 2; decide)) rfl rfl rfl rfl rfl rfl rfl) ?_
    | refine O_Xn (X_storeP 1 (writes_box (by show 0 < 2; decide)) rfl rfl rfl rfl rfl rfl rfl) ?_
    | refine O_Xn (X_storeP 2 (writes_box (by show 0 < 2; decide)) rfl rfl rfl rfl rfl rfl rfl) ?_
    | refine O_Xn (X_storeP 3 (writes_box (by show 0 < 2; decide)) rfl rfl rfl rfl rfl rfl rfl) ?_
    | refine O_Xn (X_storeP 4 (writes_box (by show 0 < 2; decide)) rfl rfl rfl rfl rfl rfl rfl) ?_
  repeat (first | refine sc rfl ?_ | refine so rfl ?_ | refine sb rfl ?_)
  first
    | exact ⟨_, [_], _, rfl, pickA_perm (is := [0]) (As := [_]) rfl, rfl, rfl⟩
    | exact ⟨_, [_], _, rfl, pickA_perm (is := [1]) (As := [_]) rfl, rfl, rfl⟩
    | exact ⟨_, [_], _, rfl, pickA_perm (is := [2]) (As := [_]) rfl, rfl, rfl⟩
    | exact ⟨_, [_], _, rfl, pickA_perm (is := [3]) (As := [_]) rfl, rfl, rfl⟩
    | exact ⟨_, [_], _, rfl, pickA_perm (is := [4]) (As := [_]) rfl, rfl, rfl⟩
theorem accNew_A (x : Int) : FnA Tryz.prog 184 [I64 x] [] (fun r cs' => ∃ g, r = PT g 0 ∧ cs' = [accA g (max 0 (min x 1048576)) 0]) := by
  refine FnA.intro Tryz.tabOK Tryz.wide_ Tryz.func184 rfl (by decide) rfl (fun X => ?_)
  iterate 11 (first | refine sc rfl ?_ | refine so rfl ?_ | refine sb rfl ?_)
  refine C_absb 3 rfl rfl rfl (fun g => ?_)
  repeat (first | refine sc rfl ?_ | refine so rfl ?_ | refine sb rfl ?_)
  first
    | refine O_callA [0] (accSet_A g 0 0 x) (by rfl) (by rfl) (by rfl) (by rfl) (by rfl) ?_
    | refine O_callA [1] (accSet_A g 0 0 x) (by rfl) (by rfl) (by rfl) (by rfl) (by rfl) ?_
    | refine O_callA [2] (accSet_A g 0 0 x) (by rfl) (by rfl) (by rfl) (by rfl) (by rfl) ?_
    | refine O_callA [3] (accSet_A g 0 0 x) (by rfl) (by rfl) (by rfl) (by rfl) (by rfl) ?_
    | refine O_callA [4] (accSet_A g 0 0 x) (by rfl) (by rfl) (by rfl) (by rfl) (by rfl) ?_
  rintro r cs' rfl
  repeat (first | refine sc rfl ?_ | refine so rfl ?_ | refine sb rfl ?_)
  first
    | exact ⟨_, [_], _, rfl, pickA_perm (is := [0]) (As := [_]) rfl, rfl, g, rfl, rfl⟩
    | exact ⟨_, [_], _, rfl, pickA_perm (is := [1]) (As := [_]) rfl, rfl, g, rfl, rfl⟩
    | exact ⟨_, [_], _, rfl, pickA_perm (is := [2]) (As := [_]) rfl, rfl, g, rfl, rfl⟩
    | exact ⟨_, [_], _, rfl, pickA_perm (is := [3]) (As := [_]) rfl, rfl, g, rfl, rfl⟩
    | exact ⟨_, [_], _, rfl, pickA_perm (is := [4]) (As := [_]) rfl, rfl, g, rfl, rfl⟩

end Go.Proofs

/- The server's parts: buckets. -/
set_option linter.unusedSimpArgs false
set_option linter.unusedVariables false
set_option maxRecDepth 100000
namespace Go.Proofs
open Go.Sy Go.Lib

abbrev wi (x : Int) : Int := max 0 (min x 1048576)
abbrev bktA (g : Nat) (r b l : Int) : Abs := boxA g 175 [I64 r, I64 b, I64 l]
theorem within_c (x lo hi : Int) : FnP Tryz.prog 268 [I64 x, I64 lo, I64 hi] (· = I64 (max lo (min x hi))) := by
  refine FnP.intro Tryz.tabOK Tryz.wide_ Tryz.func268 rfl (by decide) rfl (fun X => ?_)
  repeat (first | refine sc rfl ?_ | refine so rfl ?_ | refine sb rfl ?_)
  exact ⟨_, rfl, rfl, rfl⟩
theorem bktSet_A (g : Nat) (r b l x y : Int) : FnA Tryz.prog 226 [PT g 0, I64 x, I64 y] [bktA g r b l] (fun _ cs' => cs' = [bktA g (wi x) (wi y) (min l (wi y))]) := by
  refine FnA.intro Tryz.tabOK Tryz.wide_ Tryz.func226 rfl (by decide) rfl (fun X => ?_)
  repeat (first | refine sc rfl ?_ | refine so rfl ?_ | refine sb rfl ?_)
  refine O_Xd (X_ptrnil Tryz.underlying269 rfl rfl rfl) ?_
  repeat (first | refine sc rfl ?_ | refine so rfl ?_ | refine sb rfl ?_)
  refine C_false rfl rfl ?_
  repeat (first | refine sc rfl ?_ | refine so rfl ?_ | refine sb rfl ?_)
  refine O_call (within_c x 0 1048576) (by rfl) (by rfl) (by rfl) (by rfl) (fun r' hr => ?_)
  subst hr
  repeat (first | refine sc rfl ?_ | refine so rfl ?_ | refine sb rfl ?_)
  refine O_call (within_c y 0 1048576) (by rfl) (by rfl) (by rfl) (by rfl) (fun r' hr => ?_)
  subst hr
  repeat (first | refine sc rfl ?_ | refine so rfl ?_ | refine sb rfl ?_)
  first
    | refine O_Xn (X_storeP 0 (writes_box (by show 0 < 3; decide)) rfl rfl rfl rfl rfl rfl rfl) ?_
    | refine O_Xn (X_storeP 1 (writes_box (by show 0 < 3; decide)) rfl rfl rfl rfl rfl rfl rfl) ?_
    | refine O_Xn (X_storeP 2 (writes_box (by show 0 < 3; decide)) rfl rfl rfl rfl rfl rfl rfl) ?_
    | refine O_Xn (X_storeP 3 (writes_box (by show 0 < 3; decide)) rfl rfl rfl rfl rfl rfl rfl) ?_
    | refine O_Xn (X_storeP 4 (writes_box (by show 0 < 3; decide)) rfl rfl rfl rfl rfl rfl rfl) ?_
  repeat (first | refine sc rfl ?_ | refine so rfl ?_ | refine sb rfl ?_)
  first
    | refine O_Xn (X_storeP 0 (writes_box (by show 1 < 3; decide)) rfl rfl rfl rfl rfl rfl rfl) ?_
    | refine O_Xn (X_storeP 1 (writes_box (by show 1 < 3; decide)) rfl rfl rfl rfl rfl rfl rfl) ?_
    | refine O_Xn (X_storeP 2 (writes_box (by show 1 < 3; decide)) rfl rfl rfl rfl rfl rfl rfl) ?_
    | refine O_Xn (X_storeP 3 (writes_box (by show 1 < 3; decide)) rfl rfl rfl rfl rfl rfl rfl) ?_
    | refine O_Xn (X_storeP 4 (writes_box (by show 1 < 3; decide)) rfl rfl rfl rfl rfl rfl rfl) ?_
  repeat (first | refine sc rfl ?_ | refine so rfl ?_ | refine sb rfl ?_)
  refine C_drawU 20 10 rfl (by kernel_rfl) (by kernel_rfl) (by kernel_rfl) ?_
  repeat (first | refine sd rfl ?_ | refine sdb rfl ?_ | refine sds rfl ?_)
  refine D_X (I64 l) (X_loadP 0 (reads_box 2) rfl rfl rfl rfl rfl rfl) ?_
  repeat (first | refine sd rfl ?_ | refine sdb rfl ?_ | refine sds rfl ?_)
  refine D_X (I64 (wi y)) (X_loadP 0 (reads_box 1) rfl rfl rfl rfl rfl rfl) ?_
  repeat (first | refine sd rfl ?_ | refine sdb rfl ?_ | refine sds rfl ?_)
  repeat (first | refine sc rfl ?_ | refine so rfl ?_ | refine sb rfl ?_)
  first
    | refine O_Xn (X_storeP 0 (writes_box (by show 2 < 3; decide)) rfl rfl rfl rfl rfl rfl rfl) ?_
    | refine O_Xn (X_storeP 1 (writes_box (by show 2 < 3; decide)) rfl rfl rfl rfl rfl rfl rfl) ?_
    | refine O_Xn (X_storeP 2 (writes_box (by show 2 < 3; decide)) rfl rfl rfl rfl rfl rfl rfl) ?_
    | refine O_Xn (X_storeP 3 (writes_box (by show 2 < 3; decide)) rfl rfl rfl rfl rfl rfl rfl) ?_
    | refine O_Xn (X_storeP 4 (writes_box (by show 2 < 3; decide)) rfl rfl rfl rfl rfl rfl rfl) ?_
  repeat (first | refine sc rfl ?_ | refine so rfl ?_ | refine sb rfl ?_)
  first
    | exact ⟨_, [_], _, rfl, pickA_perm (is := [0]) (As := [_]) rfl, rfl, rfl⟩
    | exact ⟨_, [_], _, rfl, pickA_perm (is := [1]) (As := [_]) rfl, rfl, rfl⟩
    | exact ⟨_, [_], _, rfl, pickA_perm (is := [2]) (As := [_]) rfl, rfl, rfl⟩
    | exact ⟨_, [_], _, rfl, pickA_perm (is := [3]) (As := [_]) rfl, rfl, rfl⟩
    | exact ⟨_, [_], _, rfl, pickA_perm (is := [4]) (As := [_]) rfl, rfl, rfl⟩
theorem bktNew_A (x y : Int) : FnA Tryz.prog 183 [I64 x, I64 y] [] (fun r cs' => ∃ g, r = PT g 0 ∧ cs' = [bktA g (wi x) (wi y) (wi y)]) := by
  refine FnA.intro Tryz.tabOK Tryz.wide_ Tryz.func183 rfl (by decide) rfl (fun X => ?_)
  iterate 11 (first | refine sc rfl ?_ | refine so rfl ?_ | refine sb rfl ?_)
  refine C_absb 5 rfl rfl rfl (fun g => ?_)
  repeat (first | refine sc rfl ?_ | refine so rfl ?_ | refine sb rfl ?_)
  first
    | refine O_callA [0] (bktSet_A g 0 0 0 x y) (by rfl) (by rfl) (by rfl) (by rfl) (by rfl) ?_
    | refine O_callA [1] (bktSet_A g 0 0 0 x y) (by rfl) (by rfl) (by rfl) (by rfl) (by rfl) ?_
    | refine O_callA [2] (bktSet_A g 0 0 0 x y) (by rfl) (by rfl) (by rfl) (by rfl) (by rfl) ?_
    | refine O_callA [3] (bktSet_A g 0 0 0 x y) (by rfl) (by rfl) (by rfl) (by rfl) (by rfl) ?_
    | refine O_callA [4] (bktSet_A g 0 0 0 x y) (by rfl) (by rfl) (by rfl) (by rfl) (by rfl) ?_
  rintro r cs' rfl
  repeat (first | refine sc rfl ?_ | refine so rfl ?_ | refine sb rfl ?_)
  first
    | refine O_loadP 0 (reads_box 1) rfl rfl rfl rfl rfl rfl ?_
    | refine O_loadP 1 (reads_box 1) rfl rfl rfl rfl rfl rfl ?_
    | refine O_loadP 2 (reads_box 1) rfl rfl rfl rfl rfl rfl ?_
    | refine O_loadP 3 (reads_box 1) rfl rfl rfl rfl rfl rfl ?_
    | refine O_loadP 4 (reads_box 1) rfl rfl rfl rfl rfl rfl ?_
  repeat (first | refine sc rfl ?_ | refine so rfl ?_ | refine sb rfl ?_)
  first
    | refine O_Xn (X_storeP 0 (writes_box (by show 2 < 3; decide)) rfl rfl rfl rfl rfl rfl rfl) ?_
    | refine O_Xn (X_storeP 1 (writes_box (by show 2 < 3; decide)) rfl rfl rfl rfl rfl rfl rfl) ?_
    | refine O_Xn (X_storeP 2 (writes_box (by show 2 < 3; decide)) rfl rfl rfl rfl rfl rfl rfl) ?_
    | refine O_Xn (X_storeP 3 (writes_box (by show 2 < 3; decide)) rfl rfl rfl rfl rfl rfl rfl) ?_
    | refine O_Xn (X_storeP 4 (writes_box (by show 2 < 3; decide)) rfl rfl rfl rfl rfl rfl rfl) ?_
  repeat (first | refine sc rfl ?_ | refine so rfl ?_ | refine sb rfl ?_)
  first
    | exact ⟨_, [_], _, rfl, pickA_perm (is := [0]) (As := [_]) rfl, rfl, g, rfl, rfl⟩
    | exact ⟨_, [_], _, rfl, pickA_perm (is := [1]) (As := [_]) rfl, rfl, g, rfl, rfl⟩
    | exact ⟨_, [_], _, rfl, pickA_perm (is := [2]) (As := [_]) rfl, rfl, g, rfl, rfl⟩
    | exact ⟨_, [_], _, rfl, pickA_perm (is := [3]) (As := [_]) rfl, rfl, g, rfl, rfl⟩
    | exact ⟨_, [_], _, rfl, pickA_perm (is := [4]) (As := [_]) rfl, rfl, g, rfl, rfl⟩

/-- The gate's tokens. -/
abbrev gatA (g : Nat) (r b l m1 m2 s1 s2 o1 o2 : Int) (q : Bool) : Abs := boxA g 179 [I64 r, I64 b, I64 l, I64 m1, I64 m2, I64 s1, I64 s2, I64 o1, I64 o2, B q]
theorem bktTick_A (g : Nat) (r b l m1 m2 s1 s2 o1 o2 : Int) (q : Bool) (h : -1048576 ≤ r ∧ r ≤ 1048576 ∧ -1048576 ≤ l ∧ l ≤ 1048576) : FnA Tryz.prog 98 [PT g 0] [gatA g r b l m1 m2 s1 s2 o1 o2 q] (fun _ cs' => cs' = [gatA g r b (min (l + r) b) m1 m2 s1 s2 o1 o2 q]) := by
  refine FnA.intro Tryz.tabOK Tryz.wide_ Tryz.func98 rfl (by decide) rfl (fun X => ?_)
  repeat (first | refine sc rfl ?_ | refine so rfl ?_ | refine sb rfl ?_)
  refine O_Xd (X_ptrnnil Tryz.underlying269 rfl rfl rfl) ?_
  repeat (first | refine sc rfl ?_ | refine so rfl ?_ | refine sb rfl ?_)
  refine C_true rfl rfl ?_
  repeat (first | refine sc rfl ?_ | refine so rfl ?_ | refine sb rfl ?_)
  refine C_drawU 20 15 rfl (by kernel_rfl) (by kernel_rfl) (by kernel_rfl) ?_
  repeat (first | refine sd rfl ?_ | refine sdb rfl ?_ | refine sds rfl ?_)
  refine D_X (I64 l) (X_loadP 0 (reads_box 2) rfl rfl rfl rfl rfl rfl) ?_
  repeat (first | refine sd rfl ?_ | refine sdb rfl ?_ | refine sds rfl ?_)
  refine D_X (I64 r) (X_loadP 0 (reads_box 0) rfl rfl rfl rfl rfl rfl) ?_
  repeat (first | refine sd rfl ?_ | refine sdb rfl ?_ | refine sds rfl ?_)
  rw [w64 (x := l + r) (by omega) (by omega)]
  refine D_X (I64 b) (X_loadP 0 (reads_box 1) rfl rfl rfl rfl rfl rfl) ?_
  repeat (first | refine sd rfl ?_ | refine sdb rfl ?_ | refine sds rfl ?_)
  repeat (first | refine sc rfl ?_ | refine so rfl ?_ | refine sb rfl ?_)
  first
    | refine O_Xn (X_storeP 0 (writes_box (by show 2 < 10; decide)) rfl rfl rfl rfl rfl rfl rfl) ?_
    | refine O_Xn (X_storeP 1 (writes_box (by show 2 < 10; decide)) rfl rfl rfl rfl rfl rfl rfl) ?_
    | refine O_Xn (X_storeP 2 (writes_box (by show 2 < 10; decide)) rfl rfl rfl rfl rfl rfl rfl) ?_
    | refine O_Xn (X_storeP 3 (writes_box (by show 2 < 10; decide)) rfl rfl rfl rfl rfl rfl rfl) ?_
    | refine O_Xn (X_storeP 4 (writes_box (by show 2 < 10; decide)) rfl rfl rfl rfl rfl rfl rfl) ?_
  repeat (first | refine sc rfl ?_ | refine so rfl ?_ | refine sb rfl ?_)
  first
    | exact ⟨_, [_], _, rfl, pickA_perm (is := [0]) (As := [_]) rfl, rfl, rfl⟩
    | exact ⟨_, [_], _, rfl, pickA_perm (is := [1]) (As := [_]) rfl, rfl, rfl⟩
    | exact ⟨_, [_], _, rfl, pickA_perm (is := [2]) (As := [_]) rfl, rfl, rfl⟩
    | exact ⟨_, [_], _, rfl, pickA_perm (is := [3]) (As := [_]) rfl, rfl, rfl⟩
    | exact ⟨_, [_], _, rfl, pickA_perm (is := [4]) (As := [_]) rfl, rfl, rfl⟩
theorem gatTick_A (g : Nat) (r b l m1 m2 s1 s2 o1 o2 : Int) (q : Bool) (h : -1048576 ≤ r ∧ r ≤ 1048576 ∧ -1048576 ≤ l ∧ l ≤ 1048576) : FnA Tryz.prog 47 [PT g 0] [gatA g r b l m1 m2 s1 s2 o1 o2 q] (fun _ cs' => cs' = [gatA g r b (min (l + r) b) m1 m2 s1 s2 o1 o2 q]) := by
  refine FnA.intro Tryz.tabOK Tryz.wide_ Tryz.func47 rfl (by decide) rfl (fun X => ?_)
  repeat (first | refine sc rfl ?_ | refine so rfl ?_ | refine sb rfl ?_)
  refine O_Xd (X_ptrnnil Tryz.underlying129 rfl rfl rfl) ?_
  repeat (first | refine sc rfl ?_ | refine so rfl ?_ | refine sb rfl ?_)
  refine C_true rfl rfl ?_
  repeat (first | refine sc rfl ?_ | refine so rfl ?_ | refine sb rfl ?_)
  first
    | refine O_callA [0] (bktTick_A g r b l m1 m2 s1 s2 o1 o2 q h) (by rfl) (by rfl) (by rfl) (by rfl) (by rfl) ?_
    | refine O_callA [1] (bktTick_A g r b l m1 m2 s1 s2 o1 o2 q h) (by rfl) (by rfl) (by rfl) (by rfl) (by rfl) ?_
    | refine O_callA [2] (bktTick_A g r b l m1 m2 s1 s2 o1 o2 q h) (by rfl) (by rfl) (by rfl) (by rfl) (by rfl) ?_
    | refine O_callA [3] (bktTick_A g r b l m1 m2 s1 s2 o1 o2 q h) (by rfl) (by rfl) (by rfl) (by rfl) (by rfl) ?_
    | refine O_callA [4] (bktTick_A g r b l m1 m2 s1 s2 o1 o2 q h) (by rfl) (by rfl) (by rfl) (by rfl) (by rfl) ?_
  rintro r' cs' rfl
  repeat (first | refine sc rfl ?_ | refine so rfl ?_ | refine sb rfl ?_)
  first
    | exact ⟨_, [_], _, rfl, pickA_perm (is := [0]) (As := [_]) rfl, rfl, rfl⟩
    | exact ⟨_, [_], _, rfl, pickA_perm (is := [1]) (As := [_]) rfl, rfl, rfl⟩
    | exact ⟨_, [_], _, rfl, pickA_perm (is := [2]) (As := [_]) rfl, rfl, rfl⟩
    | exact ⟨_, [_], _, rfl, pickA_perm (is := [3]) (As := [_]) rfl, rfl, rfl⟩
    | exact ⟨_, [_], _, rfl, pickA_perm (is := [4]) (As := [_]) rfl, rfl, rfl⟩
end Go.Proofs
