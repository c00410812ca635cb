/- The symbolic walk, part 62: structs of numbers and texts compared. -/
import Derived.Test.YtpkbclagmkgpkaaGreatDoorQ6
import Derived.Test.YtpkbclagmkgpkaaGreatDoorQ5
import Derived.Laws.StructEq
import Derived.RangeFuncNested
import Derived.OrdersIn
import Derived.StillTail
import Derived.RangeFuncBox
import Derived.RangeFuncLeaves
import Derived.Shelf.Abstract
import Derived.WalkKit
import Derived.OwnWalkIn
import Derived.TacticsInMore
import Derived.LoopNIn
import Derived.LoopIn
set_option linter.unusedSimpArgs false
set_option linter.unusedVariables false
namespace Go.Sy
open Go.RowKit
section
variable {P : Program} {T : Tab} {X : Ctx P T} {n : Nat} {e : Env} {st : St} {a : Act} {w : World} {ops : Array Oper} {K : St → Prop}

theorem X_aggC {p : Pl} {t : TypeId} {op : BinOp} {x y : Operand} {cs ds : List AV} {us vs : Array Value} {b : Bool} {d : Option Nat} {uy ty : TypeId} {pos : String} {aft : Array Edge} {gd : Option (Nat × Bool)} {j : Nat} {Si : List (Nat × AV)} {c : List Ch}
    (hu : ∀ e (ys : List Value), RepL e cs ys → ys = us.toList) (hv : ∀ e (ys : List Value), RepL e ds ys → ys = vs.toList) (hb : ∀ w, (Op.equalIn 10000 t (.agg us) (.agg vs)).run P w = .ok b w) (hgt : P.eqGuardType P.depth t = false) (hop : op = .eql ∨ op = .neq)
    (hg : guardA ops ⟨Si, c⟩ ⟨d, .binOp op t x y uy, ty, pos, aft, gd⟩ = some true) (hx : opd Si x = some (.agg cs)) (hy : opd Si y = some (.agg ds)) (hd : dstOK n d = true) :
    StepX X n ops p Si c c j ⟨d, .binOp op t x y uy, ty, pos, aft, gd⟩ (B (eqB op b)) :=
  StepX.val hg hd (fun e a w S r r' => by
    have h1 := opd_sound r' hx
    have h2 := opd_sound r' hy
    simp only [Rep] at h1 h2
    obtain ⟨ys, e1, r1⟩ := h1
    obtain ⟨zs, e2, r2⟩ := h2
    have hy1 : ys = us := Array.ext' (hu e _ r1)
    have hz1 : zs = vs := Array.ext' (hv e _ r2)
    subst hy1 hz1
    refine ⟨.bool (eqB op b), w, e, ?_, r, by simp [Rep]⟩
    rcases hop with rfl | rfl
    · simp only [execOp, e1, e2, Sem.run_bind, run_eqGuard_agg w _ _ _ _ _ _ hgt, Result.andThen_ok, run_eql_struct, hb, Sem.run_pure, eqB]
    · simp only [execOp, e1, e2, Sem.run_bind, run_eqGuard_agg w _ _ _ _ _ _ hgt, Result.andThen_ok, run_neq_struct, hb, Sem.run_pure, eqB])
end
end Go.Sy

namespace Go.Sy
open Go.RowKit

def WritesN (A : Abs) (b o : Nat) (new : List AV) (A' : Abs) : Prop :=
  b ∈ A.bs ∧ A'.bs = A.bs ∧ ∀ (G : IM) (w : World) (ys : List Value), A.ok G w → RepIL G new ys →
    ∃ cur tt, w.heap[b]? = some (.cells cur tt (0, 0)) ∧ o + ys.length ≤ cur.size ∧ ∀ w', w'.heap[b]? = some (.cells (writeAt cur o ys) tt (0, 0)) → A'.ok G w'

theorem writesN_box {b : Nat} {t : TypeId} {cells new : List AV} {o : Nat} (ho : o + new.length ≤ cells.length) : WritesN (boxA b t cells) b o new (boxA b t (cells.take o ++ new ++ cells.drop (o + new.length))) := by
  refine ⟨by simp [boxA], rfl, ?_⟩
  rintro G w ys ⟨arr, h1, h2⟩ hx
  have hl := RepIL.len h2
  have hl2 := RepIL.len hx
  simp only [Array.length_toList] at hl
  have hfit : o + ys.length ≤ arr.size := by omega
  refine ⟨arr, t, h1, hfit, fun w' hw => ⟨_, hw, RepIL.mk ?_ (fun j c hc => ?_)⟩⟩
  · simp only [Array.length_toList, writeAt_size, List.length_append, List.length_take, List.length_drop]; omega
  · rw [Array.getElem?_toList, writeAt_get _ _ _ _ hfit]
    by_cases hj : j < o
    · rw [List.append_assoc, List.getElem?_append_left (by rw [List.length_take]; omega), List.getElem?_take, if_pos hj] at hc
      rw [if_neg (by omega)]
      obtain ⟨z, z1, z2, z3⟩ := h2.get _ c hc
      exact ⟨z, by simpa using z1, z2, z3⟩
    · by_cases hj2 : j < o + new.length
      · rw [List.append_assoc, List.getElem?_append_right (by rw [List.length_take]; omega), List.length_take, List.getElem?_append_left (by omega)] at hc
        rw [if_pos (by omega)]
        obtain ⟨z, z1, z2, z3⟩ := hx.get _ c hc
        rw [show j - min o cells.length = j - o by omega] at z1
        exact ⟨z, z1, z2, z3⟩
      · rw [List.getElem?_append_right (by simp only [List.length_append, List.length_take]; omega), List.getElem?_drop] at hc
        rw [if_neg (by omega)]
        obtain ⟨z, z1, z2, z3⟩ := h2.get _ c hc
        simp only [List.length_append, List.length_take] at z1
        rw [show o + new.length + (j - (min o cells.length + new.length)) = j by omega] at z1
        exact ⟨z, by simpa using z1, z2, z3⟩

section
variable {P : Program} {T : Tab} {X : Ctx P T} {n : Nat} {e : Env} {st : St} {a : Act} {w : World} {ops : Array Oper} {K : St → Prop}

theorem X_storeB (q : Nat) {p : Pl} {A A' : Abs} {t : TypeId} {esz by_ : Nat} {z : List Value} {dd : TD} {ad xo : Operand} {b o : Nat} {new : List AV} {ty : TypeId} {pos : String} {aft : Array Edge} {gd : Option (Nat × Bool)} {jj : Nat} {Si : List (Nat × AV)} {c cr : List Ch}
    (hW : WritesN A b o new A') (hg : guardA ops ⟨Si, c⟩ ⟨none, .store t ad xo, ty, pos, aft, gd⟩ = some true) (hT : T t = some ⟨esz, by_, true, z, dd⟩) (hp : nthA q c = some (A, cr)) (had : opd Si ad = some (PT b o)) (hx : opd Si xo = some (.agg new)) (hlen : new.length = esz) (himm : AV.imm.immL new = true) :
    StepX X n ops p Si c (.abs A' :: cr) jj ⟨none, .store t ad xo, ty, pos, aft, gd⟩ .bad :=
  StepX.skip hg rfl (fun e a w S r r' => by
    have h1 := opd_sound r' had
    have h2 := opd_sound r' hx
    simp only [Rep] at h1 h2
    obtain ⟨ys, h2, h3⟩ := h2
    obtain ⟨hok, _⟩ := r.heap.nth hp
    have hri := RepL.toI new himm h3
    obtain ⟨cur, tt, hgc, hfit, hA'⟩ := hW.2.2 _ _ _ hok hri
    have hyl : ys.toList.length = esz := by rw [← hlen]; exact RepIL.len hri
    have hone : ∀ v ∈ ys.toList, v.oneCell' = true := RepL.one h3
    have hrun0 := run_storeCells_cells (P := P) b o ys.toList 0 w (fun j hj => by
        rw [Nat.add_zero, cell_of_row w b _ cur tt (0, 0) hgc]
        rw [Array.getElem?_eq_getElem (by omega)]; rfl) (fun j hj => by simp [World.frozen?, hgc]) hone
    rw [Nat.add_zero] at hrun0
    have hsz : ys.size = esz := by simpa using hyl
    have hrun : (execOp a.eval ⟨none, .store t ad xo, ty, pos, aft, gd⟩).run P w = .ok .skip (w.setCells b o ys.toList) := by
      simp only [execOp, Instr.storeAt, h1, h2, Instr.sureAddr, Sem.run_bind, Sem.run_pure, Result.andThen_ok, storeVar, X.ok.size hT]
      have hc : (Value.agg ys).cells = ys := rfl
      simp [hc, hsz, hrun0]
    refine ⟨_, e, hrun, r.absTurn (st := ⟨S, c⟩) hp hW.2.1 ?_ (fun b' hb => ?_) ?_ ?_⟩
    · exact hA' _ (setCells_heap ys.toList b o w cur tt (0, 0) hgc)
    · exact setCells_other ys.toList b o b' w (fun he => hb (by subst he; exact hW.1))
    · exact (setCells_misc ys.toList b o w).2
    · exact (setCells_misc ys.toList b o w).1)
end
end Go.Sy

namespace Go.Sy
open Go.RowKit

def setM (L : Nat → Bool) (i : Nat) : Nat → Bool := fun k => if k = i then true else L k

section
variable {P : Program} {T : Tab} {X : Ctx P T} {n : Nat} {e : Env} {st : St} {a : Act} {w : World} {ops : Array Oper} {K : St → Prop}

theorem any_of_M {p : Pl} {base : List (Nat × AV)} {C : (Nat → Bool) → List Ch} {D : Done} {Q : QX X} (hE : ∀ e ∈ p.E, e < ops.size) (hC : ∀ L L' : Nat → Bool, (∀ e ∈ p.E, L e = L' e) → C L = C L') (hA : p.ancB ops = true) (hbse : p.baseB base = true) (hD : D.length = ops.size)
    (hstep : ∀ i o, ops[i]? = some o → ∃ x, D[i]? = some (o.dst, x) ∧ p.creB i x = true ∧ ∀ L : Nat → Bool, (∀ a ∈ p.anc i, L a = true) → (∀ q, i ∈ p.anc q → L q = false) → L i = false → StepX X n ops p (availX p i (D.take i) o.after.toList base) (C L) (if i ∈ p.E then C (setM L i) else C L) i o x)
    (hedge : ∀ i o, ops[i]? = some o → ∀ e ∈ o.after, Region.binds .any e = true → e.on < i)
    (hdist : ∀ (i j : Nat) o o' d, ops[i]? = some o → ops[j]? = some o' → o.dst = some d → o'.dst = some d → i = j)
    (hbase : ∀ (i : Nat) o d, ops[i]? = some o → o.dst = some d → get base d = none)
    (hfin : ∀ e a w, Rel X n e ⟨finS base (killD p D), C (fun _ => true)⟩ a w → Q .normal a w) :
    ∀ (fuel : Nat) (listed : Array Bool) (a : Act) (w : World) (e : Env) (S : List (Nat × AV)), listed.size = ops.size → listed.toList.count false = fuel → ClosedL ops listed → Rel X n e ⟨S, C (fun e => listed.getD e false)⟩ a w →
      (∀ k y, get base k = some y → get S k = some y) →
      (∀ (i : Nat) d x, listed.getD i false = true → D[i]? = some (some d, x) → (∀ q ∈ p.ki, listed.getD q.1 false = true → x.noO q.2 = true) → get S d = some x) →
      (∀ k y, get S k = some y → ∀ q ∈ p.cre, listed.getD q.1 false = false → y.no q.2 = true) →
      wpAny P .any ops Q fuel listed a w := by
  have bspec : ∀ {l : List (Nat × AV)}, p.baseB l = true → ∀ k y, get l k = some y → (∀ q ∈ p.cre, y.no q.2 = true) ∧ ∀ q ∈ p.ki, y.noO q.2 = true := by
    intro l
    induction l with
    | nil => intro _ k y h; simp [get] at h
    | cons z l ih =>
      obtain ⟨j, v⟩ := z
      intro h k y hy
      simp only [Pl.baseB, Bool.and_eq_true, List.all_eq_true] at h
      rw [get_cons] at hy
      by_cases hj : j = k
      · rw [if_pos hj] at hy; cases hy; exact ⟨h.1.1, h.1.2⟩
      · rw [if_neg hj] at hy; exact ih h.2 k y hy
  have ancL : ∀ {listed : Array Bool}, ClosedL ops listed → ∀ i, i < ops.size → (∀ j ∈ predsB ops i, listed.getD j false = true) → ∀ a ∈ p.anc i, listed.getD a false = true := by
    intro listed hc i
    induction i using Nat.strongRecOn with
    | ind i ih =>
      intro hi hp a ha
      have h1 := List.all_eq_true.1 (List.all_eq_true.1 hA i (by simpa using hi)) a ha
      simp only [Bool.or_eq_true, List.contains_iff_mem, List.any_eq_true] at h1
      rcases h1 with h1 | ⟨q, hq, h1⟩
      · exact hp a h1
      · obtain ⟨o, ho, ed, he, hb, rfl⟩ := mem_preds hq
        have hlt := hedge i o ho ed he hb
        refine ih ed.on hlt (by omega) (fun j hj => ?_) a h1
        obtain ⟨o', ho', ed', he', hb', rfl⟩ := mem_preds hj
        exact hc ed.on o' (hp _ hq) ho' ed' he' hb'
  have ancLd : ∀ {listed : Array Bool}, listed.size = ops.size → ClosedL ops listed → ∀ i, listed.getD i false = true → ∀ a ∈ p.anc i, listed.getD a false = true := by
    intro listed hsz hc i hi
    have hlt : i < ops.size := by
      rcases Nat.lt_or_ge i ops.size with h | h
      · exact h
      · rw [← hsz] at h; simp [Nat.not_lt.2 h] at hi
    refine ancL hc i hlt (fun j hj => ?_)
    obtain ⟨o, ho, ed, he, hb, rfl⟩ := mem_preds hj
    exact hc i o hi ho ed he hb
  have progress : ∀ (listed : Array Bool), listed.size = ops.size → Region.ready .any ops listed = [] → ∀ i, i < ops.size → listed.getD i false = true := by
    intro listed hsz hr i
    induction i using Nat.strongRecOn with
    | ind i ih =>
      intro hi
      cases hl : listed.getD i true with
      | true =>
        have : i < listed.size := by omega
        simp [this] at hl ⊢
        exact hl
      | false =>
        exfalso
        have hmem : i ∈ Region.ready .any ops listed := by
          rw [mem_ready]
          refine ⟨hl, ops[i], by simp [hi], fun e he hb => ih e.on (hedge i ops[i] (by simp [hi]) e he hb) ?_⟩
          have := hedge i ops[i] (by simp [hi]) e he hb
          omega
        rw [hr] at hmem
        cases hmem
  have final : ∀ (listed : Array Bool) a w e S, listed.size = ops.size → Region.ready .any ops listed = [] → Rel X n e ⟨S, C (fun e => listed.getD e false)⟩ a w →
      (∀ k y, get base k = some y → get S k = some y) → (∀ (i : Nat) d x, listed.getD i false = true → D[i]? = some (some d, x) → (∀ q ∈ p.ki, listed.getD q.1 false = true → x.noO q.2 = true) → get S d = some x) → Q .normal a w := by
    intro listed a w e S hsz hr r hb hs
    rw [hC (fun e => listed.getD e false) (fun _ => true) (fun e he => progress listed hsz hr e (hE e he))] at r
    refine hfin e a w (r.less (fun k y hk => ?_) (fun h => h))
    rcases finS_get hk with ⟨i, hi⟩ | h
    · obtain ⟨hi, he⟩ := killD_get hi
      have hlt : i < D.length := by
        rcases Nat.lt_or_ge i D.length with h | h
        · exact h
        · rw [List.getElem?_eq_none h] at hi; cases hi
      exact hs i k y (progress listed hsz hr i (by omega)) hi (fun q hq _ => List.all_eq_true.1 he q hq)
    · exact hb k y h
  intro fuel
  induction fuel with
  | zero =>
    intro listed a w e S hsz hc hcl r hb hs hcr
    have hall : ∀ i, i < listed.size → listed.getD i true = true := by
      intro i hi
      cases hl : listed.getD i true with
      | true => rfl
      | false =>
        exfalso
        have : false ∈ listed.toList := by
          simp [hi] at hl
          exact List.mem_iff_getElem.2 ⟨i, by simpa using hi, by simpa using hl⟩
        have := List.count_pos_iff.2 this
        omega
    have hr : Region.ready .any ops listed = [] := by
      cases hrr : Region.ready .any ops listed with
      | nil => rfl
      | cons j js =>
        exfalso
        have hm : j ∈ Region.ready .any ops listed := by rw [hrr]; simp
        rw [mem_ready] at hm
        obtain ⟨h0, o, ho, _⟩ := hm
        have hlt : j < ops.size := (Array.getElem?_eq_some_iff.1 ho).1
        rw [hall j (by omega)] at h0
        cases h0
    exact ⟨hr, final listed a w e S hsz hr r hb hs⟩
  | succ fuel ih =>
    intro listed a w e S hsz hc hcl r hb hs hcr
    refine ⟨fun hr => final listed a w e S hsz hr r hb hs, fun i hi => ?_⟩
    rw [mem_ready] at hi
    obtain ⟨h0, o, ho, hpre⟩ := hi
    have hlt : i < ops.size := (Array.getElem?_eq_some_iff.1 ho).1
    have hif : listed.getD i false = false := by
      have : i < listed.size := by omega
      simp [this] at h0 ⊢
      exact h0
    have hlf : listed.toList[i]? = some false := by
      have : i < listed.size := by omega
      simp [this] at h0 ⊢
      exact h0
    have hpl : ∀ j ∈ predsB ops i, listed.getD j false = true := by
      intro j hj
      obtain ⟨o', ho', ed, he, hb', rfl⟩ := mem_preds hj
      rw [ho] at ho'
      cases ho'
      exact hpre ed he hb'
    have hanc := ancL hcl i hlt hpl
    obtain ⟨x, hx, hcre, hst⟩ := hstep i o ho
    unfold wpOp
    simp only [ho]
    have hhi : ∀ q, i ∈ p.anc q → listed.getD q false = false := fun q hq => by
      cases hb : listed.getD q false with
      | false => rfl
      | true => rw [ancLd hsz hcl q hb i hq] at hif; cases hif
    have hav : ∀ k y, get (availX p i (D.take i) o.after.toList base) k = some y → get S k = some y := by
      intro k y hk
      rcases availX_get hk with ⟨ed, h1, h2, h3, h5⟩ | h
      · have h4 : D[ed.on]? = some (some k, y) := by
          rw [List.getElem?_take] at h3
          split at h3
          · exact h3
          · cases h3
        refine hs ed.on k y (hpre ed (by simpa using h1) h2) h4 (fun q hq hql => ?_)
        have h6 := List.all_eq_true.1 h5 q hq
        simp only [Bool.or_eq_true, List.contains_iff_mem] at h6
        rcases h6 with (h6 | h6) | h6
        · exact h6
        · have := Nat.eq_of_beq_eq_true h6
          rw [← this, hif] at hql; cases hql
        · rw [ancLd hsz hcl q.1 hql i h6] at hif; cases hif
      · exact hb k y h
    have hset : ∀ j, j ≠ i → (listed.setIfInBounds i true).getD j false = listed.getD j false := fun j hj => getD_set_ne false (Ne.symm hj)
    have hseti : (listed.setIfInBounds i true).getD i false = true := by
      have : i < listed.size := by omega
      simp [this]
    have hphn : (if i ∈ p.E then C (setM (fun e => listed.getD e false) i) else C (fun e => listed.getD e false)) = C (fun e => (listed.setIfInBounds i true).getD e false) := by
      have h1 : C (setM (fun e => listed.getD e false) i) = C (fun e => (listed.setIfInBounds i true).getD e false) := by
        congr 1; funext k; unfold setM
        by_cases hk : k = i
        · rw [if_pos hk, hk, hseti]
        · rw [if_neg hk, hset k hk]
      by_cases hi : i ∈ p.E
      · rw [if_pos hi, h1]
      · rw [if_neg hi]
        exact hC _ _ (fun e he => (hset e (fun h => hi (h ▸ he))).symm)
    refine hst (fun e => listed.getD e false) hanc hhi hif e a w S _ Q r hav (fun k y hy q hq hqi => hcr k y hy q hq (by rw [hqi]; exact hif)) (fun e' a' w' S' r' hu => ?_)
    refine ih (listed.setIfInBounds i true) a' w' e' S' (by simpa using hsz) ?_ ?_ (by rw [← hphn]; exact r') (fun k y hk => ?_) (fun j d y hj hy hq => ?_) (fun k y hy q hq hql => ?_)
    · rw [Array.toList_setIfInBounds]
      have hlt' : i < listed.toList.length := by simpa using (by omega : i < listed.size)
      have hg : listed.toList[i] = false := by
        have := List.getElem?_eq_getElem hlt'
        rw [hlf] at this
        simpa using this.symm
      rw [List.count_set hlt', hg, hc]
      simp
    · intro j o' hj ho' ed he hb'
      by_cases hji : j = i
      · subst hji
        rw [ho] at ho'; cases ho'
        have := hpre ed he hb'
        by_cases h : ed.on = j
        · rw [h]; exact hseti
        · rw [hset _ h]; exact this
      · rw [hset j hji] at hj
        have := hcl j o' hj ho' ed he hb'
        by_cases h : ed.on = i
        · rw [h]; exact hseti
        · rw [hset _ h]; exact this
    · refine hu.2.1 k y (fun h => ?_) (hb k y hk) (fun q hq _ => (bspec hbse k y hk).2 q hq)
      rw [hbase i o k ho h] at hk; cases hk
    · by_cases hji : j = i
      · subst hji
        rw [hx] at hy
        simp only [Option.some.injEq, Prod.mk.injEq] at hy
        rw [← hy.2]
        exact hu.1 d hy.1
      · rw [hset j hji] at hj
        have hold := hs j d y hj hy (fun q hqk hql => hq q hqk (by
          by_cases h : q.1 = i
          · rw [h]; exact hseti
          · rw [hset _ h]; exact hql))
        refine hu.2.1 d y (fun h => ?_) hold (fun q hqk hqi => hq q hqk (by rw [hqi]; exact hseti))
        have hjl : j < ops.size := by
          rw [← hD]
          rcases Nat.lt_or_ge j D.length with h | h
          · exact h
          · rw [List.getElem?_eq_none h] at hy; cases hy
        obtain ⟨x', hx', _⟩ := hstep j ops[j] (by simp [hjl])
        rw [hx'] at hy
        simp only [Option.some.injEq, Prod.mk.injEq] at hy
        exact hji (hdist j i ops[j] o d (by simp [hjl]) ho hy.1 h)
    · have hqi : q.1 ≠ i := fun h => by rw [h, hseti] at hql; cases hql
      rw [hset _ hqi] at hql
      rcases hu.2.2 k y hy with ⟨_, rfl⟩ | h | rfl
      · have h6 := List.all_eq_true.1 hcre q hq
        simp only [Bool.or_eq_true, List.contains_iff_mem] at h6
        rcases h6 with (h6 | h6) | h6
        · exact absurd (Nat.eq_of_beq_eq_true h6) hqi
        · rw [hanc q.1 h6] at hql; cases hql
        · exact h6
      · exact hcr k y h q hq hql
      · rfl

def SymM {P : Program} {T : Tab} (X : Ctx P T) (n : Nat) (ops : Array Oper) (p : Pl) (base : List (Nat × AV)) (C : (Nat → Bool) → List Ch) (K : St → Prop) : List Oper → Done → Prop
  | [], done => K ⟨finS base (killD p done), C (fun _ => true)⟩
  | o :: rest, done => ∃ x, (p.creB done.length x = true ∧ ∀ L : Nat → Bool, (∀ a ∈ p.anc done.length, L a = true) → (∀ q, done.length ∈ p.anc q → L q = false) → L done.length = false → StepX X n ops p (availX p done.length done o.after.toList base) (C L) (if done.length ∈ p.E then C (setM L done.length) else C L) done.length o x) ∧
      SymM X n ops p base C K rest (done ++ [(o.dst, x)])

theorem SymM.plan {p : Pl} {base : List (Nat × AV)} {C : (Nat → Bool) → List Ch} : ∀ {l : List Oper} {done : Done}, SymM X n ops p base C K l done →
    ∃ D : Done, done <+: D ∧ D.length = done.length + l.length ∧ K ⟨finS base (killD p D), C (fun _ => true)⟩ ∧
      ∀ i o, l[i]? = some o → ∃ x, D[done.length + i]? = some (o.dst, x) ∧ p.creB (done.length + i) x = true ∧
        ∀ L : Nat → Bool, (∀ a ∈ p.anc (done.length + i), L a = true) → (∀ q, done.length + i ∈ p.anc q → L q = false) → L (done.length + i) = false → StepX X n ops p (availX p (done.length + i) (D.take (done.length + i)) o.after.toList base) (C L) (if done.length + i ∈ p.E then C (setM L (done.length + i)) else C L) (done.length + i) o x
  | [], done, h => ⟨done, List.prefix_refl _, by simp, h, fun i o hi => by simp at hi⟩
  | o :: rest, done, h => by
    obtain ⟨x, h1, h2⟩ := h
    obtain ⟨D, hp, hl, hK, hs⟩ := SymM.plan h2
    have hp' : done <+: D := (List.prefix_append done _).trans hp
    refine ⟨D, hp', by simp at hl ⊢; omega, hK, fun i o' hi => ?_⟩
    cases i with
    | zero =>
      simp only [List.getElem?_cons_zero, Option.some.injEq] at hi
      subst hi
      refine ⟨x, ?_, ?_⟩
      · obtain ⟨t, rfl⟩ := hp
        simp
      · obtain ⟨t, rfl⟩ := hp'
        simpa using h1
    | succ i =>
      obtain ⟨y, g1, g2⟩ := hs i o' (by simpa using hi)
      refine ⟨y, ?_, ?_⟩
      · simpa [Nat.add_assoc, Nat.add_comm 1 i] using g1
      · simpa [Nat.add_assoc, Nat.add_comm 1 i] using g2

theorem C_drawM (p : Pl) {id : Nat} {Q : Exit → St → Prop} {s base : List (Nat × AV)} {c : List Ch} (C : (Nat → Bool) → List Ch) (hb : eraseD ops.toList s = some base) (hchk : p.fine ops base = true) (hC : ∀ L L' : Nat → Bool, (∀ e ∈ p.E, L e = L' e) → C L = C L') (h0 : C (fun _ => false) = c)
    (h : SymM X n ops p base C (fun s => Q .normal s) ops.toList []) : SymC X n (.region id ops true) ⟨s, c⟩ Q := by
  intro e a w r
  have hbs : ∀ k y, get base k = some y → get s k = some y := fun k y hk => eraseD_get hb hk
  simp only [Pl.fine, Bool.and_eq_true] at hchk
  obtain ⟨⟨⟨g1, g2⟩, g3⟩, g4⟩ := hchk
  obtain ⟨D, _, hl, hK, hs⟩ := h.plan
  obtain ⟨c1, c2⟩ := chkD_spec g4
  have hbel : Below w.heap.size w { w with drawn := w.drawn + 1 } := ⟨rfl, rfl, rfl, Nat.le_refl _, fun _ _ => rfl⟩
  have hEs : ∀ e ∈ p.E, e < ops.size := fun e he => by
    have := List.all_eq_true.1 g3 e he
    simp [Nat.blt] at this; omega
  refine wp_region_any X.wide ?_
  have hrep : ∀ i, (Array.replicate ops.size false).getD i false = false := fun i => by
    rcases Nat.lt_or_ge i ops.size with h | h
    · simp [h]
    · simp [Nat.not_lt.2 h]
  refine any_of_M (X := X) (Q := concX X n Q) (n := n) (p := p) (base := base) (C := C) (D := D) hEs hC g1 g2 (by simpa using hl) (fun i o ho => ?_) (fun i o ho => ?_) (fun i j o o' d hi hj => c2 i j o o' d (by simpa using hi) (by simpa using hj)) (fun i o d ho hd => ((c1 i o (by simpa using ho)).2 d hd).1)
    (fun e a w r => ⟨e, _, r, hK⟩) _ _ a _ e base (by simp) (by simp) (fun j o hj => by rw [hrep] at hj; cases hj) ?_ (fun k y hk => hk) (fun i d x hi => by rw [hrep] at hi; cases hi) ?_
  · have := hs i o (by simpa using ho)
    simpa using this
  · simpa using (c1 i o (by simpa using ho)).1
  · have h1 : C (fun e => (Array.replicate ops.size false).getD e false) = C (fun _ => false) := hC _ _ (fun e _ => hrep e)
    rw [h1, h0]
    exact (r.below hbel).less hbs (fun h => h)
  · intro k y hy q hq _
    have : ∀ {l : List (Nat × AV)}, p.baseB l = true → get l k = some y → y.no q.2 = true := by
      intro l
      induction l with
      | nil => intro _ h; simp [get] at h
      | cons z l ih =>
        obtain ⟨j, v⟩ := z
        intro h hy
        simp only [Pl.baseB, Bool.and_eq_true, List.all_eq_true] at h
        rw [get_cons] at hy
        by_cases hj : j = k
        · rw [if_pos hj] at hy; cases hy; exact h.1.1 q hq
        · rw [if_neg hj] at hy; exact ih h.2 hy
    exact this g2 hy

def stepMK {P : Program} {T : Tab} (X : Ctx P T) (n : Nat) (ops : Array Oper) (p : Pl) (base : List (Nat × AV)) (C : (Nat → Bool) → List Ch) (K : St → Prop) : List Oper → Done → Option Prop
  | [], done => normG (finS base (killD p done)) fun s => some (K ⟨s, C (fun _ => true)⟩)
  | o :: rest, done => normG (availX p done.length done o.after.toList base) fun Si => match guardA ops ⟨Si, []⟩ o, dstOK n o.dst with
    | some true, true => (match stillX T ⟨Si, []⟩ o.op with
      | some (vc, x) => normA x fun x => (match p.creB done.length x, !(p.E.contains done.length) with
        | true, true => normG (done ++ [(o.dst, x)]) fun done => some (vc ∧ SymM X n ops p base C K rest done)
        | _, _ => none)
      | none => none)
    | some false, true => (match p.creB done.length (.tup []), !(p.E.contains done.length) with
        | true, true => normG (done ++ [(o.dst, .tup [])]) fun done => some (SymM X n ops p base C K rest done)
        | _, _ => none)
    | _, _ => none

theorem sm {p : Pl} {base : List (Nat × AV)} {C : (Nat → Bool) → List Ch} {l : List Oper} {done : Done} {q : Prop} (h : stepMK X n ops p base C K l done = some q) (hq : q) : SymM X n ops p base C K l done := by
  cases l with
  | nil =>
    simp only [stepMK, normG_eq, Option.some.injEq] at h
    subst h
    exact hq
  | cons o rest =>
    simp only [stepMK, normG_eq, normA_eq] at h
    split at h
    · rename_i hg hd
      split at h
      · rename_i vc x hs
        split at h
        · rename_i hc hE
          simp only [Option.some.injEq] at h
          subst h
          refine ⟨x, ⟨hc, fun L _ _ _ => ?_⟩, hq.2⟩
          rw [if_neg (not_mem_of_contains hE)]
          exact StepX.any hg hd hs hq.1
        · cases h
      · cases h
    · rename_i hg hd
      split at h
      · rename_i hc hE
        simp only [Option.some.injEq] at h
        subst h
        refine ⟨.tup [], ⟨hc, fun L _ _ _ => ?_⟩, hq⟩
        rw [if_neg (not_mem_of_contains hE)]
        exact X_none (by rw [guardA_any (c' := [])]; exact hg) hd
      · cases h
    · cases h

theorem SM {p : Pl} {base : List (Nat × AV)} {C : (Nat → Bool) → List Ch} {o : Oper} {rest : List Oper} {done : Done} (x : AV) (hc : p.creB done.length x = true)
    (h : ∀ L : Nat → Bool, (∀ a ∈ p.anc done.length, L a = true) → (∀ q, done.length ∈ p.anc q → L q = false) → L done.length = false → StepX X n ops p (availX p done.length done o.after.toList base) (C L) (if done.length ∈ p.E then C (setM L done.length) else C L) done.length o x)
    (k : normG (done ++ [(o.dst, x)]) fun done => SymM X n ops p base C K rest done) : SymM X n ops p base C K (o :: rest) done := by
  rw [normG_eq] at k
  exact ⟨x, ⟨hc, h⟩, k⟩
end
end Go.Sy

namespace Go.Sy
open Go.RowKit

theorem freshS_filter (d : Nat) : ∀ S : List (Nat × AV), freshS d (S.filter fun q => q.2.no d) = true
  | [] => rfl
  | (k, y) :: S => by
    rw [List.filter_cons]
    split
    · rename_i h
      simp only [freshS, Bool.and_eq_true]
      first | exact ⟨h, freshS_filter d S⟩ | (refine ⟨?_, freshS_filter d S⟩; simpa using h)
    · exact freshS_filter d S
theorem get_filter {d : Nat} : ∀ {S : List (Nat × AV)} {k : Nat} {y : AV}, get S k = some y → y.no d = true → get (S.filter fun q => q.2.no d) k = some y
  | [], k, y, h, _ => by simp [get] at h
  | (j, z) :: S, k, y, h, hy => by
    rw [get_cons] at h
    by_cases hj : j = k
    · rw [if_pos hj] at h; cases h
      rw [List.filter_cons, if_pos (by simpa using hy), get_cons, if_pos hj]
    · rw [if_neg hj] at h
      rw [List.filter_cons]
      split
      · rw [get_cons, if_neg hj]; exact get_filter h hy
      · exact get_filter h hy
theorem get_unfilter {d : Nat} : ∀ {S : List (Nat × AV)} (hS : ∀ k y, get S k = some y → y.no d = true) {k : Nat} {y : AV}, get (S.filter fun q => q.2.no d) k = some y → get S k = some y := by
  intro S hS k y h
  cases hg : get S k with
  | some z =>
    have := get_filter hg (hS k z hg)
    rw [h] at this
    exact this.symm
  | none =>
    exfalso
    have : ∀ S : List (Nat × AV), get S k = none → get (S.filter fun q => q.2.no d) k = none := by
      intro S
      induction S with
      | nil => intro _; rfl
      | cons q S ih =>
        obtain ⟨j, z⟩ := q
        intro h
        rw [get_cons] at h
        by_cases hj : j = k
        · rw [if_pos hj] at h; cases h
        · rw [if_neg hj] at h
          rw [List.filter_cons]
          split
          · rw [get_cons, if_neg hj]; exact ih h
          · exact ih h
    rw [this S hg] at h; cases h

section
variable {P : Program} {T : Tab} {X : Ctx P T} {n : Nat} {e : Env} {st : St} {a : Act} {w : World} {ops : Array Oper} {K : St → Prop}

theorem X_alloc {p : Pl} {t : TypeId} {ti : TI} {d : Nat} {ty : TypeId} {pos : String} {aft : Array Edge} {gd : Option (Nat × Bool)} {j : Nat} {Si : List (Nat × AV)} {c : List Ch} {cells : List AV}
    (hT : T t = some ti) (hcells : cells = ti.zero.map constA) (hg : guardA ops ⟨Si, c⟩ ⟨some d, .alloc t, ty, pos, aft, gd⟩ = some true) (hd : Nat.blt d n = true) (hcre : (j, d) ∈ p.cre) (hc : freshC d c = true) (hno : AV.no.noL d cells = true) (hki : p.ki = []) :
    StepX X n ops p Si c (.box d t cells :: c) j ⟨some d, .alloc t, ty, pos, aft, gd⟩ (.bp d 0) := by
  subst hcells
  intro e a w S K Q r hS hcr hk
  have r0 : Rel X n e ⟨Si, c⟩ a w := r.less hS (fun h => h)
  rw [if_pos (guardA_sound r0 hg)]
  have hfree : ∀ k y, get S k = some y → y.no d = true := fun k y h => hcr k y h (j, d) hcre rfl
  have r1 : Rel X n e ⟨S.filter fun q => q.2.no d, c⟩ a w := r.less (fun k y h => get_unfilter hfree h) (fun h => h)
  obtain ⟨pi, z, g1, g2, g3, g4, g5, g6, g7⟩ := (X.ok _ _ hT).info
  have r2 := r1.alloc (t := t) (arr := z.cells) hd (freshS_filter d S) hc (by rw [g5]; exact zero_sound e g6) hno
  have hrun : (execOp a.eval ⟨some d, .alloc t, ty, pos, aft, gd⟩).run P w = .ok (.value (.pointer (some ⟨w.heap.size, 0, none⟩))) (w.alloc (.cells z.cells t)) := by
    simp [execOp, Instr.alloc, zeroValue, typeInfo, g1, g4, newVar, newRow]
  refine .inl ?_
  unfold Oper.wp
  rw [hrun]
  refine hk _ _ _ _ r2 ⟨?_, ?_, ?_⟩
  · rintro d' h'
    cases h'
    rw [get_cons, if_pos rfl]
  · intro k y hne hy _
    rw [get_cons, if_neg (fun h => hne (by rw [h]))]
    exact get_filter hy (hfree k y hy)
  · intro k y hy
    rw [get_cons] at hy
    by_cases h : d = k
    · rw [if_pos h] at hy; cases hy; exact .inl ⟨by rw [h], rfl⟩
    · rw [if_neg h] at hy; exact .inr (.inl (get_unfilter hfree hy))

theorem X_storeK {p : Pl} {t tt : TypeId} {i : TI} {ad xo : Operand} {b o kk : Nat} {av : AV} {cells new : List AV} {ty : TypeId} {pos : String} {aft : Array Edge} {gd : Option (Nat × Bool)} {j : Nat} {Si : List (Nat × AV)} {c rest : List Ch}
    (hT : T t = some i) (hg : guardA ops ⟨Si, c⟩ ⟨none, .store t ad xo, ty, pos, aft, gd⟩ = some true) (had : opd Si ad = some (.bp b o)) (hx : opd Si xo = some av) (hk : takeCh b c = some (.box kk tt cells, rest)) (hb : boxable av = true) (hl : Nat.beq (cellsA av).length i.size = true) (ho : Nat.ble (o + i.size) cells.length = true)
    (hn : new = cells.take o ++ cellsA av ++ cells.drop (o + (cellsA av).length)) :
    StepX X n ops p Si c (.box kk tt new :: rest) j ⟨none, .store t ad xo, ty, pos, aft, gd⟩ .bad :=
  StepX.skip hg rfl (fun e a w S r r' => by
    subst hn
    have hkk : kk = b := kid_of_take hk
    subst hkk
    have k2 := Nat.eq_of_beq_eq_true hl
    have k3 := Nat.le_of_ble_eq_true ho
    have hv := cellsA_sound (opd_sound r' hx) hb
    have hbp := opd_sound r' had
    simp only [Rep] at hbp
    obtain ⟨w', g1, g2⟩ := r.write (st := ⟨S, c⟩) hk hv (o := o) (by omega)
    have hsz : (a.eval xo).cells.size = i.size := by have := RepL.len hv; simp at this; omega
    have hrun : (execOp a.eval ⟨none, .store t ad xo, ty, pos, aft, gd⟩).run P w = .ok .skip w' := by
      simp only [execOp, Instr.storeAt, hbp, Instr.sureAddr, Sem.run_bind, Sem.run_pure, Result.andThen_ok, storeVar, X.ok.size hT, hsz]
      simp [g1]
    exact ⟨w', e, hrun, g2⟩)
end
end Go.Sy

namespace Go.Sy
open Go.RowKit

section
variable {P : Program} {T : Tab} {X : Ctx P T} {n : Nat} {e : Env} {st : St} {a : Act} {w : World} {ops : Array Oper} {K : St → Prop}

theorem RepL.setA {e : Env} {x y : AV} (h : ∀ v, Rep e x v → Rep e y v) : ∀ {cs : List AV} {j : Nat} {ys : List Value}, cs[j]? = some x → RepL e cs ys → RepL e (cs.set j y) ys
  | [], j, ys, hj, _ => by simp at hj
  | c :: cs, 0, ys, hj, r => by
    simp only [List.getElem?_cons_zero, Option.some.injEq] at hj
    subst hj
    simp only [RepL, List.set_cons_zero] at r ⊢
    obtain ⟨z, zs, e1, r1, r2, r3⟩ := r
    exact ⟨z, zs, e1, h _ r1, r2, r3⟩
  | c :: cs, j + 1, ys, hj, r => by
    simp only [List.getElem?_cons_succ] at hj
    simp only [RepL, List.set_cons_succ] at r ⊢
    obtain ⟨z, zs, e1, r1, r2, r3⟩ := r
    exact ⟨z, zs, e1, r1, r2, RepL.setA h hj r3⟩

theorem HeapOK.cell {e : Env} {w : World} {kk : Nat} {t0 : TypeId} {cells : List AV} {rest : List Ch} {j : Nat} {x y : AV} (h : HeapOK X e w (.box kk t0 cells :: rest)) (hj : cells[j]? = some x) (hxy : ∀ v, Rep e x v → Rep e y v) :
    HeapOK X e w (.box kk t0 (cells.set j y) :: rest) :=
  HeapOK.retell h (fun bs hb => by
    obtain ⟨h1, arr, h2, h3⟩ := hb
    exact ⟨h1, arr, h2, RepL.setA hxy hj h3⟩)

theorem Rel.newHd {s : List (Nat × AV)} {c : List Ch} (r : Rel X n e ⟨s, c⟩ a w) (d : Nat) (v : Value) (hf : freshS d s = true) (hc : freshC d c = true) : Rel X n { e with hd := upd e.hd d v } ⟨s, c⟩ a w := by
  have hnod : ∀ {x : AV}, x.no d = true → ∀ j, x.no j = false → j ≠ d := fun hx j hj he => by subst he; rw [hx] at hj; cases hj
  have hid : ∀ (q : Nat), q ≠ d → upd e.hd d v q = e.hd q := fun q hq => by simp [upd, hq]
  refine { r with slots := ?_, heap := ?_ }
  · intro j x hx
    obtain ⟨v', h1, h2⟩ := r.slots j x hx
    exact ⟨v', h1, Rep.mono (e := e) (f := { e with hd := upd e.hd d v }) (IM.le_refl _) x (fun q hq => ⟨rfl, hid q (hnod (freshS_get hf j x hx) q hq)⟩) h2⟩
  · refine HeapOK.grow r.heap (IM.le_refl _) (fun x hcm j hj => ⟨rfl, hid j ?_⟩) (fun b hb => rfl) (Nat.le_refl _) (fun b _ h => h)
    intro he; subst he; rw [freshC_mem hc x hcm] at hj; cases hj

theorem X_bsl {p : Pl} {Si : List (Nat × AV)} {c : List Ch} {i : Nat} {o : Oper} {el esz len : Nat} {cs : List AV} (hg : guardA ops ⟨Si, c⟩ o = some true) (hd : dstOK n o.dst = true) (hb : bslA T ⟨Si, c⟩ o.op = some (el, esz, len, cs)) :
    StepX X n ops p Si c c i o (.sl len esz (chunkRow esz cs)) :=
  StepX.val hg hd (fun e a w S r r' => by
    obtain ⟨arr, b1, b2, b3, b4⟩ := bslA_sound r' hb
    let G' : IM := ⟨fun b oo => if b = w.heap.size then arr.toList[oo]? else e.G b oo, e.G.m⟩
    have hlt : ∀ b o v, e.G b o = some v → b < w.heap.size := fun b o v h => Go.block_lt_of_cell (r.im b o v h)
    have hle : IM.le e.G G' := by
      refine ⟨?_, fun _ _ h => h⟩
      intro b o v hv
      show (if b = w.heap.size then arr.toList[o]? else e.G b o) = some v
      rw [if_neg (by have := hlt b o v hv; omega)]
      exact hv
    have hnew : (w.alloc (.cells arr el)).heap[w.heap.size]? = some (.cells arr el (0, 0)) := Go.heap_alloc_new w _
    have him : ImOK G' (w.alloc (.cells arr el)) := by
      refine ⟨?_, fun b x hx => (r.mz b x hx).keep (H := G') hle (Go.heap_alloc_old w _ (r.mz b x hx).lt) (fun o v hv => ⟨v, by
        have hv' : (if b = w.heap.size then arr.toList[o]? else e.G b o) = some v := hv
        rw [if_neg (by have := (r.mz b x hx).lt; omega)] at hv'
        exact hv'⟩)⟩
      intro b o v hv
      have hv' : (if b = w.heap.size then arr.toList[o]? else e.G b o) = some v := hv
      split at hv'
      · rename_i hb; subst hb
        rw [cell_of_row _ _ o arr el (0, 0) hnew]
        simpa using hv'
      · have h1 := r.im b o v hv'
        simp only [World.cell?] at h1 ⊢
        rw [Go.heap_alloc_old w _ (hlt b o v hv')]
        exact h1
    have r2 := r.after hle ⟨fun b o v hv => by
      have hv' : (if b = w.heap.size then arr.toList[o]? else e.G b o) = some v := hv
      split at hv'
      · rename_i hb; exact .inr (by omega)
      · exact .inl hv', fun _ _ h => .inl h⟩ him ⟨rfl, rfl, rfl, by simp, fun b hb _ => Go.heap_alloc_old w _ hb⟩
    refine ⟨_, _, _, b4 w, r2, ?_⟩
    simp only [Rep, RepI]
    refine ⟨_, len, rfl, Nat.le_refl _, .inr ⟨w.heap.size, 0, rfl, fun q hq => CellsAt.mk (fun j x hx => ?_)⟩⟩
    obtain ⟨z, z1, z2, z3⟩ := (b3 q hq).get j x hx
    have hj : j < esz := by
      rcases Nat.lt_or_ge j esz with h | h
      · exact h
      · rw [List.getElem?_eq_none (by simp; omega)] at z1; cases z1
    refine ⟨z, ?_, RepI.mono hle x z2, z3⟩
    show (if w.heap.size = w.heap.size then arr.toList[0 + q * esz + j]? else _) = some z
    rw [if_pos rfl, Nat.zero_add]
    rw [List.getElem?_take, if_pos hj, List.getElem?_drop] at z1
    exact z1)

theorem X_appendK {p : Pl} {dst : Nat} {so_ xo : Operand} {t ty : TypeId} {pos : String} {aft : Array Edge} {gd : Option (Nat × Bool)} {j : Nat} {Si : List (Nat × AV)} {c r1 : List Ch} {k : Nat} {el esz m m2 m3 : Nat} {row row2 row3 : Nat → List AV} {by_ : Nat} {sz0 b0 : Nat} {ag0 ag1 : Bool} {z0 z1 : List Value} {d1 : TD}
    (hTs : T t = some ⟨sz0, b0, ag0, z0, .slice el⟩) (hTe : T el = some ⟨esz, by_, ag1, z1, d1⟩) (hpos : Nat.blt 0 esz = true)
    (hg : guardA ops ⟨Si, c⟩ ⟨some dst, .call ⟨.builtin .append, #[so_, xo], #[t, t]⟩, ty, pos, aft, gd⟩ = some true)
    (hso : opd Si so_ = some (.own k)) (hk : takeCh k c = some (.vec k el esz m row, r1))
    (hxo : opd Si xo = some (.sl m2 esz row2)) (hr2 : ∀ i, i < m2 → (row2 i).length = esz)
    (hd : Nat.blt dst n = true) (hcre : (j, dst) ∈ p.cre) (hfc : freshC dst r1 = true) (hki : p.ki = [])
    (hlen : (m + m2) * by_ ≤ 140737488355328) (hlen2 : m + m2 ≤ maxLen)
    (hm3 : m3 = m + m2) (hrow3 : ∀ i, i < m3 → appRow m row row2 i = row3 i) :
    StepX X n ops p Si c (.vec dst el esz m3 row3 :: r1) j ⟨some dst, .call ⟨.builtin .append, #[so_, xo], #[t, t]⟩, ty, pos, aft, gd⟩ (.own dst) := by
  subst hm3
  intro e a w S K Q rS hS hcr hkk
  have r0 : Rel X n e ⟨Si, c⟩ a w := rS.less hS (fun h => h)
  rw [if_pos (guardA_sound r0 hg)]
  have hfree : ∀ k y, get S k = some y → y.no dst = true := fun k y h => hcr k y h (j, dst) hcre rfl
  have r : Rel X n e ⟨S.filter fun q => q.2.no dst, c⟩ a w := rS.less (fun k y h => get_unfilter hfree h) (fun h => h)
  obtain ⟨pi, z, i1, i2, i3, i4, i5, i6, i7⟩ := (X.ok _ _ hTe).info
  obtain ⟨dd, e1, _, e3⟩ := (X.ok _ _ hTs).desc
  simp only [TDOK] at e3
  subst e3
  have hso' := opd_sound r0 hso
  simp only [Rep] at hso'
  obtain ⟨hso', _⟩ := hso'
  have hh := r.heap.perm (takeCh_perm hk)
  obtain ⟨bs, ⟨hbs, xs, g1, g2⟩, _, hgood⟩ := hh.head
  have hzs : z.cells.size = esz := by
    have : z.cells.toList.length = esz := by rw [i5]; exact i7
    simpa using this
  have hpos' : 0 < esz := by have := hpos; simp [Nat.blt] at this; omega
  have hold : ∀ b, (e.hd k).ownBlock = some b → b < w.heap.size ∧ (X.w0.heap.size ≤ b ∨ b ∈ X.bs) ∧ e.G.free b := fun b hb => hgood b (by rw [hbs, hb]; simp)
  have hdis : ∀ b, (e.hd k).ownBlock = some b → ∀ pl : List (Ch × List Nat), pl.map (·.1) = r1 → (∀ p ∈ pl, ChOK e w p.1 p.2) → b ∉ pl.flatMap (·.2) := by
    intro b hb pl hpl hok hin
    obtain ⟨pl', p1, p2, p3, p4⟩ := hh
    cases pl' with
    | nil => simp at p1
    | cons p pl' =>
      simp only [List.map_cons, List.cons.injEq] at p1
      simp only [List.flatMap_cons] at p3
      have hp := p2 p (List.mem_cons_self ..)
      rw [p1.1] at hp
      have heq : pl' = pl := by
        have key : ∀ (l1 l2 : List (Ch × List Nat)), l1.map (·.1) = l2.map (·.1) → (∀ p ∈ l1, ChOK e w p.1 p.2) → (∀ p ∈ l2, ChOK e w p.1 p.2) → l1 = l2 := by
          intro l1
          induction l1 with
          | nil => intro l2 h _ _; cases l2 with
            | nil => rfl
            | cons _ _ => simp at h
          | cons q l1 ih =>
            intro l2 h h1 h2
            cases l2 with
            | nil => simp at h
            | cons q2 l2 =>
              simp only [List.map_cons, List.cons.injEq] at h
              have e1 := h1 q (List.mem_cons_self ..)
              have e2 := h2 q2 (List.mem_cons_self ..)
              rw [← h.1] at e2
              have : q.2 = q2.2 := by
                cases hc : q.1 with
                | box k T cells => rw [hc] at e1 e2; rw [e1.1, e2.1]
                | vec k T esz n row => rw [hc] at e1 e2; rw [e1.1, e2.1]
                | obj k o => rw [hc] at e1 e2; rw [e1.1, e2.1]
                | mapc k ks xs => rw [hc] at e1 e2; rw [e1.1, e2.1]
                | abs A => rw [hc] at e1 e2; rw [e1.1, e2.1]
              rw [ih l2 h.2 (fun p hp => h1 p (List.mem_cons_of_mem _ hp)) (fun p hp => h2 p (List.mem_cons_of_mem _ hp))]
              congr 1
              exact Prod.ext h.1 this
        exact key pl' pl (by rw [p1.2, hpl]) (fun p hp => p2 p (List.mem_cons_of_mem _ hp)) hok
      subst heq
      have := (List.nodup_append.1 p3).2.2 b (by rw [hp.1, hb]; simp) b hin
      exact this rfl
  have hrowsOut : ∀ {news : List Value}, RowsL e.G esz m2 row2 news → RowsL e.G esz (m + m2) row3 (xs ++ news) := fun hn i hi => by
    rw [← hrow3 i hi]; exact rows_app g1.1 g2 hn i hi
  have fin : ∀ {v' : Value}, UpdX p j (some dst) (.own dst) S ((dst, .own dst) :: S.filter fun q => q.2.no dst) := fun {v'} => by
    refine ⟨?_, ?_, ?_⟩
    · rintro d' h'
      cases h'
      rw [get_cons, if_pos rfl]
    · intro k y hne hy _
      rw [get_cons, if_neg (fun h => hne (by rw [h]))]
      exact get_filter hy (hfree k y hy)
    · intro k y hy
      rw [get_cons] at hy
      by_cases h : dst = k
      · rw [if_pos h] at hy
        simp only [Option.some.injEq] at hy
        exact .inl ⟨by rw [h], hy.symm⟩
      · rw [if_neg h] at hy; exact .inr (.inl (get_unfilter hfree hy))
  rcases src_sl hxo hr2 e a w r0 with ⟨ad, cc, news, hx, hl, hnews, h1, hrn⟩ | ⟨hm2, cc, hx⟩
  · obtain ⟨v', w', hr, q2, q3, q4⟩ := run_append_own (P := P) w 0 t ty el pi z esz by_ e1 i1 i4 i2 i3 hzs hpos' (e.hd k) m xs g1 ad m2 cc news hl hnews h1 hlen2 hlen (Nat.zero_le _)
    refine .inl ?_
    unfold Oper.wp
    have hrun : (execOp a.eval ⟨some dst, .call ⟨.builtin .append, #[so_, xo], #[t, t]⟩, ty, pos, aft, gd⟩).run P w = .ok (.value v') w' := by
      simp only [execOp, resolve, invoke, builtin, Sem.run_bind, Sem.run_pure, Result.andThen_ok, List.map_toArray, List.map_cons, List.map_nil, hso', hx, hr]
    rw [hrun]
    have hblk : ∀ b, v'.ownBlock = some b → b < w'.heap.size ∧ (some b = (e.hd k).ownBlock ∨ w.heap.size ≤ b) := by
      intro b hb
      refine ⟨(q2.lt b hb).2, ?_⟩
      simp only at i2 i3
      subst i2 i3
      exact append_block t ty el pi z e1 i1 i4 (e.hd k) m xs g1 ad m2 cc news hl hnews h1 hlen2 hlen hr b hb
    have r2 := r.vec (d := dst) (w' := w') (v' := v') (t := el) (esz := esz) (m := m + m2) (row := row3) (xs := xs ++ news) (s := S.filter fun q => q.2.no dst) (c := r1) (c' := r1) (e.hd k).ownBlock hd
      (fun i x hi => hi) (freshS_filter dst S) hfc hh.drop hold hdis q2 (hrowsOut hrn) q3 hblk
    exact hkk _ _ _ _ r2 (fin (v' := v'))
  · subst hm2
    have hrun0 := append_none t ty el pi e1 i1 (e.hd k) m xs g1 cc
    refine .inl ?_
    unfold Oper.wp
    have hrun : (execOp a.eval ⟨some dst, .call ⟨.builtin .append, #[so_, xo], #[t, t]⟩, ty, pos, aft, gd⟩).run P w = .ok (.value (e.hd k)) w := by
      simp only [execOp, resolve, invoke, builtin, Sem.run_bind, Sem.run_pure, Result.andThen_ok, List.map_toArray, List.map_cons, List.map_nil, hso', hx, hrun0]
    rw [hrun]
    have hrn : RowsL e.G esz 0 row2 ([] : List Value) := fun i hi => by omega
    have r2 := r.vec (d := dst) (w' := w) (v' := e.hd k) (t := el) (esz := esz) (m := m + 0) (row := row3) (xs := xs ++ []) (s := S.filter fun q => q.2.no dst) (c := r1) (c' := r1) (e.hd k).ownBlock hd
      (fun i x hi => hi) (freshS_filter dst S) hfc hh.drop hold hdis (by simpa using g1) (hrowsOut hrn) ⟨rfl, rfl, rfl, Nat.le_refl _, fun _ _ _ => rfl⟩ (fun b hb => ⟨(hold b hb).1, .inl hb.symm⟩)
    exact hkk _ _ _ _ r2 (fin (v' := e.hd k))
end
end Go.Sy

set_option maxRecDepth 100000
namespace Go.Sy
open Go.RowKit
section
variable {P : Program} {T : Tab} {X : Ctx P T} {n : Nat} {ops : Array Oper}

theorem X_buildArr {p : Pl} {t el len sz s0 b0 b1 : Nat} {ag1 ag0 : Bool} {zero z0 : List Value} {d0 : TD} {parts : Array (Nat × Operand)} {ps : List (Nat × AV)} {cs : List AV} {d : Nat} {ty : TypeId} {pos : String} {aft : Array Edge} {gd : Option (Nat × Bool)} {i : Nat} {Si : List (Nat × AV)} {c : List Ch}
    (hg : guardA ops ⟨Si, c⟩ ⟨some d, .build t parts, ty, pos, aft, gd⟩ = some true) (hd : Nat.blt d n = true) (ht : T t = some ⟨s0, b0, ag1, zero, .arr len el⟩) (hel : T el = some ⟨sz, b1, ag0, z0, d0⟩) (hps : opdP Si parts.toList = some ps)
    (hf : fillA (fun i => some (i * sz, sz)) (zero.map constA) ps = some cs) : StepX X n ops p Si c c i ⟨some d, .build t parts, ty, pos, aft, gd⟩ (.agg cs) :=
  StepX.val hg hd (fun e a w S r r' => by
    have hT := X.ok
    obtain ⟨pi, z, g1, g2, g3, g4, g5, g6, g7⟩ := (hT _ _ ht).info
    obtain ⟨dd, e1, _, e3⟩ := (hT _ _ ht).desc
    simp only [TDOK] at e3
    subst e3
    obtain ⟨q1, q2⟩ := opdP_sound r' hps
    simp only at g5 g6
    obtain ⟨out, o1, o2⟩ := fill_sound (e := e) (place := fun i => some (i * sz, sz)) (cp := fun i => some (i * sz, sz)) (fun i q h => h) ps (parts.toList.map fun (i, x) => (i, a.eval x)) _ z.cells cs (by simp [q1]) q2 (by rw [g5]; exact zero_sound e g6) hf
    have hsz := hT.size hel w
    refine ⟨.agg out, w, e, ?_, r, by simp only [Rep]; exact ⟨_, rfl, o2⟩⟩
    simp only [execOp, Instr.build, Sem.run_bind, zeroValue, typeInfo, run_program, Result.andThen_ok, g1, Sem.run_pure, g4, run_underlying e1, hsz, Array.toList_map]
    rw [o1]
    rfl)
end
end Go.Sy

namespace Go.Proofs
open Go.Sy Go.Lib

abbrev INTc (i : Int) : List AV := [I64 i]
abbrev STRc (l : List UInt8) : List AV := [.s l]
abbrev BOLc (b : Bool) : List AV := [B b]
def by_ (l : List UInt8) (i : Nat) : Nat := (l.getD i 0).toNat
theorem by_lt (l : List UInt8) (i : Nat) : by_ l i < 256 := by unfold by_; exact UInt8.toNat_lt _
theorem getD_by (l : List UInt8) (i : Nat) : (l.getD i 0).toNat = by_ l i := rfl
end Go.Proofs

namespace Go.Proofs
open Go.Sy Go.Lib

abbrev U64 (n : Int) : AV := .v (.int .u64 n)

def vput (n : Nat) : List UInt8 := if h : n < 128 then [UInt8.ofNat n] else UInt8.ofNat (n % 128 + 128) :: vput (n / 128)
termination_by n
decreasing_by omega
theorem vput_lt {n : Nat} (h : n < 128) : vput n = [UInt8.ofNat n] := by rw [vput, dif_pos h]
theorem vput_ge {n : Nat} (h : ¬ n < 128) : vput n = UInt8.ofNat (n % 128 + 128) :: vput (n / 128) := by rw [vput, dif_neg h]

theorem u8wrap {x : Int} (h : 0 ≤ x) (h2 : x < 256) : IntKind.u8.wrap x = x := by
  simp only [IntKind.wrap, show IntKind.u8.signed = false from rfl, show IntKind.u8.bits = 8 from rfl, Bool.false_and, Bool.false_eq_true, if_false]
  omega
theorem u64wrap {x : Int} (h : 0 ≤ x) (h2 : x < 18446744073709551616) : IntKind.u64.wrap x = x := by
  simp only [IntKind.wrap, show IntKind.u64.signed = false from rfl, show IntKind.u64.bits = 64 from rfl, Bool.false_and, Bool.false_eq_true, if_false]
  omega

abbrev TK := Nat × Nat × Int
def tkS : Nat → Bool → List UInt8 → TK
  | 0, _, _ => (0, 0, 2)
  | _ + 1, _, [] => (0, 0, 2)
  | f + 1, z, c :: r => if (f = 0 ∧ 1 < c.toNat) ∨ (c.toNat = 0 ∧ z = true) then (0, 0, 1) else if c.toNat < 128 then (c.toNat, 1, 0)
    else match tkS f true r with
      | (m, k, e) => if e = 0 then (c.toNat % 128 + 128 * m, k + 1, 0) else (0, 0, e)
def tk (l : List UInt8) : TK := tkS 10 false l
def comb (i n : Nat) : TK → TK
  | (m, k, e) => if e = 0 then (n + 128 ^ i * m, i + k, 0) else (0, 0, e)

theorem tkS_err : ∀ (f : Nat) (z : Bool) (l : List UInt8), (tkS f z l).2.2 ≠ 0 → (tkS f z l).1 = 0 ∧ (tkS f z l).2.1 = 0
  | 0, _, _, _ => ⟨rfl, rfl⟩
  | f + 1, z, [], _ => ⟨rfl, rfl⟩
  | f + 1, z, c :: r, h => by
    simp only [tkS] at h ⊢
    split at h
    · rename_i h1; rw [if_pos h1]; exact ⟨rfl, rfl⟩
    · rename_i h1
      rw [if_neg h1]
      split at h
      · exact absurd rfl h
      · rename_i h2
        rw [if_neg h2]
        split at h
        · exact absurd rfl h
        · rename_i h3
          simp only [h3, if_false]
          exact ⟨trivial, trivial⟩
theorem comb0 (t : TK) (h : t.2.2 ≠ 0 → t.1 = 0 ∧ t.2.1 = 0) : comb 0 0 t = t := by
  obtain ⟨m, k, e⟩ := t
  unfold comb
  by_cases he : e = 0
  · subst he; simp
  · obtain ⟨h1, h2⟩ := h he
    simp only at h1 h2
    subst h1 h2
    simp [he]
theorem tk_comb (l : List UInt8) : tk l = comb 0 0 (tkS 10 false (l.drop 0)) := by
  rw [comb0 _ (tkS_err _ _ _)]; rfl

theorem comb_step {f i n : Nat} {z : Bool} {l : List UInt8} {c : Nat} (hi : i < l.length) (hc : by_ l i = c) (hok : ¬ ((f = 0 ∧ 1 < c) ∨ (c = 0 ∧ z = true))) (h128 : ¬ c < 128) :
    comb i n (tkS (f + 1) z (l.drop i)) = comb (i + 1) (n + c % 128 * 128 ^ i) (tkS f true (l.drop (i + 1))) := by
  rw [List.drop_eq_getElem_cons hi]
  have hcc : (l[i]).toNat = c := by
    rw [← hc]; unfold by_; rw [List.getD_eq_getElem?_getD, List.getElem?_eq_getElem hi]; rfl
  simp only [tkS, hcc, if_neg hok, if_neg h128]
  obtain ⟨m, k, e⟩ := tkS f true (l.drop (i + 1))
  simp only [comb]
  by_cases he : e = 0
  · subst he
    simp only [if_true]
    refine Prod.ext ?_ (Prod.ext ?_ rfl)
    · simp only [Nat.pow_succ, Nat.mul_add, Nat.add_assoc]
      congr 1
      rw [Nat.mul_comm (c % 128), ← Nat.mul_assoc]
    · simp only []; omega
  · simp only [he, if_false]
theorem comb_last {f i n : Nat} {z : Bool} {l : List UInt8} {c : Nat} (hi : i < l.length) (hc : by_ l i = c) (hok : ¬ ((f = 0 ∧ 1 < c) ∨ (c = 0 ∧ z = true))) (h128 : c < 128) :
    comb i n (tkS (f + 1) z (l.drop i)) = (n + c % 128 * 128 ^ i, i + 1, 0) := by
  rw [List.drop_eq_getElem_cons hi]
  have hcc : (l[i]).toNat = c := by
    rw [← hc]; unfold by_; rw [List.getD_eq_getElem?_getD, List.getElem?_eq_getElem hi]; rfl
  simp only [tkS, hcc, if_neg hok, if_pos h128, comb]
  simp only [if_true]
  rw [Nat.mod_eq_of_lt h128, Nat.mul_comm]
theorem comb_bad {f i n : Nat} {z : Bool} {l : List UInt8} {c : Nat} (hi : i < l.length) (hc : by_ l i = c) (hok : (f = 0 ∧ 1 < c) ∨ (c = 0 ∧ z = true)) :
    comb i n (tkS (f + 1) z (l.drop i)) = (0, 0, 1) := by
  rw [List.drop_eq_getElem_cons hi]
  have hcc : (l[i]).toNat = c := by
    rw [← hc]; unfold by_; rw [List.getD_eq_getElem?_getD, List.getElem?_eq_getElem hi]; rfl
  simp only [tkS, hcc, if_pos hok, comb]
  simp
theorem comb_end {f i n : Nat} {z : Bool} {l : List UInt8} (h : l.length ≤ i ∨ f = 0) : comb i n (tkS f z (l.drop i)) = (0, 0, 2) := by
  rcases h with h | h
  · rw [List.drop_eq_nil_of_le h]
    cases f <;> simp [tkS, comb]
  · subst h; simp [tkS, comb]

theorem tkS_take : ∀ (f : Nat) (z : Bool) (l : List UInt8) (n k : Nat), tkS (f + 1) z l = (n, k, 0) → l.take k = vput n ∧ 1 ≤ k ∧ k ≤ l.length ∧ n < 2 * 128 ^ f ∧ (z = true → 0 < n) := by
  intro f
  induction f with
  | zero =>
    intro z l n k h
    cases l with
    | nil => simp [tkS] at h
    | cons c r =>
      rw [tkS] at h
      split at h
      · simp at h
      · rename_i h1
        split at h
        · rename_i h2
          simp only [Prod.mk.injEq] at h
          obtain ⟨rfl, rfl, _⟩ := h
          have h6 : ¬ 1 < c.toNat := fun hh => h1 (.inl ⟨rfl, hh⟩)
          rw [vput_lt h2]
          refine ⟨by simp, by omega, by simp, by simp; omega, fun hz => ?_⟩
          rcases Nat.eq_zero_or_pos c.toNat with h3 | h3
          · exact absurd (.inr ⟨h3, hz⟩) h1
          · exact h3
        · simp [tkS] at h
  | succ f ih =>
    intro z l n k h
    cases l with
    | nil => simp [tkS] at h
    | cons c r =>
      have hc := UInt8.toNat_lt c
      rw [tkS] at h
      split at h
      · simp at h
      · rename_i h1
        split at h
        · rename_i h2
          simp only [Prod.mk.injEq] at h
          obtain ⟨rfl, rfl, _⟩ := h
          rw [vput_lt h2]
          have : 0 < 128 ^ f := Nat.pow_pos (by omega)
          refine ⟨by simp, by omega, by simp, by rw [Nat.pow_succ]; omega, fun hz => ?_⟩
          rcases Nat.eq_zero_or_pos c.toNat with h3 | h3
          · exact absurd (.inr ⟨h3, hz⟩) h1
          · exact h3
        · rename_i h2
          obtain ⟨m, k', e, ht⟩ : ∃ m k' e, tkS (f + 1) true r = (m, k', e) := ⟨_, _, _, rfl⟩
          rw [ht] at h
          simp only at h
          split at h
          · rename_i he
            subst he
            simp only [Prod.mk.injEq] at h
            obtain ⟨rfl, rfl, _⟩ := h
            obtain ⟨i1, i2, i3, i4, i5⟩ := ih true r m k' ht
            have := i5 rfl
            refine ⟨?_, by omega, by simp; omega, by rw [Nat.pow_succ]; omega, fun _ => by omega⟩
            rw [List.take_succ_cons, i1, vput_ge (n := c.toNat % 128 + 128 * m) (by omega)]
            rw [show (c.toNat % 128 + 128 * m) / 128 = m by omega, show (c.toNat % 128 + 128 * m) % 128 + 128 = c.toNat by omega]
            simp
          · rename_i he
            simp only [Prod.mk.injEq] at h
            exact absurd h.2.2 he
theorem tk_take {l : List UInt8} {n k : Nat} (h : tk l = (n, k, 0)) : l.take k = vput n ∧ 1 ≤ k ∧ k ≤ l.length ∧ n < 18446744073709551616 := by
  obtain ⟨h1, h2, h3, h4, _⟩ := tkS_take 9 false l n k h
  exact ⟨h1, h2, h3, by omega⟩

theorem or128 (n : Nat) : bitsV .or .u8 (IntKind.u8.wrap (n : Int)) 128 = ((n % 128 + 128 : Nat) : Int) := by
  have hw : IntKind.u8.wrap (n : Int) = ((n % 256 : Nat) : Int) := by
    simp only [IntKind.wrap, show IntKind.u8.signed = false from rfl, show IntKind.u8.bits = 8 from rfl, Bool.false_and, Bool.false_eq_true, if_false]
    omega
  rw [hw]
  have : ∀ m : Fin 256, bitsV .or .u8 ((m.val : Nat) : Int) 128 = ((m.val % 128 + 128 : Nat) : Int) := by decide +kernel
  have h := this ⟨n % 256, Nat.mod_lt _ (by omega)⟩
  simp only at h
  rw [h]
  omega

theorem vput_len2 : ∀ (k n : Nat), n < 128 ^ (k + 1) → (vput n).length ≤ k + 1
  | 0, n, h => by rw [vput_lt (by simpa using h)]; simp
  | k + 1, n, h => by
    by_cases hn : n < 128
    · rw [vput_lt hn]; simp
    · rw [vput_ge hn, List.length_cons]
      have : n / 128 < 128 ^ (k + 1) := by
        rw [Nat.div_lt_iff_lt_mul (by omega)]
        rw [Nat.pow_succ] at h
        exact h
      have := vput_len2 k (n / 128) this
      omega
theorem vput_len10 {n : Nat} (h : n < 18446744073709551616) : (vput n).length ≤ 10 := vput_len2 9 n (Nat.lt_of_lt_of_le h (by decide))

theorem byte_of {m : Nat} (h : m < 256) : ((UInt8.ofNat m).toNat : Int) = (m : Int) := by
  rw [UInt8.toNat_ofNat_of_lt' (by simpa using h)]

theorem Put83_p (n : Nat) (hn : n < 18446744073709551616) : FnP Tryz.prog 220 [U64 (n : Int)] (· = .s (vput n)) := by
  refine FnP.intro Tryz.tabOK Tryz.wide_ Tryz.func220 rfl (by decide) rfl (fun X => ?_)
  repeat (first | refine sc rfl ?_ | refine so rfl ?_ | refine sb rfl ?_ | refine C_scope ?_)
  refine C_loop (fun p : Nat × List UInt8 => ⟨[(0, U64 (p.1 : Int)), (3, .own 16)], [VEC 16 5 1 U8c p.2]⟩) (fun p => p.1 ≤ n ∧ p.2 ++ vput p.1 = vput n) (fun p => p.1) (n, []) ⟨Nat.le_refl _, rfl⟩
    ((Le.nilvec (α := UInt8) U8c 3 16 5 1 rfl rfl rfl).trans (Le.sub [16] ⟨rfl, rfl, trivial⟩ rfl)) ?_
  rintro ⟨m, l⟩ ⟨hm, hl⟩
  simp only at hm hl
  have h10 := vput_len10 hn
  rw [← hl, List.length_append] at h10
  repeat (first|refine sc rfl ?_|refine so rfl ?_|refine sb rfl ?_)
  refine C_if rfl (fun h => ?_) (fun h => ?_) <;> simp only [decide_eq_true_eq, decide_eq_false_iff_not] at h
  · have hb : IntKind.u8.wrap (m : Int) = ((UInt8.ofNat m).toNat : Int) := by rw [byte_of (by omega), u8wrap (by omega) (by omega)]
    iterate 2 refine sc rfl ?_
    repeat (first | refine so rfl ?_)
    rw [hb]
    repeat (first | refine sb rfl ?_)
    refine O_push U8c l (UInt8.ofNat m) [(0, U64 (m : Int))] rfl rfl rfl rfl rfl rfl rfl rfl rfl rfl ⟨rfl, trivial⟩ rfl rfl (by omega) (by simp only [maxLen]; omega) ?_
    repeat (first|refine sc rfl ?_|refine so rfl ?_|refine sb rfl ?_)
    refine O_text (l ++ [UInt8.ofNat m]) rfl rfl rfl rfl rfl (by rw [List.length_append, List.length_singleton]; omega) rfl ?_
    repeat (first|refine sc rfl ?_|refine so rfl ?_|refine sb rfl ?_)
    exact ⟨_, rfl, rfl, by rw [← hl, vput_lt (by omega)]⟩
  · repeat (first | refine sc rfl ?_ | refine so rfl ?_)
    rw [or128, ← byte_of (show m % 128 + 128 < 256 by omega)]
    repeat (first | refine sb rfl ?_)
    refine O_push U8c l (UInt8.ofNat (m % 128 + 128)) [(0, U64 (m : Int))] rfl rfl rfl rfl rfl rfl rfl rfl rfl rfl ⟨rfl, trivial⟩ rfl rfl (by omega) (by simp only [maxLen]; omega) ?_
    repeat (first | refine sc rfl ?_ | refine so rfl ?_ | refine ⟨by decide, ?_⟩)
    have e1 : (m : Int).fdiv (2 ^ min (Int.toNat 7) IntKind.u64.bits) = ((m / 128 : Nat) : Int) := by
      rw [show (2 : Int) ^ min (Int.toNat 7) IntKind.u64.bits = 128 by decide, Int.fdiv_eq_ediv_of_nonneg _ (by decide)]
      omega
    rw [e1]
    repeat (first | refine sc rfl ?_ | refine so rfl ?_)
    exact ⟨(m / 128, l ++ [UInt8.ofNat (m % 128 + 128)]), ⟨by omega, by rw [← hl, vput_ge (show ¬ m < 128 by omega), List.append_assoc]; rfl⟩, by simp only; omega, Le.sub [16] ⟨rfl, rfl, trivial⟩ rfl⟩

abbrev tkA (t : TK) : AV := .tup [U64 (t.1 : Nat), I64 (t.2.1 : Nat), I64 t.2.2]

theorem or64 (n m i : Nat) (hn : n < 128 ^ i) (h : n + m * 128 ^ i < 18446744073709551616) : bitsV .or .u64 (n : Int) ((m * 128 ^ i : Nat) : Int) = ((n + m * 128 ^ i : Nat) : Int) := by
  have h1 : n ||| (m * 128 ^ i) = n + m * 128 ^ i := by
    have h2 : (128 : Nat) ^ i = 2 ^ (7 * i) := by rw [Nat.pow_mul]
    rw [h2] at hn ⊢
    have := Nat.two_pow_add_eq_or_of_lt hn m
    rw [Nat.mul_comm m, Nat.or_comm, ← this, Nat.add_comm]
  simp only [bitsV]
  rw [show IntKind.u64.bits = 64 from rfl, BitVec.toNat_or, BitVec.ofInt_natCast, BitVec.ofInt_natCast, BitVec.toNat_ofNat, BitVec.toNat_ofNat, Nat.mod_eq_of_lt (by omega), Nat.mod_eq_of_lt (by omega), h1]
  exact u64wrap (by omega) (by omega)
theorem and127 (c : Nat) (h : c < 256) : bitsV .and .u8 (c : Int) 127 = ((c % 128 : Nat) : Int) := by
  have h1 : c &&& 127 = c % 128 := by
    have := Nat.and_two_pow_sub_one_eq_mod c 7
    simpa using this
  simp only [bitsV]
  rw [show IntKind.u8.bits = 8 from rfl, BitVec.toNat_and, BitVec.ofInt_natCast, show (BitVec.ofInt 8 127) = BitVec.ofNat 8 127 from rfl, BitVec.toNat_ofNat, BitVec.toNat_ofNat, Nat.mod_eq_of_lt h, show 127 % 2 ^ 8 = 127 from rfl, h1]
  exact u8wrap (by omega) (by omega)
theorem pow_le9 {i : Nat} (h : i ≤ 9) : 128 ^ i ≤ 9223372036854775808 := by
  have : 128 ^ i ≤ 128 ^ 9 := Nat.pow_le_pow_right (by omega) h
  omega

theorem vTake_p (l : List UInt8) (hl : l.length ≤ 9223372036854775807) : FnP Tryz.prog 201 [.s l] (· = tkA (tk l)) := by
  refine FnP.intro Tryz.tabOK Tryz.wide_ Tryz.func201 rfl (by decide) rfl (fun X => ?_)
  have fin : ∀ (t : TK) (r : AV), tk l = t → r = tkA t → r = tkA (tk l) := fun t r h hr => by rw [hr, h]
  repeat (first | refine sc rfl ?_ | refine so rfl ?_ | refine sb rfl ?_ | refine C_scope ?_)
  refine C_loop (fun q : Nat × Nat => ⟨[(0, .s l), (10, I64 (min l.length 10 : Nat)), (11, I64 (q.1 : Nat)), (5, U64 (q.2 : Nat))], []⟩)
    (fun q => q.1 ≤ 10 ∧ q.1 ≤ l.length ∧ q.2 < 128 ^ q.1 ∧ tk l = comb q.1 q.2 (tkS (10 - q.1) (decide (0 < q.1)) (l.drop q.1))) (fun q => 10 - q.1) (0, 0) ⟨by decide, by simp only []; omega, by decide, tk_comb l⟩
    (Le.sub [] ⟨rfl, congrArg (fun x => some (I64 x)) (by omega), rfl, rfl, trivial⟩ rfl) ?_
  rintro ⟨i, n⟩ ⟨hi10, hil, hn, ht⟩
  simp only [] at hi10 hil hn ht
  repeat (first | refine sc rfl ?_ | refine so rfl ?_ | refine sb rfl ?_ | refine C_scope ?_)
  refine C_if rfl (fun h => ?_) (fun h => ?_) <;> simp only [decide_eq_true_eq, decide_eq_false_iff_not] at h
  · have hi : i < l.length ∧ i < 10 := by omega
    obtain ⟨f, hf⟩ : ∃ f, 10 - i = f + 1 := ⟨9 - i, by omega⟩
    rw [hf] at ht
    obtain ⟨c, hc⟩ : ∃ c, by_ l i = c := ⟨_, rfl⟩
    have hc256 : c < 256 := by rw [← hc]; exact by_lt l i
    repeat (first | refine sc rfl ?_ | refine so rfl ?_ | refine sb rfl ?_ | refine C_scope ?_ | refine ⟨by omega, ?_⟩)
    rw [Int.toNat_natCast, getD_by, hc]
    have key : ((f = 0 ∧ 1 < c) ∨ (c = 0 ∧ decide (0 < i) = true)) ↔ ((i = 9 ∧ 1 < c) ∨ (c = 0 ∧ 0 < i)) := by simp only [decide_eq_true_eq]; omega
    refine O_join ⟨[(0, .s l), (10, I64 (min l.length 10 : Nat)), (11, I64 (i : Nat)), (5, U64 (n : Nat)), (6, I64 (i : Nat)), (7, .v (.int .u8 c)), (17, B (decide (i = 9 ∧ 1 < c)))], []⟩ ?_ (fun s h => C_le _ h ?_)
    · have fin2 : ∀ x : Bool, x = decide (i = 9 ∧ 1 < c) → some (B x) = some (B (decide (i = 9 ∧ 1 < c))) := fun x hb => by rw [hb]
      refine O_case 20 rfl (fun h5 => ?_) (fun h5 => ?_) <;> simp at h5 <;> repeat (first|refine sc rfl ?_|refine so rfl ?_|refine sb rfl ?_)
      · exact Le.sub [] ⟨rfl, rfl, rfl, rfl, rfl, rfl, fin2 _ (by rw [Bool.eq_iff_iff]; simp; omega), trivial⟩ rfl
      · exact Le.sub [] ⟨rfl, rfl, rfl, rfl, rfl, rfl, fin2 _ (by rw [Bool.eq_iff_iff]; simp; omega), trivial⟩ rfl
    refine C_ifJ ⟨[(0, .s l), (10, I64 (min l.length 10 : Nat)), (11, I64 (i : Nat)), (5, U64 (n : Nat)), (6, I64 (i : Nat)), (7, .v (.int .u8 c)), (17, B (decide ((i = 9 ∧ 1 < c) ∨ (c = 0 ∧ 0 < i))))], []⟩ rfl (fun h1 => ?_) (fun h1 => ?_) (fun s h => C_le _ h ?_)
    · simp only [decide_eq_true_eq] at h1
      repeat (first|refine sc rfl ?_|refine so rfl ?_|refine sb rfl ?_)
      exact Le.sub [] ⟨rfl, rfl, rfl, rfl, rfl, rfl, congrArg (fun x => some (B x)) (by rw [Bool.eq_iff_iff]; simp only [decide_eq_true_eq]; omega), trivial⟩ rfl
    · simp only [decide_eq_false_iff_not] at h1
      repeat (first|refine sc rfl ?_|refine so rfl ?_|refine sb rfl ?_)
      have fin2 : ∀ x : Bool, x = decide ((i = 9 ∧ 1 < c) ∨ (c = 0 ∧ 0 < i)) → some (B x) = some (B (decide ((i = 9 ∧ 1 < c) ∨ (c = 0 ∧ 0 < i)))) := fun x hb => by rw [hb]
      refine O_case 26 rfl (fun h5 => ?_) (fun h5 => ?_) <;> simp at h5 <;> repeat (first|refine sc rfl ?_|refine so rfl ?_|refine sb rfl ?_)
      · exact Le.sub [] ⟨rfl, rfl, rfl, rfl, rfl, rfl, fin2 _ (by rw [Bool.eq_iff_iff]; simp; omega), trivial⟩ rfl
      · exact Le.sub [] ⟨rfl, rfl, rfl, rfl, rfl, rfl, fin2 _ (by rw [Bool.eq_iff_iff]; simp; omega), trivial⟩ rfl
    repeat (first|refine sc rfl ?_|refine so rfl ?_|refine sb rfl ?_)
    refine C_if rfl (fun h1 => ?_) (fun h1 => ?_)
    · have h2 := key.2 (of_decide_eq_true h1)
      repeat (first|refine sc rfl ?_|refine so rfl ?_|refine sb rfl ?_)
      exact ⟨_, rfl, rfl, fin (0, 0, 1) _ (by rw [ht, comb_bad hi.1 hc h2]) rfl⟩
    have h2 : ¬ ((f = 0 ∧ 1 < c) ∨ (c = 0 ∧ decide (0 < i) = true)) := fun hh => of_decide_eq_false h1 (key.1 hh)
    have hp9 := pow_le9 (i := i) (by omega)
    have hm : c % 128 * 128 ^ i ≤ 127 * 128 ^ i := Nat.mul_le_mul_right _ (by omega)
    have hsum : n + c % 128 * 128 ^ i < 18446744073709551616 := by
      by_cases h9 : i = 9
      · subst h9
        have h3 : c ≤ 1 := by omega
        have h4 : c % 128 * 128 ^ 9 ≤ 1 * 128 ^ 9 := Nat.mul_le_mul_right _ (by omega)
        omega
      · have h4 : 128 ^ i ≤ 128 ^ 8 := Nat.pow_le_pow_right (by omega) (by omega)
        omega
    repeat (first | refine sc rfl ?_ | refine so rfl ?_ | refine sb rfl ?_ | refine ⟨by omega, ?_⟩)
    rw [w64 (x := 7 * (i : Int)) (by omega) (by omega)]
    refine ⟨by omega, ?_⟩
    have hv : bitsV .or .u64 (n : Int) (IntKind.u64.wrap (IntKind.u64.wrap (bitsV .and .u8 (c : Int) 127) * 2 ^ min (7 * (i : Int)).toNat IntKind.u64.bits)) = ((n + c % 128 * 128 ^ i : Nat) : Int) := by
      rw [and127 c hc256, u64wrap (x := ((c % 128 : Nat) : Int)) (by omega) (by omega), show IntKind.u64.bits = 64 from rfl, show min (7 * (i : Int)).toNat 64 = 7 * i by omega]
      have h3 : ((c % 128 : Nat) : Int) * 2 ^ (7 * i) = ((c % 128 * 128 ^ i : Nat) : Int) := by
        have h2 : (128 : Nat) ^ i = 2 ^ (7 * i) := by rw [Nat.pow_mul]
        rw [h2]
        rw [Int.natCast_mul, Int.natCast_pow]
        rfl
      rw [h3, u64wrap (by omega) (by omega), or64 n _ i hn hsum]
    repeat (first|refine sc rfl ?_|refine so rfl ?_|refine sb rfl ?_)
    rw [hv]
    repeat (first|refine sc rfl ?_|refine so rfl ?_|refine sb rfl ?_)
    refine C_if rfl (fun h3 => ?_) (fun h3 => ?_) <;> simp only [decide_eq_true_eq, decide_eq_false_iff_not] at h3
    · repeat (first|refine sc rfl ?_|refine so rfl ?_|refine sb rfl ?_)
      rw [w64 (by omega) (by omega)]
      exact ⟨_, rfl, rfl, fin (n + c % 128 * 128 ^ i, i + 1, 0) _ (by rw [ht, comb_last hi.1 hc h2 (by omega)]) rfl⟩
    · repeat (first|refine sc rfl ?_|refine so rfl ?_|refine sb rfl ?_)
      rw [w64 (by omega) (by omega)]
      refine ⟨(i + 1, n + c % 128 * 128 ^ i), ⟨by simp only []; omega, by simp only []; omega, ?_, ?_⟩, by simp only []; omega, Le.sub [] ⟨rfl, rfl, rfl, rfl, trivial⟩ rfl⟩
      · simp only [Nat.pow_succ]
        omega
      · simp only []
        rw [ht, comb_step hi.1 hc h2 (by omega), show 10 - (i + 1) = f by omega, show decide (0 < i + 1) = true from decide_eq_true (by omega)]
  · repeat (first | refine sc rfl ?_ | refine so rfl ?_ | refine sb rfl ?_ | refine C_scope ?_)
    refine ⟨_, rfl, rfl, fin (0, 0, 2) _ ?_ rfl⟩
    rw [ht, comb_end (by omega)]

end Go.Proofs

namespace Go

section
variable {P : Program} {ops : Array Oper} {md : Region.Mode} {Q : Exit → Act → World → Prop}

def noDefer : Op → Bool
  | .defer _ => false
  | _ => true

theorem semAt_nd {ro : Option Nat} {ρ : Operand → Value} {o : Oper} (h : noDefer o.op = true) : o.semAt ro ρ = execOp ρ o :=
  Oper.semAt_eq ro ρ o (fun c hc => by rw [hc] at h; cases h)

theorem Oper.wp_round {l n : Nat} {o : Oper} {a : Act} {w : World} {K K' : Act → World → Prop} (hd : noDefer o.op = true) (hK : ∀ a w, K a w → K' a w)
    (h : o.wp P a w K Q) : o.wpIn (Fence.wide.inRound l) n P a w K' Q := by
  refine ⟨fun _ _ => trivial, ?_⟩
  rw [semAt_nd hd]
  unfold Oper.wp at h
  generalize (execOp a.eval o).run P w = r at h ⊢
  cases r with
  | ok x w' =>
    cases x <;> simp only [Oper.upon] at h <;> simp only [Oper.uponIn]
    all_goals first | exact hK _ _ h | exact h.elim | skip
    case enter f args =>
      refine ⟨fun h0 => (by cases h0), ?_⟩
      refine CallsIn.inRound l (callsIn_wide.2 (h.mono ?_))
      intro e w2 h2
      cases e with
      | returned v => exact hK _ _ h2
      | panicked c => exact h2
      | outgrown => exact h2
    case row r args =>
      refine ⟨fun h0 => (by cases h0), ?_⟩
      have h3 : RowsIn Fence.wide (n - 1) P r args w' (fun v w'' => K' (a.put o.dst v) w'') := fun c cs _ => by
        obtain ⟨v, w2, r2, s⟩ := h c cs
        exact ⟨v, w2, hK _ _ r2, stepsIn_wide.2 s⟩
      exact h3
  | halt x w' => cases x <;> simp only [Oper.upon] at h <;> simp only [Oper.uponIn] <;> exact h

theorem wpOp_round {l n i : Nat} {a : Act} {w : World} {K K' : Act → World → Prop} (hd : ∀ o : Oper, ops[i]? = some o → noDefer o.op = true) (hQ : ¬LetsOut Q) (hK : ∀ a w, K a w → K' a w)
    (h : wpOp P ops Q i K a w) : wpOpIn (Fence.wide.inRound l) n P ops Q i K' a w := by
  unfold wpOp at h
  unfold wpOpIn
  split
  · rename_i ho; simp only [ho] at h; exact hK _ _ h
  · rename_i o ho
    simp only [ho] at h
    split
    · rename_i hw
      simp only [hw, if_true] at h
      rcases h with h | h
      · exact Oper.wp_round (hd o ho) hK h
      · exact absurd h.2 hQ
    · rename_i hw
      simp only [hw] at h
      exact ⟨fun _ _ => trivial, hK _ _ h⟩

theorem wpAny_round {l n : Nat} (hd : ∀ (i : Nat) (o : Oper), ops[i]? = some o → noDefer o.op = true) (hQ : ¬LetsOut Q) : ∀ (fuel : Nat) (listed : Array Bool) (a : Act) (w : World),
    wpAny P md ops Q fuel listed a w → wpAnyIn (Fence.wide.inRound l) n P md ops Q fuel listed a w
  | 0, _, _, _, h => h
  | fuel + 1, listed, a, w, h => ⟨h.1, fun i hi => wpOp_round (hd i) hQ (fun a w => wpAny_round hd hQ fuel _ a w) (h.2 i hi)⟩

theorem round_region_any {l n id : Nat} {a : Act} {w : World} (hm : P.follows .mixedOrders = true) (hd : ops.toList.all (fun o : Oper => noDefer o.op) = true) (hQ : ¬LetsOut Q)
    (h : wpAny P .any ops Q ops.size (Array.replicate ops.size false) a { w with drawn := w.drawn + 1 }) : (Code.region id ops true).wpIn (Fence.wide.inRound l) n P Q a w :=
  wpIn_region_any hm (wpAny_round (fun i o ho => List.all_eq_true.1 hd o (Array.mem_toList_iff.2 (Array.mem_of_getElem? ho))) hQ _ _ _ _ h)

theorem round_region_still {l n id : Nat} {a : Act} {w : World} {L : List Oper} (hm : P.follows .mixedOrders = true) (hB : Region.lexB .any L.toArray = true) (hd : L.all (fun o : Oper => noDefer o.op) = true) (hQ : ¬LetsOut Q)
    (h : wpStill P L.toArray { w with drawn := w.drawn + 1 } (fun a' => Q .normal a' { w with drawn := w.drawn + 1 }) L a) : (Code.region id L.toArray true).wpIn (Fence.wide.inRound l) n P Q a w := by
  simp only [Region.lexB, Bool.and_eq_true] at hB
  refine round_region_any hm (by simpa using hd) hQ (wpAny_of_still (Q := fun a' => Q .normal a' { w with drawn := w.drawn + 1 }) (fun _ h => h) _ _ _ ?_)
  have := wpAnyS_lex (md := .any) hB.1 L 0 (Array.replicate L.length false) a (by simp) (by simpa using hB.2) h
  simpa using this
theorem round_region_still_tail {l m id : Nat} {a : Act} {w : World} {L : List Oper} (n : Nat) (hm : P.follows .mixedOrders = true) (hB : Region.lexTailB .any L.toArray n = true) (hd : L.all (fun o : Oper => noDefer o.op) = true) (hQ : ¬LetsOut Q)
    (h : wpStill P L.toArray { w with drawn := w.drawn + 1 } (fun a' => wpList P L.toArray Q (L.drop n) a' { w with drawn := w.drawn + 1 }) (L.take n) a) : (Code.region id L.toArray true).wpIn (Fence.wide.inRound l) m P Q a w := by
  simp only [Region.lexTailB, Bool.and_eq_true, decide_eq_true_eq] at hB
  obtain ⟨⟨⟨⟨hsel, hn⟩, hs⟩, hc⟩, hlex⟩ := hB
  have hn' : n < L.length := by simpa using hn
  have htl : (L.take n).length = n := by simp; omega
  have hdl : (L.drop n).length = L.toArray.size - n := by simp
  have inv0 : HeadInv .any L.toArray n (Array.replicate L.toArray.size false) :=
    ⟨by simp, fun j oj _ hl => (by rw [getD_replicate_false] at hl; cases hl), fun t _ ht => getD_in (by simpa using ht) (getD_replicate_false _ _)⟩
  have H := wpAnyL_lex (md := .any) (g := L.toArray.size - n) hsel hs hc hn (L.take n) 0 _ a (fun j hj => by
    have hj' : j < n := by rw [htl] at hj; exact hj
    simp [hj']) (by simpa using htl) inv0 (by rw [htl]; exact hlex) h
  refine round_region_any hm (by simpa using hd) hQ ?_
  have := wpAny_of_head (Q' := Q) (g := L.toArray.size - n) (fun listed a' hL => by
    have := wpAny_of_seq (md := .any) (Q' := Q) (L.drop n) n listed a' { w with drawn := w.drawn + 1 } (fun j => by simp [List.getElem?_drop]) (by rw [hdl]; exact hL.1) hL.2
    rwa [hdl] at this) _ _ _ H
  rw [htl, show n + (L.toArray.size - n) = L.toArray.size by omega] at this
  exact this
end
end Go

namespace Go.Proofs
open Go.RowKit Go.Shelf

attribute [local go_sem] Oper.semAt_some

def loP (i : Nat) : Int := if i = 0 then 1040 else 0
def hiP (i : Nat) : Int := if i = 4 then 64 else if i = 5 then 64 else if i = 6 then 16 else 1048576
abbrev plV (B i : Nat) : Value := .agg #[.pointer (some ⟨B, i, none⟩), .int .i64 (loP i), .int .i64 (hiP i)]
abbrev encP (B i : Nat) : Array Value := #[.int .i64 (i : Int), plV B i]
def arrP (B : Nat) : List Value := [.pointer (some ⟨B, 0, none⟩), .int .i64 1040, .int .i64 1048576, .pointer (some ⟨B, 1, none⟩), .int .i64 0, .int .i64 1048576, .pointer (some ⟨B, 2, none⟩), .int .i64 0, .int .i64 1048576,
  .pointer (some ⟨B, 3, none⟩), .int .i64 0, .int .i64 1048576, .pointer (some ⟨B, 4, none⟩), .int .i64 0, .int .i64 64, .pointer (some ⟨B, 5, none⟩), .int .i64 0, .int .i64 64, .pointer (some ⟨B, 6, none⟩), .int .i64 0, .int .i64 16,
  .pointer (some ⟨B, 7, none⟩), .int .i64 0, .int .i64 1048576, .pointer (some ⟨B, 8, none⟩), .int .i64 0, .int .i64 1048576]
theorem ntmps289_ : Tryz.f289.ntmps = 16 := by kernel_rfl

open Go.Sy in
theorem RepL_v {e : Env} : ∀ {l zs : List Value}, RepL e (l.map .v) zs → zs = l
  | [], zs, h => by simpa [RepL] using h
  | x :: l, zs, h => by
    simp only [List.map_cons, RepL] at h
    obtain ⟨z, t, rfl, h1, _, h2⟩ := h
    simp only [Rep] at h1
    rw [h1, RepL_v h2]
open Go.Sy in
theorem RepL_mkv {e : Env} : ∀ {l : List Value}, (∀ x ∈ l, x.oneCell' = true) → RepL e (l.map .v) l
  | [], _ => by simp [RepL]
  | x :: l, h => by
    simp only [List.map_cons, RepL]
    exact ⟨x, l, rfl, by simp [Rep], h x (List.mem_cons_self ..), RepL_mkv (fun y hy => h y (List.mem_cons_of_mem _ hy))⟩
theorem load_whole {t b : Nat} {i : Go.Sy.TI} (ht : Tryz.tab t = some i) {T : TypeId} {l : List Value} {W : World} (hg : W.heap[b]? = some (.cells l.toArray T (0, 0))) (h1 : ∀ x ∈ l, x.oneCell' = true)
    (hl : Go.Sy.loadA i (l.map .v) = some (.agg (l.map .v))) : (loadVar t ⟨b, 0, none⟩).run Tryz.prog W = .ok (.agg l.toArray) W := by
  obtain ⟨v, h3, h4⟩ := Go.Sy.load_sound Tryz.tabOK ht (e := ⟨Go.Sy.IM.empty, fun _ => 0, fun _ => undef⟩) (w := W) (b := b) (o := 0) (cells := l.map .v)
    (by have := Go.Sy.readable_bp (e := ⟨Go.Sy.IM.empty, fun _ => 0, fun _ => undef⟩) hg (cells := l.map .v) (by simpa using RepL_mkv h1) 0; simpa using this) hl
  simp only [Go.Sy.Rep] at h3
  obtain ⟨ys, rfl, h5⟩ := h3
  have h6 := RepL_v h5
  rw [h4 W (Go.Sy.SameAs.refl W)]
  congr 2
  rw [← h6]
theorem arrP_one (B : Nat) : ∀ x ∈ arrP B, x.oneCell' = true := by
  intro x hx
  simp only [arrP, List.mem_cons, List.not_mem_nil, or_false] at hx
  rcases hx with rfl | rfl | rfl | rfl | rfl | rfl | rfl | rfl | rfl | rfl | rfl | rfl | rfl | rfl | rfl | rfl | rfl | rfl | rfl | rfl | rfl | rfl | rfl | rfl | rfl | rfl | rfl <;> rfl
theorem load_arr {W : World} {g B : Nat} (hg : W.heap[g]? = some (.cells (arrP B).toArray 436 (0, 0))) : (loadVar 436 ⟨g, 0, none⟩).run Tryz.prog W = .ok (.agg (arrP B).toArray) W :=
  load_whole (i := _) rfl hg (arrP_one B) rfl

theorem LI_step {F : Fence} {n : Nat} {P : Program} {ops : Array Oper} {Q : Exit → Act → World → Prop} {o : Oper} {rest : List Oper} {a : Act} {w w' : World} {v : Value} (hg : o.guard = none) (hd : noDefer o.op = true)
    (hab : ∀ f, o.about P w a.eval = some f → F.fn f) (hv : (execOp a.eval o).run P w = .ok (.value v) w') (k : wpListIn F n P ops Q rest (a.put o.dst v) w') : wpListIn F n P ops Q (o :: rest) a w := by
  unfold wpListIn
  have hw : Region.wanted o (yielded ops a.tmps) = true := by unfold Region.wanted; rw [hg]
  rw [if_pos hw]
  refine ⟨hab, ?_⟩
  rw [semAt_nd hd, hv]
  exact k

theorem idx_arr {w : World} {B i : Nat} (hi : i < 9) : (Instr.index 436 (.agg (arrP B).toArray) (.int .i64 (i : Int))).run Tryz.prog w = .ok (plV B i) w := by
  rcases (by omega : i = 0 ∨ i = 1 ∨ i = 2 ∨ i = 3 ∨ i = 4 ∨ i = 5 ∨ i = 6 ∨ i = 7 ∨ i = 8) with rfl | rfl | rfl | rfl | rfl | rfl | rfl | rfl | rfl
  all_goals (simp [Instr.index, go_sem]; rfl)

set_option maxHeartbeats 4000000 in
theorem places1_in (F : Fence) (n : Nat) (h7 : F.fn 289) (hro : F.round = none) (hn : 1 ≤ n) (l g B : Nat) (J Jx : List Nat → World → Prop)
    (W : World) (hJ : AbidesFrom W.heap.size J)
    (hY : ∀ pre x W, J pre W → pre.length < 9 → x = pre.length → YieldAt F (n - 1) Tryz.prog l (encP B x) W fun e W' =>
      (e = .returned (.bool true) ∧ J (pre ++ [x]) W' ∧ KeepsWalks W W') ∨ (e = .returned (.bool false) ∧ Jx (pre ++ [x]) W'))
    (hg : W.heap[g]? = some (.cells (arrP B).toArray 436 (0, 0))) (h0 : J [] W) :
    CallsIn F n Tryz.prog 289 #[.func (.yield l) #[] #[], .pointer (some ⟨g, 0, none⟩)] W fun e W' => (∃ v, e = .returned v) ∧
      ((∃ ys, ys = List.range 9 ∧ J ys W') ∨ (∃ pre, (∃ k, k ≤ 9 ∧ pre = List.range k) ∧ Jx pre W')) := by
  refine callsIn_of_wp Tryz.func289 rfl h7 ?_ hro
  simp only [ntmps289_, List.size_toArray, List.length_cons, List.length_nil, Nat.reduceAdd, Nat.reduceSub, Array.replicate_succ, Array.replicate_zero, List.push_toArray, List.append_toArray, List.nil_append, List.cons_append]
  refine wpIn_seq (wpIn_region_lit (LI_step (v := .agg (arrP B).toArray) (w' := W) rfl rfl (fun f hf => by simp [Oper.about] at hf) ?_ ?_))
  · have e1 : (Act.eval { tmps := #[.func (.yield l) #[] #[], .pointer (some ⟨g, 0, none⟩), undef, undef, undef, undef, undef, undef, undef, undef, undef, undef, undef, undef, undef, undef], defers := [] } (.tmp 1)) = .pointer (some ⟨g, 0, none⟩) := rfl
    simp only [execOp, e1, Instr.loadAt, Instr.sureAddr, Sem.run_bind, Sem.run_pure, Result.andThen_ok, load_arr hg]
  obtain ⟨A, hA⟩ : ∃ A, (arrP B).toArray = A := ⟨_, rfl⟩
  have hix : ∀ (i : Nat) (w : World), i < 9 → (Instr.index 436 (.agg A) (.int .i64 (i : Int))).run Tryz.prog w = .ok (plV B i) w := fun i w h => by rw [← hA]; exact idx_arr h
  rw [hA]
  gi_wp2
  gi_loopw [6] (fun i wr => ∃ k : Nat, k ≤ 9 ∧ i = .int .i64 k ∧ J (List.range k) wr ∧ W.heap.size ≤ wr.heap.size) (fun i _ => 9 - (intOf i).toNat)
  case atStart => exact ⟨0, Nat.zero_le _, rfl, h0, Nat.le_refl _⟩
  case round =>
    obtain ⟨k, hk, rfl, hJs, hsz⟩ := hrel
    by_cases hlt : k < 9
    · have hJ2 : J (List.range k) (wr.alloc (.cells #[.pointer (some ⟨B, k, none⟩), .int .i64 (loP k), .int .i64 (hiP k)] 404)) := hJ _ _ _ none hJs (World.grownBy_alloc _ _ _) (fun r e => by cases e)
      obtain ⟨fn, tmps, assign, body, hy, hR⟩ := hY _ k _ hJ2 (by simpa using hlt) (by simp)
      have hidx := hix k wr hlt
      gi_wp2
      refine hR.mono ?_
      rintro e W3 (⟨rfl, hJ3, hk3⟩ | ⟨rfl, hJx3⟩)
      · gi_wp2
        go_roundw
        case rel => exact ⟨k + 1, by omega, by simp, by rw [List.range_succ]; exact hJ3, by have := hk3.size; simp at this; omega⟩
        case measure => simp [intOf]; omega
      · gi_wp2
        refine bodyPost_ret (results_none rfl _ _ _) rfl ?_
        exact ⟨⟨_, rfl⟩, .inr ⟨_, ⟨k + 1, by omega, (List.range_succ).symm⟩, hJx3⟩⟩
    · obtain rfl : k = 9 := by omega
      gi_wp2
      go_end0
      exact ⟨⟨_, rfl⟩, .inl ⟨_, rfl, hJs⟩⟩

theorem places_stops (F : Fence) (n : Nat) (h7 : F.fn 289) (hro : F.round = none) (hn : 1 ≤ n) (g B : Nat) (w : World) (hg : w.heap[g]? = some (.cells (arrP B).toArray 436 (0, 0))) :
    SeqStopsK F n Tryz.prog 289 #[.pointer (some ⟨g, 0, none⟩)] (fun i : Fin 9 => encP B i.val) KeepsWalks (fun xs => xs = List.finRange 9) (fun _ => True) 9 w := by
  intro l J Jx W hb hJ hJx hY h0
  have hgw : g < w.heap.size := (Array.getElem?_eq_some_iff.1 hg).1
  have hgW : W.heap[g]? = some (.cells (arrP B).toArray 436 (0, 0)) := (hb.block g hgw).trans hg
  refine (places1_in F n h7 hro hn l g B (fun pre W => ∃ q : List (Fin 9), q.map Fin.val = pre ∧ J q W) (fun pre W => ∃ q : List (Fin 9), q.map Fin.val = pre ∧ Jx q W) W ?_ ?_ hgW ⟨[], rfl, h0⟩).mono ?_
  · rintro s A C row ⟨q, h1, h2⟩ hg hr
    exact ⟨q, h1, hJ q A C row h2 hg hr⟩
  · rintro pre x W1 ⟨q, rfl, hq⟩ hl hx
    rw [List.length_map] at hl hx
    have hx9 : x < 9 := by omega
    obtain ⟨fn, tmps, assign, body, hy, hR⟩ := hY q ⟨x, hx9⟩ W1 hq hl
    refine ⟨fn, tmps, assign, body, hy, hR.mono ?_⟩
    rintro e W' (⟨h1, h2, h3⟩ | ⟨h1, h2⟩)
    · exact .inl ⟨h1, ⟨_, by simp, h2⟩, h3⟩
    · exact .inr ⟨h1, ⟨_, by simp, h2⟩⟩
  · rintro e W' ⟨hv, ⟨ys, rfl, q, hq, hJq⟩ | ⟨pre, _, q, hq, hJq⟩⟩
    · refine ⟨hv, .inl ⟨q, ?_, hJq⟩⟩
      have e2 : (List.finRange 9).map Fin.val = List.range 9 := rfl
      refine List.ext_getElem? (fun i => ?_)
      have e3 : (q.map Fin.val)[i]? = ((List.finRange 9).map Fin.val)[i]? := by rw [hq, e2]
      rw [List.getElem?_map, List.getElem?_map] at e3
      cases h1 : q[i]? with
      | none => rw [h1] at e3; cases h2 : (List.finRange 9)[i]? with
        | none => rfl
        | some y => rw [h2] at e3; cases e3
      | some z => rw [h1] at e3; cases h2 : (List.finRange 9)[i]? with
        | none => rw [h2] at e3; cases e3
        | some y =>
          rw [h2] at e3
          simp only [Option.map_some, Option.some.injEq] at e3
          rw [Fin.ext e3]
    · exact ⟨hv, .inr ⟨q, trivial, hJq⟩⟩
end Go.Proofs

namespace Go.Proofs
open Go.Sy Go.Lib

def z27 : List AV := [.v (.pointer none), I64 0, I64 0, .v (.pointer none), I64 0, I64 0, .v (.pointer none), I64 0, I64 0, .v (.pointer none), I64 0, I64 0, .v (.pointer none), I64 0, I64 0, .v (.pointer none), I64 0, I64 0, .v (.pointer none), I64 0, I64 0, .v (.pointer none), I64 0, I64 0, .v (.pointer none), I64 0, I64 0]
def CP9 (z : List AV) (b37 b38 : Bool) : List Ch := bif b37 then [.box 3 436 (bif b38 then z else z27)] else []
def PP9 : Pl := ⟨[[], [], [], [], [], [], [], [], [], [], [], [], [], [], [], [], [], [], [], [], [], [], [], [], [], [], [], [], [], [], [], [], [], [], [], [], [], [], [37]], [37, 38], [(37, 3)], []⟩

theorem places_A (b : Nat) : FnA Tryz.prog 254 [PT b 0] [] (fun r cs' => ∃ g, r = .p (cloRP 289 [PT g 0]) ∧ cs' = [boxA g 436 ((arrP b).map .v)]) := by
  refine FnA.intro Tryz.tabOK Tryz.wide_ Tryz.func254 rfl (by decide) rfl (fun X => ?_)
  repeat (first|refine sc rfl ?_|refine so rfl ?_|refine sb rfl ?_)
  refine C_drawM PP9 (fun L => CP9 ((arrP b).map .v) (L 37) (L 38)) rfl (by kernel_rfl) (fun L L' h => by show CP9 _ (L 37) (L 38) = CP9 _ (L' 37) (L' 38); rw [h 37 (by decide), h 38 (by decide)]) rfl ?_
  iterate 36 (refine sm rfl ⟨trivial, ?_⟩)
  refine SM (.agg ((arrP b).map .v)) rfl (fun L h1 h2 h3 => X_buildArr rfl rfl rfl rfl rfl rfl) ?_
  refine SM (.bp 3 0) rfl (fun L h1 h2 h3 => ?_) ?_
  · show StepX _ _ _ _ _ (CP9 ((arrP b).map .v) (L 37) (L 38)) (CP9 ((arrP b).map .v) true (L 38)) _ _ _
    rw [show L 37 = false from h3, h2 38 (show (37 : Nat) ∈ PP9.anc 38 by decide)]
    exact X_alloc rfl rfl rfl rfl (show ((37, 3) : Nat × Nat) ∈ PP9.cre by decide) rfl rfl rfl
  refine SM .bad rfl (fun L h1 h2 h3 => ?_) ?_
  · show StepX _ _ _ _ _ (CP9 ((arrP b).map .v) (L 37) (L 38)) (CP9 ((arrP b).map .v) (L 37) true) _ _ _
    rw [show L 38 = false from h3, h1 37 (show (37 : Nat) ∈ PP9.anc 38 by decide)]
    exact X_storeK rfl rfl rfl rfl rfl rfl rfl rfl rfl
  refine sm rfl ?_
  show SymC _ _ _ ⟨_, [.box 3 436 ((arrP b).map .v)]⟩ _
  refine C_absb 3 rfl rfl rfl (fun g => ?_)
  repeat (first|refine sc rfl ?_|refine so rfl ?_|refine sb rfl ?_)
  refine O_makeFunc rfl rfl rfl rfl ?_
  repeat (first|refine sc rfl ?_|refine so rfl ?_|refine sb rfl ?_)
  first
    | exact ⟨_, [_], _, rfl, pickA_perm (is := [0]) (As := [_]) rfl, rfl, g, rfl, rfl⟩
    | exact ⟨_, [_], _, rfl, pickA_perm (is := [1]) (As := [_]) rfl, rfl, g, rfl, rfl⟩
end Go.Proofs

namespace Go.Proofs
open Go.Sy Go.Lib

structure Evt where
  kind : Int
  conn : Int
  num : Int
  bytes : List UInt8

instance : Inhabited Evt := ⟨⟨0, 0, 0, []⟩⟩
def Evt.c (x : Evt) : List AV := [I64 x.kind, I64 x.conn, .v (.int .u64 x.num), .s x.bytes]
structure Cf where
  quantum : Int
  rate : Int
  burst : Int
  mem : Int
  slots : Int
  outs : Int
  conns : Int
  state : Int
  decode : Int

instance : Inhabited Cf := ⟨⟨0, 0, 0, 0, 0, 0, 0, 0, 0⟩⟩
def Cf.c (x : Cf) : List AV := [I64 x.quantum, I64 x.rate, I64 x.burst, I64 x.mem, I64 x.slots, I64 x.outs, I64 x.conns, I64 x.state, I64 x.decode]
structure Nte where
  conn : Int
  owner : Int
  kind : Int
  body : List UInt8
  err : Int
  reply : List UInt8

instance : Inhabited Nte := ⟨⟨0, 0, 0, [], 0, []⟩⟩
def Nte.c (x : Nte) : List AV := [I64 x.conn, I64 x.owner, I64 x.kind, .s x.body, I64 x.err, .s x.reply]
structure Rw where
  fat : Int
  act : Int
  note : Nte

instance : Inhabited Rw := ⟨⟨0, 0, default⟩⟩
def Rw.c (x : Rw) : List AV := [I64 x.fat, I64 x.act, I64 x.note.conn, I64 x.note.owner, I64 x.note.kind, .s x.note.body, I64 x.note.err, .s x.note.reply]
structure Ou where
  fat : Int
  conn : Int
  bytes : List UInt8
  closed : Bool

instance : Inhabited Ou := ⟨⟨0, 0, [], false⟩⟩
def Ou.c (x : Ou) : List AV := [I64 x.fat, I64 x.conn, .s x.bytes, B x.closed]
structure Frm where
  kind : Int
  flags : Int
  body : List UInt8

instance : Inhabited Frm := ⟨⟨0, 0, []⟩⟩
def Frm.c (x : Frm) : List AV := [I64 x.kind, I64 x.flags, .s x.body]
structure Bdg where
  epoch : Int
  tag : Int

instance : Inhabited Bdg := ⟨⟨0, 0⟩⟩
structure Rpl where
  id : Int
  status : Int
  data : List UInt8

instance : Inhabited Rpl := ⟨⟨0, 0, []⟩⟩
structure Itm where
  conn : Int
  frame : Frm
  arrived : Int

instance : Inhabited Itm := ⟨⟨0, default, 0⟩⟩
structure Bnd where
  id : Int
  num : Int
  service : List UInt8
  method : List UInt8
  op : Int

instance : Inhabited Bnd := ⟨⟨0, 0, [], [], 0⟩⟩
structure Hlo where
  owner : Int
  epoch : Int
  tag : Int

instance : Inhabited Hlo := ⟨⟨0, 0, 0⟩⟩
structure Ord where
  id : Int
  op : Int
  owner : Int
  conf : Cf

instance : Inhabited Ord := ⟨⟨0, 0, 0, default⟩⟩
structure Cal where
  id : Int
  wait : Int
  num : Int
  args : List UInt8

instance : Inhabited Cal := ⟨⟨0, 0, 0, []⟩⟩
end Go.Proofs

namespace Go.Proofs
open Go.Sy Go.Lib

end Go.Proofs

namespace Go.Proofs
open Go.Sy Go.Lib

end Go.Proofs

namespace Go.Proofs
open Go.Sy Go.Lib

abbrev accA (g : Nat) (l t : Int) : Abs := boxA g 171 [I64 l, I64 t]
theorem accSet_A (g : Nat) (l t x : Int) : FnA Tryz.prog 131 [PT g 0, I64 x] [accA g l t] (fun r cs' => cs' = [accA g (max 0 (min x 1048576)) t]) := by
  refine FnA.intro Tryz.tabOK Tryz.wide_ Tryz.func131 rfl (by decide) rfl (fun X => ?_)
  repeat (first|refine sc rfl ?_|refine so rfl ?_|refine sb rfl ?_)
  refine O_Xd (X_ptrnnil Tryz.underlying172 rfl rfl rfl) ?_
  repeat (first|refine sc rfl ?_|refine so rfl ?_|refine sb rfl ?_)
  refine C_true rfl rfl ?_
  repeat (first|refine sc rfl ?_|refine so rfl ?_|refine sb rfl ?_)
  first
    | refine O_Xn (X_storeP 0 (writes_box (by show 0 < 2; decide)) rfl rfl rfl rfl rfl rfl rfl) ?_
    | refine O_Xn (X_storeP 1 (writes_box (by show 0 < 2; decide)) rfl rfl rfl rfl rfl rfl rfl) ?_
    | refine O_Xn (X_storeP 2 (writes_box (by show 0 < 2; decide)) rfl rfl rfl rfl rfl rfl rfl) ?_
    | refine O_Xn (X_storeP 3 (writes_box (by show 0 < 2; decide)) rfl rfl rfl rfl rfl rfl rfl) ?_
    | refine O_Xn (X_storeP 4 (writes_box (by show 0 < 2; decide)) rfl rfl rfl rfl rfl rfl rfl) ?_
  repeat (first|refine sc rfl ?_|refine so rfl ?_|refine sb rfl ?_)
  first
    | exact ⟨_, [_], _, rfl, pickA_perm (is := [0]) (As := [_]) rfl, rfl, rfl⟩
    | exact ⟨_, [_], _, rfl, pickA_perm (is := [1]) (As := [_]) rfl, rfl, rfl⟩
    | exact ⟨_, [_], _, rfl, pickA_perm (is := [2]) (As := [_]) rfl, rfl, rfl⟩
    | exact ⟨_, [_], _, rfl, pickA_perm (is := [3]) (As := [_]) rfl, rfl, rfl⟩
    | exact ⟨_, [_], _, rfl, pickA_perm (is := [4]) (As := [_]) rfl, rfl, rfl⟩
theorem accNew_A (x : Int) : FnA Tryz.prog 80 [I64 x] [] (fun r cs' => ∃ g, r = PT g 0 ∧ cs' = [accA g (max 0 (min x 1048576)) 0]) := by
  refine FnA.intro Tryz.tabOK Tryz.wide_ Tryz.func80 rfl (by decide) rfl (fun X => ?_)
  iterate 11 (first|refine sc rfl ?_|refine so rfl ?_|refine sb rfl ?_)
  refine C_absb 3 rfl rfl rfl (fun g => ?_)
  repeat (first|refine sc rfl ?_|refine so rfl ?_|refine sb rfl ?_)
  first
    | refine O_callA [0] (accSet_A g 0 0 x) (by rfl) (by rfl) (by rfl) (by rfl) (by rfl) ?_
    | refine O_callA [1] (accSet_A g 0 0 x) (by rfl) (by rfl) (by rfl) (by rfl) (by rfl) ?_
    | refine O_callA [2] (accSet_A g 0 0 x) (by rfl) (by rfl) (by rfl) (by rfl) (by rfl) ?_
    | refine O_callA [3] (accSet_A g 0 0 x) (by rfl) (by rfl) (by rfl) (by rfl) (by rfl) ?_
    | refine O_callA [4] (accSet_A g 0 0 x) (by rfl) (by rfl) (by rfl) (by rfl) (by rfl) ?_
  rintro r cs' rfl
  repeat (first|refine sc rfl ?_|refine so rfl ?_|refine sb rfl ?_)
  first
    | exact ⟨_, [_], _, rfl, pickA_perm (is := [0]) (As := [_]) rfl, rfl, g, rfl, rfl⟩
    | exact ⟨_, [_], _, rfl, pickA_perm (is := [1]) (As := [_]) rfl, rfl, g, rfl, rfl⟩
    | exact ⟨_, [_], _, rfl, pickA_perm (is := [2]) (As := [_]) rfl, rfl, g, rfl, rfl⟩
    | exact ⟨_, [_], _, rfl, pickA_perm (is := [3]) (As := [_]) rfl, rfl, g, rfl, rfl⟩
    | exact ⟨_, [_], _, rfl, pickA_perm (is := [4]) (As := [_]) rfl, rfl, g, rfl, rfl⟩

end Go.Proofs

namespace Go.Proofs
open Go.Sy Go.Lib

abbrev wi (x : Int) : Int := max 0 (min x 1048576)
abbrev bktA (g : Nat) (r b l : Int) : Abs := boxA g 167 [I64 r, I64 b, I64 l]
theorem within_c (x lo hi : Int) : FnP Tryz.prog 190 [I64 x, I64 lo, I64 hi] (· = I64 (max lo (min x hi))) := by
  refine FnP.intro Tryz.tabOK Tryz.wide_ Tryz.func190 rfl (by decide) rfl (fun X => ?_)
  repeat (first | refine sc rfl ?_ | refine so rfl ?_)
  exact ⟨_, rfl, rfl, rfl⟩
theorem bktSet_A (g : Nat) (r b l x y : Int) : FnA Tryz.prog 130 [PT g 0, I64 x, I64 y] [bktA g r b l] (fun _ cs' => cs' = [bktA g (wi x) (wi y) (min l (wi y))]) := by
  refine FnA.intro Tryz.tabOK Tryz.wide_ Tryz.func130 rfl (by decide) rfl (fun X => ?_)
  repeat (first | refine sc rfl ?_ | refine so rfl ?_)
  refine O_Xd (X_ptrnil Tryz.underlying168 rfl rfl rfl) ?_
  repeat refine so rfl ?_
  refine C_false rfl rfl ?_
  repeat (first | refine sc rfl ?_ | refine so rfl ?_)
  refine O_call (within_c x 0 1048576) (by rfl) (by rfl) (by rfl) (by rfl) (fun r' hr => ?_)
  subst hr
  repeat refine so rfl ?_
  refine O_call (within_c y 0 1048576) (by rfl) (by rfl) (by rfl) (by rfl) (fun r' hr => ?_)
  subst hr
  repeat refine so rfl ?_
  first
    | refine O_Xn (X_storeP 0 (writes_box (by show 0 < 3; decide)) rfl rfl rfl rfl rfl rfl rfl) ?_
    | refine O_Xn (X_storeP 1 (writes_box (by show 0 < 3; decide)) rfl rfl rfl rfl rfl rfl rfl) ?_
    | refine O_Xn (X_storeP 2 (writes_box (by show 0 < 3; decide)) rfl rfl rfl rfl rfl rfl rfl) ?_
    | refine O_Xn (X_storeP 3 (writes_box (by show 0 < 3; decide)) rfl rfl rfl rfl rfl rfl rfl) ?_
    | refine O_Xn (X_storeP 4 (writes_box (by show 0 < 3; decide)) rfl rfl rfl rfl rfl rfl rfl) ?_
  repeat refine so rfl ?_
  first
    | refine O_Xn (X_storeP 0 (writes_box (by show 1 < 3; decide)) rfl rfl rfl rfl rfl rfl rfl) ?_
    | refine O_Xn (X_storeP 1 (writes_box (by show 1 < 3; decide)) rfl rfl rfl rfl rfl rfl rfl) ?_
    | refine O_Xn (X_storeP 2 (writes_box (by show 1 < 3; decide)) rfl rfl rfl rfl rfl rfl rfl) ?_
    | refine O_Xn (X_storeP 3 (writes_box (by show 1 < 3; decide)) rfl rfl rfl rfl rfl rfl rfl) ?_
    | refine O_Xn (X_storeP 4 (writes_box (by show 1 < 3; decide)) rfl rfl rfl rfl rfl rfl rfl) ?_
  repeat refine so rfl ?_
  refine C_drawU 20 10 rfl (by kernel_rfl) (by kernel_rfl) (by kernel_rfl) ?_
  repeat refine sd rfl ?_
  refine D_X (I64 l) (X_loadP 0 (reads_box 2) rfl rfl rfl rfl rfl rfl) ?_
  repeat refine sd rfl ?_
  refine D_X (I64 (wi y)) (X_loadP 0 (reads_box 1) rfl rfl rfl rfl rfl rfl) ?_
  repeat refine sd rfl ?_
  repeat refine so rfl ?_
  first
    | refine O_Xn (X_storeP 0 (writes_box (by show 2 < 3; decide)) rfl rfl rfl rfl rfl rfl rfl) ?_
    | refine O_Xn (X_storeP 1 (writes_box (by show 2 < 3; decide)) rfl rfl rfl rfl rfl rfl rfl) ?_
    | refine O_Xn (X_storeP 2 (writes_box (by show 2 < 3; decide)) rfl rfl rfl rfl rfl rfl rfl) ?_
    | refine O_Xn (X_storeP 3 (writes_box (by show 2 < 3; decide)) rfl rfl rfl rfl rfl rfl rfl) ?_
    | refine O_Xn (X_storeP 4 (writes_box (by show 2 < 3; decide)) rfl rfl rfl rfl rfl rfl rfl) ?_
  repeat refine so rfl ?_
  first
    | exact ⟨_, [_], _, rfl, pickA_perm (is := [0]) (As := [_]) rfl, rfl, rfl⟩
    | exact ⟨_, [_], _, rfl, pickA_perm (is := [1]) (As := [_]) rfl, rfl, rfl⟩
    | exact ⟨_, [_], _, rfl, pickA_perm (is := [2]) (As := [_]) rfl, rfl, rfl⟩
    | exact ⟨_, [_], _, rfl, pickA_perm (is := [3]) (As := [_]) rfl, rfl, rfl⟩
    | exact ⟨_, [_], _, rfl, pickA_perm (is := [4]) (As := [_]) rfl, rfl, rfl⟩
theorem bktNew_A (x y : Int) : FnA Tryz.prog 79 [I64 x, I64 y] [] (fun r cs' => ∃ g, r = PT g 0 ∧ cs' = [bktA g (wi x) (wi y) (wi y)]) := by
  refine FnA.intro Tryz.tabOK Tryz.wide_ Tryz.func79 rfl (by decide) rfl (fun X => ?_)
  iterate 11 (first | refine sc rfl ?_ | refine so rfl ?_)
  refine C_absb 5 rfl rfl rfl (fun g => ?_)
  repeat (first | refine sc rfl ?_ | refine so rfl ?_)
  first
    | refine O_callA [0] (bktSet_A g 0 0 0 x y) (by rfl) (by rfl) (by rfl) (by rfl) (by rfl) ?_
    | refine O_callA [1] (bktSet_A g 0 0 0 x y) (by rfl) (by rfl) (by rfl) (by rfl) (by rfl) ?_
    | refine O_callA [2] (bktSet_A g 0 0 0 x y) (by rfl) (by rfl) (by rfl) (by rfl) (by rfl) ?_
    | refine O_callA [3] (bktSet_A g 0 0 0 x y) (by rfl) (by rfl) (by rfl) (by rfl) (by rfl) ?_
    | refine O_callA [4] (bktSet_A g 0 0 0 x y) (by rfl) (by rfl) (by rfl) (by rfl) (by rfl) ?_
  rintro r cs' rfl
  repeat (first | refine sc rfl ?_ | refine so rfl ?_)
  first
    | refine O_loadP 0 (reads_box 1) rfl rfl rfl rfl rfl rfl ?_
    | refine O_loadP 1 (reads_box 1) rfl rfl rfl rfl rfl rfl ?_
    | refine O_loadP 2 (reads_box 1) rfl rfl rfl rfl rfl rfl ?_
    | refine O_loadP 3 (reads_box 1) rfl rfl rfl rfl rfl rfl ?_
    | refine O_loadP 4 (reads_box 1) rfl rfl rfl rfl rfl rfl ?_
  repeat refine so rfl ?_
  first
    | refine O_Xn (X_storeP 0 (writes_box (by show 2 < 3; decide)) rfl rfl rfl rfl rfl rfl rfl) ?_
    | refine O_Xn (X_storeP 1 (writes_box (by show 2 < 3; decide)) rfl rfl rfl rfl rfl rfl rfl) ?_
    | refine O_Xn (X_storeP 2 (writes_box (by show 2 < 3; decide)) rfl rfl rfl rfl rfl rfl rfl) ?_
    | refine O_Xn (X_storeP 3 (writes_box (by show 2 < 3; decide)) rfl rfl rfl rfl rfl rfl rfl) ?_
    | refine O_Xn (X_storeP 4 (writes_box (by show 2 < 3; decide)) rfl rfl rfl rfl rfl rfl rfl) ?_
  repeat (first | refine sc rfl ?_ | refine so rfl ?_)
  first
    | exact ⟨_, [_], _, rfl, pickA_perm (is := [0]) (As := [_]) rfl, rfl, g, rfl, rfl⟩
    | exact ⟨_, [_], _, rfl, pickA_perm (is := [1]) (As := [_]) rfl, rfl, g, rfl, rfl⟩
    | exact ⟨_, [_], _, rfl, pickA_perm (is := [2]) (As := [_]) rfl, rfl, g, rfl, rfl⟩
    | exact ⟨_, [_], _, rfl, pickA_perm (is := [3]) (As := [_]) rfl, rfl, g, rfl, rfl⟩
    | exact ⟨_, [_], _, rfl, pickA_perm (is := [4]) (As := [_]) rfl, rfl, g, rfl, rfl⟩

abbrev gatA (g : Nat) (r b l m1 m2 s1 s2 o1 o2 : Int) (q : Bool) : Abs := boxA g 175 [I64 r, I64 b, I64 l, I64 m1, I64 m2, I64 s1, I64 s2, I64 o1, I64 o2, B q]
end Go.Proofs
