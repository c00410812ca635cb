/- The symbolic walk, part 25: regions whose order is drawn and that store once. -/
import Derived.Test.YtgdlhcaidfokkaaSy24
set_option linter.unusedSimpArgs false
set_option linter.unusedVariables false
namespace Go.Sy
open Go.RowKit

section
variable {P : Program} {T : Tab} {X : Ctx P T} {n : Nat} {e : Env} {st : St} {a : Act} {w : World} {ops : Array Oper} {K : St → Prop}

def StepG {P : Program} {T : Tab} (X : Ctx P T) (n : Nat) (ops : Array Oper) (Si : List (Nat × AV)) (C : Bool → List Ch) (store : Bool) (o : Oper) (x : AV) : Prop :=
  match store with
  | false => ∀ fl, StepD X n ops Si (C fl) o x
  | true => ∀ e a w S (K : Act → World → Prop) (Q : Exit → Act → World → Prop), Rel X n e ⟨S, C false⟩ a w → (∀ k y, get Si k = some y → get S k = some y) →
      (∀ e' a' w', Rel X n e' ⟨putS o.dst x S, C true⟩ a' w' → K a' w') →
      if Region.wanted o (yielded ops a.tmps) then o.wp P a w K Q ∨ (o.asks P a w ∧ LetsOut Q) else K (a.put o.dst undef) w

theorem any_of_S {base : List (Nat × AV)} {C : Bool → List Ch} {j0 : Nat} {D : Done} {Q : Exit → Act → World → Prop} (hj : j0 < ops.size) (hD : D.length = ops.size)
    (hstep : ∀ i o, ops[i]? = some o → ∃ x, D[i]? = some (o.dst, x) ∧ StepG X n ops (availL (D.take i) o.after.toList base) C (i == j0) o x)
    (hedge : ∀ i o, ops[i]? = some o → ∀ e ∈ o.after, Region.binds .any e = true → e.on < i)
    (hdist : ∀ (i j : Nat) o o' d, ops[i]? = some o → ops[j]? = some o' → o.dst = some d → o'.dst = some d → i = j)
    (hbase : ∀ (i : Nat) o d, ops[i]? = some o → o.dst = some d → get base d = none)
    (hfin : ∀ e a w, Rel X n e ⟨finS base D, C true⟩ a w → Q .normal a w) :
    ∀ (fuel : Nat) (listed : Array Bool) (a : Act) (w : World) (e : Env) (S : List (Nat × AV)), listed.size = ops.size → listed.toList.count false = fuel → Rel X n e ⟨S, C (listed.getD j0 false)⟩ a w →
      (∀ k y, get base k = some y → get S k = some y) → (∀ (i : Nat) d x, listed.getD i false = true → D[i]? = some (some d, x) → get S d = some x) →
      wpAny P .any ops Q fuel listed a w := by
  have progress : ∀ (listed : Array Bool), listed.size = ops.size → Region.ready .any ops listed = [] → ∀ i, i < ops.size → listed.getD i false = true := by
    intro listed hsz hr i
    induction i using Nat.strongRecOn with
    | ind i ih =>
      intro hi
      cases hl : listed.getD i true with
      | true =>
        have : i < listed.size := by omega
        simp [this] at hl ⊢
        exact hl
      | false =>
        exfalso
        have hmem : i ∈ Region.ready .any ops listed := by
          rw [mem_ready]
          refine ⟨hl, ops[i], by simp [hi], fun e he hb => ih e.on (hedge i ops[i] (by simp [hi]) e he hb) ?_⟩
          have := hedge i ops[i] (by simp [hi]) e he hb
          omega
        rw [hr] at hmem
        cases hmem
  have final : ∀ (listed : Array Bool) a w e S, listed.size = ops.size → Region.ready .any ops listed = [] → Rel X n e ⟨S, C (listed.getD j0 false)⟩ a w →
      (∀ k y, get base k = some y → get S k = some y) → (∀ (i : Nat) d x, listed.getD i false = true → D[i]? = some (some d, x) → get S d = some x) → Q .normal a w := by
    intro listed a w e S hsz hr r hb hs
    rw [progress listed hsz hr j0 hj] at r
    refine hfin e a w (r.less (fun k y hk => ?_) id)
    rcases finS_get hk with ⟨i, hi⟩ | h
    · have hlt : i < D.length := by
        rcases Nat.lt_or_ge i D.length with h | h
        · exact h
        · rw [List.getElem?_eq_none h] at hi; cases hi
      exact hs i k y (progress listed hsz hr i (by omega)) hi
    · exact hb k y h
  intro fuel
  induction fuel with
  | zero =>
    intro listed a w e S hsz hc r hb hs
    have hall : ∀ i, i < listed.size → listed.getD i true = true := by
      intro i hi
      cases hl : listed.getD i true with
      | true => rfl
      | false =>
        exfalso
        have : false ∈ listed.toList := by
          simp [hi] at hl
          exact List.mem_iff_getElem.2 ⟨i, by simpa using hi, by simpa using hl⟩
        have := List.count_pos_iff.2 this
        omega
    have hr : Region.ready .any ops listed = [] := by
      cases hrr : Region.ready .any ops listed with
      | nil => rfl
      | cons j js =>
        exfalso
        have hm : j ∈ Region.ready .any ops listed := by rw [hrr]; simp
        rw [mem_ready] at hm
        obtain ⟨h0, o, ho, _⟩ := hm
        have hlt : j < ops.size := (Array.getElem?_eq_some_iff.1 ho).1
        rw [hall j (by omega)] at h0
        cases h0
    exact ⟨hr, final listed a w e S hsz hr r hb hs⟩
  | succ fuel ih =>
    intro listed a w e S hsz hc r hb hs
    refine ⟨fun hr => final listed a w e S hsz hr r hb hs, fun i hi => ?_⟩
    rw [mem_ready] at hi
    obtain ⟨h0, o, ho, hpre⟩ := hi
    have hlt : i < ops.size := (Array.getElem?_eq_some_iff.1 ho).1
    have hlf : listed.toList[i]? = some false := by
      have : i < listed.size := by omega
      simp [this] at h0 ⊢
      exact h0
    obtain ⟨x, hx, hst⟩ := hstep i o ho
    unfold wpOp
    simp only [ho]
    have hav : ∀ k y, get (availL (D.take i) o.after.toList base) k = some y → get S k = some y := by
      intro k y hk
      rcases availL_get hk with ⟨ed, h1, h2, h3⟩ | h
      · have h4 : D[ed.on]? = some (some k, y) := by
          rw [List.getElem?_take] at h3
          split at h3
          · exact h3
          · cases h3
        exact hs ed.on k y (hpre ed (by simpa using h1) h2) h4
      · exact hb k y h
    have hgo : (∀ e' a' w', Rel X n e' ⟨putS o.dst x S, C ((listed.setIfInBounds i true).getD j0 false)⟩ a' w' → wpAny P .any ops Q fuel (listed.setIfInBounds i true) a' w') →
        (if Region.wanted o (yielded ops a.tmps) then o.wp P a w (wpAny P .any ops Q fuel (listed.setIfInBounds i true)) Q ∨ (o.asks P a w ∧ LetsOut Q) else wpAny P .any ops Q fuel (listed.setIfInBounds i true) (a.put o.dst undef) w) := by
      intro hk
      cases hij : (i == j0) with
      | false =>
        rw [hij] at hst
        have hne : i ≠ j0 := by simpa using hij
        refine hst (listed.getD j0 false) e a w S _ Q r hav (fun e' a' w' r' => hk e' a' w' ?_)
        rw [getD_set_ne false hne]
        exact r'
      | true =>
        rw [hij] at hst
        have he : i = j0 := by simpa using hij
        have hf : listed.getD j0 false = false := by
          rw [← he]
          have : i < listed.size := by omega
          simp [this] at h0 ⊢
          exact h0
        rw [hf] at r
        refine hst e a w S _ Q r hav (fun e' a' w' r' => hk e' a' w' ?_)
        have ht : (listed.setIfInBounds i true).getD j0 false = true := by
          rw [← he]
          have : i < listed.size := by omega
          simp [this]
        rw [ht]
        exact r'
    refine hgo (fun e' a' w' r' => ?_)
    · refine ih (listed.setIfInBounds i true) a' w' e' _ (by simpa using hsz) ?_ r' (fun k y hk => ?_) (fun j d y hj hy => ?_)
      · rw [Array.toList_setIfInBounds]
        have hlt' : i < listed.toList.length := by simpa using (by omega : i < listed.size)
        have hg : listed.toList[i] = false := by
          have := List.getElem?_eq_getElem hlt'
          rw [hlf] at this
          simpa using this.symm
        rw [List.count_set hlt', hg, hc]
        simp
      · cases hd : o.dst with
        | none => exact hb k y hk
        | some d =>
          simp only [putS]
          rw [get_cons]
          by_cases h : d = k
          · subst h
            rw [hbase i o d ho hd] at hk
            cases hk
          · rw [if_neg h]; exact hb k y hk
      · by_cases hji : j = i
        · subst hji
          rw [hx] at hy
          simp only [Option.some.injEq, Prod.mk.injEq] at hy
          rw [hy.1, hy.2]
          simp only [putS]
          rw [get_cons, if_pos rfl]
        · rw [getD_set_ne false (Ne.symm hji)] at hj
          have hold := hs j d y hj hy
          cases hd : o.dst with
          | none => exact hold
          | some d' =>
            simp only [putS]
            rw [get_cons]
            by_cases h : d' = d
            · exfalso
              subst h
              have hjl : j < ops.size := by
                rw [← hD]
                rcases Nat.lt_or_ge j D.length with h | h
                · exact h
                · rw [List.getElem?_eq_none h] at hy; cases hy
              obtain ⟨x', hx', _⟩ := hstep j ops[j] (by simp [hjl])
              rw [hx'] at hy
              simp only [Option.some.injEq, Prod.mk.injEq] at hy
              exact hji (hdist j i ops[j] o d' (by simp [hjl]) ho hy.1 hd)
            · rw [if_neg h]; exact hold


/-- The ways through the list: the j0-th operation is the store. -/
def SymS {P : Program} {T : Tab} (X : Ctx P T) (n : Nat) (ops : Array Oper) (base : List (Nat × AV)) (C : Bool → List Ch) (j0 : Nat) (K : St → Prop) : List Oper → Done → Prop
  | [], done => K ⟨finS base done, C true⟩
  | o :: rest, done => ∃ x, StepG X n ops (availL done o.after.toList base) C (done.length == j0) o x ∧ SymS X n ops base C j0 K rest (done ++ [(o.dst, x)])

theorem SymS.plan {base : List (Nat × AV)} {C : Bool → List Ch} {j0 : Nat} : ∀ {l : List Oper} {done : Done}, SymS X n ops base C j0 K l done →
    ∃ D : Done, done <+: D ∧ D.length = done.length + l.length ∧ K ⟨finS base D, C true⟩ ∧
      ∀ i o, l[i]? = some o → ∃ x, D[done.length + i]? = some (o.dst, x) ∧ StepG X n ops (availL (D.take (done.length + i)) o.after.toList base) C (done.length + i == j0) o x
  | [], done, h => ⟨done, List.prefix_refl _, by simp, h, fun i o hi => by simp at hi⟩
  | o :: rest, done, h => by
    obtain ⟨x, h1, h2⟩ := h
    obtain ⟨D, hp, hl, hK, hs⟩ := SymS.plan h2
    have hp' : done <+: D := (List.prefix_append done _).trans hp
    refine ⟨D, hp', by simp at hl ⊢; omega, hK, fun i o' hi => ?_⟩
    cases i with
    | zero =>
      simp only [List.getElem?_cons_zero, Option.some.injEq] at hi
      subst hi
      refine ⟨x, ?_, ?_⟩
      · obtain ⟨t, rfl⟩ := hp
        simp
      · obtain ⟨t, rfl⟩ := hp'
        simpa using h1
    | succ i =>
      obtain ⟨y, g1, g2⟩ := hs i o' (by simpa using hi)
      refine ⟨y, ?_, ?_⟩
      · simpa [Nat.add_assoc, Nat.add_comm 1 i] using g1
      · simpa [Nat.add_assoc, Nat.add_comm 1 i] using g2

theorem C_drawS {id : Nat} {Q : Exit → St → Prop} {s base : List (Nat × AV)} (C : Bool → List Ch) (j0 : Nat) (hj : Nat.blt j0 ops.size = true) (hb : eraseD ops.toList s = some base) (hchk : chkD base 0 [] ops.toList = true)
    (h : SymS X n ops base C j0 (fun s => Q .normal s) ops.toList []) : SymC X n (.region id ops true) ⟨s, C false⟩ Q := by
  intro e a w r
  have hbs : ∀ k y, get base k = some y → get s k = some y := fun k y hk => eraseD_get hb hk
  obtain ⟨D, _, hl, hK, hs⟩ := h.plan
  obtain ⟨c1, c2⟩ := chkD_spec hchk
  have hbel : Below w.heap.size w { w with drawn := w.drawn + 1 } := ⟨rfl, rfl, rfl, Nat.le_refl _, fun _ _ => rfl⟩
  refine wp_region_any X.wide ?_
  refine any_of_S (X := X) (n := n) (base := base) (C := C) (j0 := j0) (D := D) (by have := hj; simp [Nat.blt] at this; omega) (by simpa using hl) (fun i o ho => ?_) (fun i o ho => ?_) (fun i j o o' d hi hj => c2 i j o o' d (by simpa using hi) (by simpa using hj)) (fun i o d ho hd => ((c1 i o (by simpa using ho)).2 d hd).1)
    (fun e a w r => ⟨e, _, r, hK⟩) _ _ a _ e base (by simp) (by simp) ?_ (fun k y hk => hk) (fun i d x hi => ?_)
  · have := hs i o (by simpa using ho)
    simpa using this
  · simpa using (c1 i o (by simpa using ho)).1
  · have h1 : (Array.replicate ops.size false).getD j0 false = false := by
      rcases Nat.lt_or_ge j0 ops.size with h | h
      · simp [h]
      · simp [Nat.not_lt.2 h]
    rw [h1]
    exact (r.below hbel).less hbs (fun h => h)
  · rcases Nat.lt_or_ge i ops.size with h | h
    · simp [h] at hi
    · simp [Nat.not_lt.2 h] at hi

/-- What an operation that leaves memory alone asks, and gives. -/
def valA (T : Tab) (st : St) (op : Op) : Option (Prop × AV) :=
  match still T st op with
  | some x => some (True, x)
  | none => match still1 T st op with
    | some q => some q
    | none => match buildA T st op with
      | some x => some (True, x)
      | none => none

theorem valA_sound (r : Rel X n e st a w) {o : Oper} {vc : Prop} {x : AV} (h : valA T st o.op = some (vc, x)) (hv : vc) : ∃ v, Rep e x v ∧ (execOp a.eval o).run P w = .ok (.value v) w := by
  unfold valA at h
  split at h
  · rename_i y hs
    simp only [Option.some.injEq, Prod.mk.injEq] at h
    obtain ⟨rfl, rfl⟩ := h
    obtain ⟨v, h1, h2⟩ := still_sound r hs
    exact ⟨v, h1, h2 w (SameAs.refl w)⟩
  · split at h
    · rename_i q hs
      simp only [Option.some.injEq] at h
      subst h
      obtain ⟨v, h1, h2⟩ := still1_sound r hs hv
      exact ⟨v, h1, h2 w (SameAs.refl w)⟩
    · split at h
      · rename_i y hs
        simp only [Option.some.injEq, Prod.mk.injEq] at h
        obtain ⟨rfl, rfl⟩ := h
        obtain ⟨v, h1, h2⟩ := buildA_sound r hs
        exact ⟨v, h1, h2 w⟩
      · cases h

def stepSV {P : Program} {T : Tab} (X : Ctx P T) (n : Nat) (ops : Array Oper) (base : List (Nat × AV)) (C : Bool → List Ch) (j0 : Nat) (K : St → Prop) : List Oper → Done → Option Prop
  | [], done => normG (finS base done) fun s => some (K ⟨s, C true⟩)
  | o :: rest, done => normG (availL done o.after.toList base) fun Si => match Nat.beq done.length j0, dstOK n o.dst, o.guard, valA T ⟨Si, []⟩ o.op with
    | false, true, none, some (vc, x) => normA x fun x => normG (done ++ [(o.dst, x)]) fun done => some (vc ∧ SymS X n ops base C j0 K rest done)
    | _, _, _, _ => none

/-- An operation of such a region that leaves memory alone, and reads none that is owned. -/
theorem ss {base : List (Nat × AV)} {C : Bool → List Ch} {j0 : Nat} {l : List Oper} {done : Done} {p : Prop} (h : stepSV X n ops base C j0 K l done = some p) (hp : p) : SymS X n ops base C j0 K l done := by
  cases l with
  | nil =>
    simp only [stepSV, normG_eq, Option.some.injEq] at h
    subst h
    exact hp
  | cons o rest =>
    simp only [stepSV, normG_eq, normA_eq] at h
    split at h
    · rename_i vc x hj hd hg hv
      simp only [Option.some.injEq] at h
      subst h
      have hjj : (done.length == j0) = false := by
        have := beq_ne hj
        simpa using this
      refine ⟨x, ?_, hp.2⟩
      rw [hjj]
      intro fl e a w S K Q r hS hk
      have r' : Rel X n e ⟨availL done o.after.toList base, []⟩ a w := r.less hS (fun _ => ⟨[], rfl, by simp, by simp, by simp⟩)
      have hw : Region.wanted o (yielded ops a.tmps) = true := by unfold Region.wanted; rw [hg]
      rw [if_pos hw]
      obtain ⟨v, h2, h1⟩ := valA_sound r' hv hp.1
      refine .inl ?_
      unfold Oper.wp
      rw [h1]
      exact hk _ _ _ (putOK r hd h2)
    · cases h

/-- The store of such a region. -/
theorem S_store {base : List (Nat × AV)} {c : List Ch} {C : Bool → List Ch} {j0 : Nat} {done : Done} {t : TypeId} {i : TI} {ad xo : Operand} {ty : TypeId} {pos : String} {aft : Array Edge} {rest : List Oper} {k : Nat} {cells new : List AV} {tt : TypeId}
    (hj : Nat.beq done.length j0 = true) (hT : T t = some i) (hsz : Nat.beq new.length i.size = true) (hcl : Nat.beq cells.length i.size = true)
    (had : opd (availL done aft.toList base) ad = some (.bp k 0)) (hx : opd (availL done aft.toList base) xo = some (.agg new))
    (h0 : C false = .box k tt cells :: c) (h1 : C true = .box k tt new :: c)
    (kk : SymS X n ops base C j0 K rest (done ++ [(none, .bad)])) : SymS X n ops base C j0 K (⟨none, .store t ad xo, ty, pos, aft, none⟩ :: rest) done := by
  have hjj : (done.length == j0) = true := by
    have := Nat.eq_of_beq_eq_true hj
    simpa using this
  refine ⟨.bad, ?_, kk⟩
  rw [hjj]
  intro e a w S K Q r hS hk
  rw [h0] at r
  have hs1 := Nat.eq_of_beq_eq_true hsz
  have hs2 := Nat.eq_of_beq_eq_true hcl
  have hw : Region.wanted (⟨none, .store t ad xo, ty, pos, aft, none⟩ : Oper) (yielded ops a.tmps) = true := rfl
  rw [if_pos hw]
  refine .inl ?_
  have r' : Rel X n e ⟨availL done aft.toList base, .box k tt cells :: c⟩ a w := r.less hS (fun h => h)
  have e1 := opd_sound r' had
  have e2 := opd_sound r' hx
  have htk : takeCh k (.box k tt cells :: c) = some (.box k tt cells, c) := by simp [takeCh, Ch.id, Nat.beq_refl]
  simp only [Rep] at e1 e2
  obtain ⟨ys, e2, e3⟩ := e2
  have hwr := r.write (k := k) (o := 0) (t := tt) (cells := cells) (new := new) (rest := c) (vs := ys.toList) htk e3 (by omega)
  obtain ⟨w', hr1, hr2⟩ := hwr
  have hcells : List.take 0 cells ++ new ++ List.drop (0 + new.length) cells = new := by
    rw [List.take_zero, List.nil_append, Nat.zero_add, List.drop_eq_nil_of_le (by omega), List.append_nil]
  rw [hcells] at hr2
  have hyl : ys.size = i.size := by
    have := RepL.len e3
    simp at this
    omega
  have hrun : (execOp a.eval ⟨none, .store t ad xo, ty, pos, aft, none⟩).run P w = .ok .skip w' := by
    simp only [execOp, Instr.storeAt, e1, e2, Instr.sureAddr, Sem.run_bind, Sem.run_pure, Result.andThen_ok, storeVar, X.ok.size hT, Value.cells]
    simp [hyl, hr1]
  unfold Oper.wp
  rw [hrun]
  exact hk _ _ _ (by rw [h1]; exact hr2)
end
end Go.Sy
