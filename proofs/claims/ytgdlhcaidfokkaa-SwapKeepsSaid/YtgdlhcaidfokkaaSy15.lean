/- The symbolic walk, part 15: regions whose order is drawn and that call. -/
import Derived.Test.YtgdlhcaidfokkaaSy14
import Derived.Orders
set_option linter.unusedSimpArgs false
set_option linter.unusedVariables false
namespace Go.Sy
open Go.RowKit

def putS (d : Option Nat) (x : AV) (s : List (Nat × AV)) : List (Nat × AV) :=
  match d with
  | none => s
  | some d => (d, x) :: s

def normG {α β : Type} : List α → (List α → β) → β
  | [], k => k []
  | x :: xs, k => normG xs fun ys => k (x :: ys)
theorem normG_eq {α β : Type} : ∀ (l : List α) (k : List α → β), normG l k = k l
  | [], k => rfl
  | x :: xs, k => by simp only [normG]; rw [normG_eq xs]

abbrev Done := List (Option Nat × AV)

def availL (done : Done) : List Edge → List (Nat × AV) → List (Nat × AV)
  | [], base => base
  | e :: es, base => match Region.binds .any e, done[e.on]? with
    | true, some (some d, x) => (d, x) :: availL done es base
    | _, _ => availL done es base

def finS (base : List (Nat × AV)) : Done → List (Nat × AV)
  | [] => base
  | (d, x) :: r => putS d x (finS base r)

theorem availL_get {done : Done} {base : List (Nat × AV)} : ∀ {es : List Edge} {k : Nat} {y : AV}, get (availL done es base) k = some y →
    (∃ e ∈ es, Region.binds .any e = true ∧ done[e.on]? = some (some k, y)) ∨ get base k = some y
  | [], k, y, h => .inr h
  | e :: es, k, y, h => by
    simp only [availL] at h
    split at h
    · rename_i d x hb hd
      rw [get_cons] at h
      by_cases hk : d = k
      · rw [if_pos hk] at h
        cases h
        subst hk
        exact .inl ⟨e, by simp, hb, hd⟩
      · rw [if_neg hk] at h
        rcases availL_get h with ⟨e', h1, h2⟩ | h1
        · exact .inl ⟨e', by simp [h1], h2⟩
        · exact .inr h1
    · rcases availL_get h with ⟨e', h1, h2⟩ | h1
      · exact .inl ⟨e', by simp [h1], h2⟩
      · exact .inr h1

theorem finS_get {base : List (Nat × AV)} : ∀ {D : Done} {k : Nat} {y : AV}, get (finS base D) k = some y → (∃ i : Nat, D[i]? = some (some k, y)) ∨ get base k = some y
  | [], k, y, h => .inr h
  | (d, x) :: r, k, y, h => by
    simp only [finS] at h
    cases d with
    | none =>
      simp only [putS] at h
      rcases finS_get h with ⟨i, h1⟩ | h1
      · exact .inl ⟨i + 1, by simpa using h1⟩
      · exact .inr h1
    | some d =>
      simp only [putS] at h
      rw [get_cons] at h
      by_cases hk : d = k
      · rw [if_pos hk] at h
        cases h
        subst hk
        exact .inl ⟨0, rfl⟩
      · rw [if_neg hk] at h
        rcases finS_get h with ⟨i, h1⟩ | h1
        · exact .inl ⟨i + 1, by simpa using h1⟩
        · exact .inr h1

section
variable {P : Program} {T : Tab} {X : Ctx P T} {n : Nat} {e : Env} {st : St} {a : Act} {w : World} {ops : Array Oper} {K : St → Prop}

/-- In whatever order: where these slots are known, the operation yields this. -/
def StepD {P : Program} {T : Tab} (X : Ctx P T) (n : Nat) (ops : Array Oper) (Si : List (Nat × AV)) (c : List Ch) (o : Oper) (x : AV) : Prop :=
  ∀ e a w S (K : Act → World → Prop) (Q : Exit → Act → World → Prop), Rel X n e ⟨S, c⟩ a w → (∀ k y, get Si k = some y → get S k = some y) →
    (∀ e' a' w', Rel X n e' ⟨putS o.dst x S, c⟩ a' w' → K a' w') →
    if Region.wanted o (yielded ops a.tmps) then o.wp P a w K Q ∨ (o.asks P a w ∧ LetsOut Q) else K (a.put o.dst undef) w

def SymD {P : Program} {T : Tab} (X : Ctx P T) (n : Nat) (ops : Array Oper) (base : List (Nat × AV)) (c : List Ch) (K : St → Prop) : List Oper → Done → Prop
  | [], done => K ⟨finS base done, c⟩
  | o :: rest, done => ∃ x, StepD X n ops (availL done o.after.toList base) c o x ∧ SymD X n ops base c K rest (done ++ [(o.dst, x)])

def dstOK (n : Nat) : Option Nat → Bool
  | none => true
  | some d => Nat.blt d n

theorem putOK (r : Rel X n e st a w) {d : Option Nat} {x : AV} {v : Value} (hd : dstOK n d = true) (hv : Rep e x v) : Rel X n e ⟨putS d x st.s, st.c⟩ (a.put d v) w := by
  cases d with
  | none => simpa [putS, Act.put] using r
  | some d => exact r.put hd hv

def stepDK {P : Program} {T : Tab} (X : Ctx P T) (n : Nat) (ops : Array Oper) (base : List (Nat × AV)) (c : List Ch) (K : St → Prop) : List Oper → Done → Option Prop
  | [], done => normG (finS base done) fun s => some (K ⟨s, c⟩)
  | o :: rest, done => normG (availL done o.after.toList base) fun Si => match guardA ops ⟨Si, c⟩ o, dstOK n o.dst with
    | some true, true => (match still T ⟨Si, c⟩ o.op with
      | some x => normA x fun x => normG (done ++ [(o.dst, x)]) fun done => some (SymD X n ops base c K rest done)
      | none => match still1 T ⟨Si, c⟩ o.op with
        | some (vc, x) => normA x fun x => normG (done ++ [(o.dst, x)]) fun done => some (vc ∧ SymD X n ops base c K rest done)
        | none => none)
    | some false, true => normG (done ++ [(o.dst, .tup [])]) fun done => some (SymD X n ops base c K rest done)
    | _, _ => none

/-- One operation of a region whose order is drawn. -/
theorem sd {base : List (Nat × AV)} {c : List Ch} {l : List Oper} {done : Done} {p : Prop} (h : stepDK X n ops base c K l done = some p) (hp : p) : SymD X n ops base c K l done := by
  cases l with
  | nil =>
    simp only [stepDK, normG_eq, Option.some.injEq] at h
    subst h
    exact hp
  | cons o rest =>
    simp only [stepDK, normG_eq, normA_eq] at h
    split at h
    · rename_i hg hd
      split at h
      · rename_i x hs
        simp only [Option.some.injEq] at h
        subst h
        refine ⟨x, fun e a w S K Q r hS hk => ?_, hp⟩
        have r' : Rel X n e ⟨availL done o.after.toList base, c⟩ a w := r.less hS id
        rw [if_pos (guardA_sound r' hg)]
        obtain ⟨v, h2, h1⟩ := still_sound r' hs
        refine .inl ?_
        unfold Oper.wp
        rw [h1 w (SameAs.refl w)]
        exact hk _ _ _ (putOK r hd h2)
      · split at h
        · rename_i vc x hs
          simp only [Option.some.injEq] at h
          subst h
          refine ⟨x, fun e a w S K Q r hS hk => ?_, hp.2⟩
          have r' : Rel X n e ⟨availL done o.after.toList base, c⟩ a w := r.less hS id
          rw [if_pos (guardA_sound r' hg)]
          obtain ⟨v, h2, h1⟩ := still1_sound r' hs hp.1
          refine .inl ?_
          unfold Oper.wp
          rw [h1 w (SameAs.refl w)]
          exact hk _ _ _ (putOK r hd h2)
        · cases h
    · rename_i hg hd
      simp only [Option.some.injEq] at h
      subst h
      refine ⟨.tup [], fun e a w S K Q r hS hk => ?_, hp⟩
      have r' : Rel X n e ⟨availL done o.after.toList base, c⟩ a w := r.less hS id
      rw [if_neg (by rw [guardA_sound r' hg]; decide)]
      exact hk _ _ _ (putOK r hd (by simp [Rep, RepT, undef]))
    · cases h

/-- A call of a region whose order is drawn. -/
theorem D_call {base : List (Nat × AV)} {c : List Ch} {done : Done} {f : FuncId} {dst : Nat} {args : Array Operand} {tys : Array TypeId} {ty : TypeId} {pos : String} {aft : Array Edge} {gd : Option (Nat × Bool)} {rest : List Oper} {avs : List AV} {x : AV}
    (hf : FnP P f avs (· = x)) (hg : guardA ops ⟨availL done aft.toList base, c⟩ ⟨some dst, .call ⟨.value (.func f), args, tys⟩, ty, pos, aft, gd⟩ = some true) (ha : opds (availL done aft.toList base) args.toList = some avs) (himm : AV.imm.immL avs = true) (hd : Nat.blt dst n = true)
    (k : SymD X n ops base c K rest (done ++ [(some dst, x)])) :
    SymD X n ops base c K (⟨some dst, .call ⟨.value (.func f), args, tys⟩, ty, pos, aft, gd⟩ :: rest) done := by
  refine ⟨x, fun e a w S K' Q r hS hk => ?_, k⟩
  have r0 : Rel X n e ⟨availL done aft.toList base, c⟩ a w := r.less hS id
  rw [if_pos (guardA_sound r0 hg)]
  refine .inl ?_
  unfold Oper.wp
  rw [run_call hf.1 a.eval rfl w, Oper.upon_enter]
  have h1 := RepT.toI avs himm (opds_sound r0 ha)
  have h2 := hf.2 e.G w _ r.im h1
  have harr : args.map a.eval = (args.toList.map a.eval).toArray := by
    apply Array.ext'; simp
  rw [harr]
  refine h2.mono ?_
  rintro en w' ⟨rv, cr, G', rfl, rfl, g1, g2, g3, g4, g5⟩
  have r' : Rel X n ⟨G', e.μ, e.hd⟩ ⟨S, c⟩ a w' :=
    { defers := r.defers
      size := r.size
      slots := fun i x hx => by
        obtain ⟨v, q1, q2⟩ := r.slots i x hx
        exact ⟨v, q1, Rep.mono (e := e) (f := ⟨G', e.μ, e.hd⟩) g2 x (fun _ _ => ⟨rfl, rfl⟩) q2⟩
      im := g4
      heap := HeapOK.grow r.heap g2 (fun _ _ _ _ => ⟨rfl, rfl⟩) (fun b hb => g5.block b hb) g5.size (fun b o hb h0 => by
        cases hg : G' b o with
        | none => exact hg
        | some v =>
          rcases g3 b o v hg with h | h
          · rw [h0] at h; cases h
          · omega)
      le := IM.le_trans r.le g2
      new := fun b o v hv => by
        rcases g3 b o v hv with h | h
        · exact r.new b o v h
        · exact .inr (.inl (Nat.le_trans r.sz h))
      os := g5.os.trans r.os
      tape := g5.tape.trans r.tape
      output := g5.output.trans r.output
      sz := Nat.le_trans r.sz g5.size
      fix := r.fix
      keep := fun b hb hbs => (g5.block b (Nat.lt_of_lt_of_le hb r.sz)).trans (r.keep b hb hbs) }
  exact hk _ _ _ (r'.put (x := rv) (v := cr) hd (RepI.toRep (e := ⟨G', e.μ, e.hd⟩) rv g1))

theorem SymD.plan {base : List (Nat × AV)} {c : List Ch} : ∀ {l : List Oper} {done : Done}, SymD X n ops base c K l done →
    ∃ D : Done, done <+: D ∧ D.length = done.length + l.length ∧ K ⟨finS base D, c⟩ ∧
      ∀ i o, l[i]? = some o → ∃ x, D[done.length + i]? = some (o.dst, x) ∧ StepD X n ops (availL (D.take (done.length + i)) o.after.toList base) c o x
  | [], done, h => ⟨done, List.prefix_refl _, by simp, h, fun i o hi => by simp at hi⟩
  | o :: rest, done, h => by
    obtain ⟨x, h1, h2⟩ := h
    obtain ⟨D, hp, hl, hK, hs⟩ := SymD.plan h2
    have hp' : done <+: D := (List.prefix_append done _).trans hp
    refine ⟨D, hp', by simp at hl ⊢; omega, hK, fun i o' hi => ?_⟩
    cases i with
    | zero =>
      simp only [List.getElem?_cons_zero, Option.some.injEq] at hi
      subst hi
      refine ⟨x, ?_, ?_⟩
      · obtain ⟨t, rfl⟩ := hp
        simp
      · obtain ⟨t, rfl⟩ := hp'
        simpa using h1
    | succ i =>
      obtain ⟨y, g1, g2⟩ := hs i o' (by simpa using hi)
      refine ⟨y, ?_, ?_⟩
      · simpa [Nat.add_assoc, Nat.add_comm 1 i] using g1
      · simpa [Nat.add_assoc, Nat.add_comm 1 i] using g2

/-- Each edge leads to an earlier operation; no slot twice; none of them in 'base'. -/
def chkD (base : List (Nat × AV)) : Nat → List Nat → List Oper → Bool
  | _, _, [] => true
  | i, seen, o :: r => (o.after.toList.all fun e => !Region.binds .any e || Nat.blt e.on i) &&
    match o.dst with
    | none => chkD base (i + 1) seen r
    | some d => !(seen.any (Nat.beq d)) && freeS d base && chkD base (i + 1) (d :: seen) r
where freeS (d : Nat) : List (Nat × AV) → Bool
  | [] => true
  | (k, _) :: r => !(Nat.beq k d) && freeS d r

theorem freeS_get {d : Nat} : ∀ {s : List (Nat × AV)}, chkD.freeS d s = true → get s d = none
  | [], _ => rfl
  | (k, x) :: r, h => by
    simp only [chkD.freeS, Bool.and_eq_true, Bool.not_eq_true'] at h
    rw [get_cons, if_neg (beq_ne h.1)]
    exact freeS_get h.2

theorem chkD_spec {base : List (Nat × AV)} : ∀ {l : List Oper} {i : Nat} {seen : List Nat}, chkD base i seen l = true →
    (∀ (j : Nat) (o : Oper), l[j]? = some o → (∀ e ∈ o.after, Region.binds .any e = true → e.on < i + j) ∧ ∀ d, o.dst = some d → get base d = none ∧ d ∉ seen) ∧
    ∀ (j k : Nat) (o o' : Oper) (d : Nat), l[j]? = some o → l[k]? = some o' → o.dst = some d → o'.dst = some d → j = k
  | [], i, seen, _ => ⟨fun j o h => by simp at h, fun j k o o' d h => by simp at h⟩
  | o :: r, i, seen, h => by
    simp only [chkD, Bool.and_eq_true] at h
    obtain ⟨h1, h2⟩ := h
    have hedge : ∀ e ∈ o.after, Region.binds .any e = true → e.on < i := by
      intro e he hb
      have := List.all_eq_true.1 h1 e (by simpa using he)
      rw [hb] at this
      simp [Nat.blt] at this
      omega
    cases hd : o.dst with
    | none =>
      rw [hd] at h2
      obtain ⟨ih1, ih2⟩ := chkD_spec h2
      refine ⟨fun j o' hj => ?_, fun j k o1 o2 d hj hk e1 e2 => ?_⟩
      · cases j with
        | zero => simp at hj; subst hj; exact ⟨hedge, fun d hd' => by rw [hd] at hd'; cases hd'⟩
        | succ j =>
          obtain ⟨g1, g2⟩ := ih1 j o' (by simpa using hj)
          exact ⟨fun e he hb => by have := g1 e he hb; omega, g2⟩
      · cases j with
        | zero => simp at hj; subst hj; rw [hd] at e1; cases e1
        | succ j =>
          cases k with
          | zero => simp at hk; subst hk; rw [hd] at e2; cases e2
          | succ k => exact congrArg (· + 1) (ih2 j k o1 o2 d (by simpa using hj) (by simpa using hk) e1 e2)
    | some d0 =>
      rw [hd] at h2
      simp only [Bool.and_eq_true, Bool.not_eq_true'] at h2
      obtain ⟨⟨h3, h4⟩, h5⟩ := h2
      obtain ⟨ih1, ih2⟩ := chkD_spec h5
      have hns : d0 ∉ seen := fun hm => by
        have : seen.any (Nat.beq d0) = true := List.any_eq_true.2 ⟨d0, hm, Nat.beq_refl d0⟩
        rw [this] at h3; cases h3
      refine ⟨fun j o' hj => ?_, fun j k o1 o2 d hj hk e1 e2 => ?_⟩
      · cases j with
        | zero =>
          simp at hj; subst hj
          exact ⟨hedge, fun d hd' => by rw [hd] at hd'; cases hd'; exact ⟨freeS_get h4, hns⟩⟩
        | succ j =>
          obtain ⟨g1, g2⟩ := ih1 j o' (by simpa using hj)
          exact ⟨fun e he hb => by have := g1 e he hb; omega, fun d hd' => ⟨(g2 d hd').1, fun hm => (g2 d hd').2 (List.mem_cons_of_mem _ hm)⟩⟩
      · cases j with
        | zero =>
          simp at hj; subst hj
          rw [hd] at e1; cases e1
          cases k with
          | zero => rfl
          | succ k => exact absurd (List.mem_cons_self) ((ih1 k o2 (by simpa using hk)).2 d0 e2).2
        | succ j =>
          cases k with
          | zero =>
            simp at hk; subst hk
            rw [hd] at e2; cases e2
            exact absurd (List.mem_cons_self) ((ih1 j o1 (by simpa using hj)).2 d0 e1).2
          | succ k => exact congrArg (· + 1) (ih2 j k o1 o2 d (by simpa using hj) (by simpa using hk) e1 e2)

theorem any_of_D {base : List (Nat × AV)} {c : List Ch} {D : Done} {Q : Exit → Act → World → Prop} (hD : D.length = ops.size)
    (hstep : ∀ i o, ops[i]? = some o → ∃ x, D[i]? = some (o.dst, x) ∧ StepD X n ops (availL (D.take i) o.after.toList base) c o x)
    (hedge : ∀ i o, ops[i]? = some o → ∀ e ∈ o.after, Region.binds .any e = true → e.on < i)
    (hdist : ∀ (i j : Nat) o o' d, ops[i]? = some o → ops[j]? = some o' → o.dst = some d → o'.dst = some d → i = j)
    (hbase : ∀ (i : Nat) o d, ops[i]? = some o → o.dst = some d → get base d = none)
    (hfin : ∀ e a w, Rel X n e ⟨finS base D, c⟩ a w → Q .normal a w) :
    ∀ (fuel : Nat) (listed : Array Bool) (a : Act) (w : World) (e : Env) (S : List (Nat × AV)), listed.size = ops.size → listed.toList.count false = fuel → Rel X n e ⟨S, c⟩ a w →
      (∀ k y, get base k = some y → get S k = some y) → (∀ (i : Nat) d x, listed.getD i false = true → D[i]? = some (some d, x) → get S d = some x) →
      wpAny P .any ops Q fuel listed a w := by
  have progress : ∀ (listed : Array Bool), listed.size = ops.size → Region.ready .any ops listed = [] → ∀ i, i < ops.size → listed.getD i false = true := by
    intro listed hsz hr i
    induction i using Nat.strongRecOn with
    | ind i ih =>
      intro hi
      cases hl : listed.getD i true with
      | true =>
        have : i < listed.size := by omega
        simp [this] at hl ⊢
        exact hl
      | false =>
        exfalso
        have hmem : i ∈ Region.ready .any ops listed := by
          rw [mem_ready]
          refine ⟨hl, ops[i], by simp [hi], fun e he hb => ih e.on (hedge i ops[i] (by simp [hi]) e he hb) ?_⟩
          have := hedge i ops[i] (by simp [hi]) e he hb
          omega
        rw [hr] at hmem
        cases hmem
  have final : ∀ (listed : Array Bool) a w e S, listed.size = ops.size → Region.ready .any ops listed = [] → Rel X n e ⟨S, c⟩ a w →
      (∀ k y, get base k = some y → get S k = some y) → (∀ (i : Nat) d x, listed.getD i false = true → D[i]? = some (some d, x) → get S d = some x) → Q .normal a w := by
    intro listed a w e S hsz hr r hb hs
    refine hfin e a w (r.less (fun k y hk => ?_) id)
    rcases finS_get hk with ⟨i, hi⟩ | h
    · have hlt : i < D.length := by
        rcases Nat.lt_or_ge i D.length with h | h
        · exact h
        · rw [List.getElem?_eq_none h] at hi; cases hi
      exact hs i k y (progress listed hsz hr i (by omega)) hi
    · exact hb k y h
  intro fuel
  induction fuel with
  | zero =>
    intro listed a w e S hsz hc r hb hs
    have hall : ∀ i, i < listed.size → listed.getD i true = true := by
      intro i hi
      cases hl : listed.getD i true with
      | true => rfl
      | false =>
        exfalso
        have : false ∈ listed.toList := by
          simp [hi] at hl
          exact List.mem_iff_getElem.2 ⟨i, by simpa using hi, by simpa using hl⟩
        have := List.count_pos_iff.2 this
        omega
    have hr : Region.ready .any ops listed = [] := by
      cases hrr : Region.ready .any ops listed with
      | nil => rfl
      | cons j js =>
        exfalso
        have hm : j ∈ Region.ready .any ops listed := by rw [hrr]; simp
        rw [mem_ready] at hm
        obtain ⟨h0, o, ho, _⟩ := hm
        have hlt : j < ops.size := (Array.getElem?_eq_some_iff.1 ho).1
        rw [hall j (by omega)] at h0
        cases h0
    exact ⟨hr, final listed a w e S hsz hr r hb hs⟩
  | succ fuel ih =>
    intro listed a w e S hsz hc r hb hs
    refine ⟨fun hr => final listed a w e S hsz hr r hb hs, fun i hi => ?_⟩
    rw [mem_ready] at hi
    obtain ⟨h0, o, ho, hpre⟩ := hi
    have hlt : i < ops.size := (Array.getElem?_eq_some_iff.1 ho).1
    have hlf : listed.toList[i]? = some false := by
      have : i < listed.size := by omega
      simp [this] at h0 ⊢
      exact h0
    obtain ⟨x, hx, hst⟩ := hstep i o ho
    unfold wpOp
    simp only [ho]
    refine hst e a w S _ Q r (fun k y hk => ?_) (fun e' a' w' r' => ?_)
    · rcases availL_get hk with ⟨ed, h1, h2, h3⟩ | h
      · have h4 : D[ed.on]? = some (some k, y) := by
          rw [List.getElem?_take] at h3
          split at h3
          · exact h3
          · cases h3
        exact hs ed.on k y (hpre ed (by simpa using h1) h2) h4
      · exact hb k y h
    · refine ih (listed.setIfInBounds i true) a' w' e' _ (by simpa using hsz) ?_ r' (fun k y hk => ?_) (fun j d y hj hy => ?_)
      · rw [Array.toList_setIfInBounds]
        have hlt' : i < listed.toList.length := by simpa using (by omega : i < listed.size)
        have hg : listed.toList[i] = false := by
          have := List.getElem?_eq_getElem hlt'
          rw [hlf] at this
          simpa using this.symm
        rw [List.count_set hlt', hg, hc]
        simp
      · cases hd : o.dst with
        | none => exact hb k y hk
        | some d =>
          simp only [putS]
          rw [get_cons]
          by_cases h : d = k
          · subst h
            rw [hbase i o d ho hd] at hk
            cases hk
          · rw [if_neg h]; exact hb k y hk
      · by_cases hji : j = i
        · subst hji
          rw [hx] at hy
          simp only [Option.some.injEq, Prod.mk.injEq] at hy
          rw [hy.1, hy.2]
          simp only [putS]
          rw [get_cons, if_pos rfl]
        · rw [getD_set_ne false (Ne.symm hji)] at hj
          have hold := hs j d y hj hy
          cases hd : o.dst with
          | none => exact hold
          | some d' =>
            simp only [putS]
            rw [get_cons]
            by_cases h : d' = d
            · exfalso
              subst h
              have hjl : j < ops.size := by
                rw [← hD]
                rcases Nat.lt_or_ge j D.length with h | h
                · exact h
                · rw [List.getElem?_eq_none h] at hy; cases hy
              obtain ⟨x', hx', _⟩ := hstep j ops[j] (by simp [hjl])
              rw [hx'] at hy
              simp only [Option.some.injEq, Prod.mk.injEq] at hy
              exact hji (hdist j i ops[j] o d' (by simp [hjl]) ho hy.1 hd)
            · rw [if_neg h]; exact hold

def eraseD : List Oper → List (Nat × AV) → Option (List (Nat × AV))
  | [], s => some s
  | o :: r, s => match o.dst with
    | none => eraseD r s
    | some d => normG (eraseS d s) fun s => eraseD r s

theorem eraseD_get : ∀ {l : List Oper} {s base : List (Nat × AV)} {k : Nat} {y : AV}, eraseD l s = some base → get base k = some y → get s k = some y
  | [], s, base, k, y, h, hk => by simp only [eraseD, Option.some.injEq] at h; subst h; exact hk
  | o :: r, s, base, k, y, h, hk => by
    simp only [eraseD] at h
    split at h
    · exact eraseD_get h hk
    · rw [normG_eq] at h
      have := eraseD_get h hk
      rw [get_eraseS] at this
      split at this
      · cases this
      · exact this

/-- A region whose order is drawn, calls and all. -/
theorem C_drawD {id : Nat} {Q : Exit → St → Prop} {s base : List (Nat × AV)} {c : List Ch} (hb : eraseD ops.toList s = some base) (hchk : chkD base 0 [] ops.toList = true)
    (h : SymD X n ops base c (fun s => Q .normal s) ops.toList []) : SymC X n (.region id ops true) ⟨s, c⟩ Q := by
  intro e a w r
  have hbs : ∀ k y, get base k = some y → get s k = some y := fun k y hk => eraseD_get hb hk
  obtain ⟨D, _, hl, hK, hs⟩ := h.plan
  obtain ⟨c1, c2⟩ := chkD_spec hchk
  have hbel : Below w.heap.size w { w with drawn := w.drawn + 1 } := ⟨rfl, rfl, rfl, Nat.le_refl _, fun _ _ => rfl⟩
  refine wp_region_any X.wide ?_
  refine any_of_D (X := X) (n := n) (base := base) (c := c) (D := D) (by simpa using hl) (fun i o ho => ?_) (fun i o ho => ?_) (fun i j o o' d hi hj => c2 i j o o' d (by simpa using hi) (by simpa using hj)) (fun i o d ho hd => ((c1 i o (by simpa using ho)).2 d hd).1)
    (fun e a w r => ⟨e, _, r, hK⟩) _ _ a _ e base (by simp) (by simp) ((r.below hbel).less hbs (fun h => h)) (fun k y hk => hk) (fun i d x hi => ?_)
  · have := hs i o (by simpa using ho)
    simpa using this
  · simpa using (c1 i o (by simpa using ho)).1
  · rcases Nat.lt_or_ge i ops.size with h | h
    · simp [h] at hi
    · simp [Nat.not_lt.2 h] at hi
end
end Go.Sy
