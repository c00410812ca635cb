/- The symbolic walk, part 41: what comes behind begins from one of a family of states; steps of drawn regions at a phase, reckoned; cuts of known slices. -/
import Derived.Test.YtgmdpfoccnalnaaE7
set_option linter.unusedSimpArgs false
set_option linter.unusedVariables false
namespace Go.Sy
open Go.RowKit

section
variable {P : Program} {T : Tab} {X : Ctx P T} {n : Nat} {e : Env} {st : St} {a : Act} {w : World} {ops : Array Oper} {K : St → Prop}

theorem C_joinE {α : Type} {Q : Exit → St → Prop} {c : Code} (S : α → St) (I : α → Prop) (h1 : SymC X n c st (fun ex s => match ex with
      | .normal => ∃ a, I a ∧ Le X n s (S a)
      | ex => Q ex s)) (h2 : ∀ a s, I a → Le X n s (S a) → Q .normal s) : SymC X n c st Q := by
  refine h1.mono (fun ex s h => ?_)
  cases ex with
  | normal => obtain ⟨a, ha, hl⟩ := h; exact h2 a s ha hl
  | exit id => exact h
  | goto l => exact h
  | ret => exact h
  | panic ch => exact h
  | outgrown => exact h

/-- One step of a drawn region of effects, by reckoning, at a phase that is known. -/
def stepXM {P : Program} {T : Tab} (X : Ctx P T) (n : Nat) (ops : Array Oper) (p : Pl) (ph0 : Nat) (base : List (Nat × AV)) (C : Nat → List Ch) (K : St → Prop) : List Oper → Done → Option Prop
  | [], _ => none
  | o :: rest, done => normG (availX p done.length done o.after.toList base) fun Si => match guardA ops ⟨Si, C ph0⟩ o, dstOK n o.dst, Nat.beq (p.lo done.length) ph0, Nat.beq (p.hi done.length) ph0, p.E.contains done.length with
    | some true, true, true, true, false => (match stillX T ⟨Si, C ph0⟩ o.op with
      | some (vc, x) => normA x fun x => (match p.creB done.length x with
        | true => normG (done ++ [(o.dst, x)]) fun done => some (vc ∧ SymX X n ops p base C K rest done)
        | _ => none)
      | none => none)
    | _, _, _, _, _ => none

theorem sxm (ph0 : Nat) {p : Pl} {base : List (Nat × AV)} {C : Nat → List Ch} {l : List Oper} {done : Done} {q : Prop} (h : stepXM X n ops p ph0 base C K l done = some q) (hq : q) : SymX X n ops p base C K l done := by
  cases l with
  | nil => simp [stepXM] at h
  | cons o rest =>
    simp only [stepXM, normG_eq, normA_eq] at h
    split at h
    · rename_i hg hd hlo hhi hE
      split at h
      · rename_i vc x hs
        split at h
        · rename_i hc
          simp only [Option.some.injEq] at h
          subst h
          exact SXr x ph0 hc hE hlo hhi (X_stillX hg hd hs hq.1) (by rw [normG_eq]; exact hq.2)
        · cases h
      · cases h
    · cases h

/-- A step that turns nothing, in a drawn region. -/
theorem D_X {base : List (Nat × AV)} {c : List Ch} {o : Oper} {rest : List Oper} {done : Done} (x : AV) (h : StepX X n ops pl0 (availL done o.after.toList base) c c 0 o x) (k : SymD X n ops base c K rest (done ++ [(o.dst, x)])) : SymD X n ops base c K (o :: rest) done := by
  refine ⟨x, fun e a w S K' Q r hS hk => ?_, k⟩
  exact h e a w S K' Q r hS (fun _ _ _ q hq => by cases hq) (fun e' a' w' S' r' hu => hk e' a' w' (r'.less (fun i y hy => by
    cases hd : o.dst with
    | none =>
      rw [hd] at hy
      exact hu.2.1 i y (by rw [hd]; intro h; cases h) hy (fun q hq => by cases hq)
    | some d =>
      rw [hd] at hy
      simp only [putS] at hy
      rw [get_cons] at hy
      by_cases hdi : d = i
      · rw [if_pos hdi] at hy; cases hy; subst hdi; exact hu.1 d hd
      · rw [if_neg hdi] at hy
        exact hu.2.1 i y (by rw [hd]; intro h; cases h; exact hdi rfl) hy (fun q hq => by cases hq)) (fun h => h)))

/-- s[:j]. -/
theorem X_sliceTo {p : Pl} {t el sz0 b0 : Nat} {ag0 : Bool} {z0 : List Value} {ti : TI} {x hi : Operand} {g o m c j : Nat} {kk : IntKind} {d : Option Nat} {ty : TypeId} {pos : String} {aft : Array Edge} {gd : Option (Nat × Bool)} {q : Nat} {Si : List (Nat × AV)} {cs : List Ch}
    (hTs : T t = some ⟨sz0, b0, ag0, z0, .slice el⟩) (hTe : T el = some ti) (hg : guardA ops ⟨Si, cs⟩ ⟨d, .slice t x none (some hi) none, ty, pos, aft, gd⟩ = some true) (hx : opd Si x = some (.v (HO g o m c))) (hhi : opd Si hi = some (.v (.int kk (j : Nat)))) (hd : dstOK n d = true)
    (hj : j ≤ m) (hc : m ≤ c) : StepX X n ops p Si cs cs q ⟨d, .slice t x none (some hi) none, ty, pos, aft, gd⟩ (.v (HO g o j c)) := by
  have h := X_slice (X := X) (p := p) (q := q) (i := 0) (j := (j : Int)) hTs hTe hg hx rfl (by simp only [bndA, hhi]) hd (by omega) (by omega) (by omega) hc
  have e : (if c - (0 : Int).toNat = 0 then o else o + (0 : Int).toNat * ti.size) = o := by split <;> simp
  rw [e] at h
  simpa using h
/-- s[i:]. -/
theorem X_sliceFrom {p : Pl} {t el sz0 b0 : Nat} {ag0 : Bool} {z0 : List Value} {ti : TI} {x lo : Operand} {g o m c i : Nat} {kk : IntKind} {d : Option Nat} {ty : TypeId} {pos : String} {aft : Array Edge} {gd : Option (Nat × Bool)} {q : Nat} {Si : List (Nat × AV)} {cs : List Ch}
    (hTs : T t = some ⟨sz0, b0, ag0, z0, .slice el⟩) (hTe : T el = some ti) (hg : guardA ops ⟨Si, cs⟩ ⟨d, .slice t x (some lo) none none, ty, pos, aft, gd⟩ = some true) (hx : opd Si x = some (.v (HO g o m c))) (hlo : opd Si lo = some (.v (.int kk (i : Nat)))) (hd : dstOK n d = true)
    {r : Nat} (hi : i ≤ m) (hc : m ≤ c) (hr : m - i = r) : StepX X n ops p Si cs cs q ⟨d, .slice t x (some lo) none none, ty, pos, aft, gd⟩ (.v (HO g (if c - i = 0 then o else o + i * ti.size) r (c - i))) := by
  subst hr
  have h := X_slice (X := X) (p := p) (q := q) (i := (i : Int)) (j := (m : Int)) hTs hTe hg hx (by simp only [bndA, hlo]) rfl hd (by omega) (by omega) (by omega) hc
  simpa using h
def nthN : Nat → List Ch → Option (Ch × List Ch)
  | 0, x :: r => some (x, r)
  | i + 1, c :: r => match nthN i r with
    | some (A, r') => some (A, c :: r')
    | none => none
  | _, [] => none
def pickN : List Nat → List Ch → Option (List Ch × List Ch)
  | [], c => some ([], c)
  | i :: is, c => match nthN i c with
    | some (A, c') => (match pickN is c' with
      | some (As, r) => some (A :: As, r)
      | none => none)
    | none => none
theorem nthN_perm : ∀ {i : Nat} {c r : List Ch} {A : Ch}, nthN i c = some (A, r) → c.Perm (A :: r)
  | 0, [], r, A, h => by simp [nthN] at h
  | 0, x :: c, r, A, h => by
    simp only [nthN, Option.some.injEq, Prod.mk.injEq] at h
    obtain ⟨rfl, rfl⟩ := h
    exact .refl _
  | i + 1, [], r, A, h => by simp [nthN] at h
  | i + 1, x :: c, r, A, h => by
    simp only [nthN] at h
    split at h
    · rename_i A' r' hh
      simp only [Option.some.injEq, Prod.mk.injEq] at h
      obtain ⟨rfl, rfl⟩ := h
      exact ((nthN_perm hh).cons x).trans (.swap _ _ _)
    · cases h
theorem pickN_perm : ∀ {is : List Nat} {c r : List Ch} {As : List Ch}, pickN is c = some (As, r) → c.Perm (As ++ r)
  | [], c, r, As, h => by
    simp only [pickN, Option.some.injEq, Prod.mk.injEq] at h
    obtain ⟨rfl, rfl⟩ := h
    exact .refl _
  | i :: is, c, r, As, h => by
    simp only [pickN] at h
    split at h
    · rename_i A c' hh
      split at h
      · rename_i As' r' hh2
        simp only [Option.some.injEq, Prod.mk.injEq] at h
        obtain ⟨rfl, rfl⟩ := h
        exact (nthN_perm hh).trans ((pickN_perm hh2).cons A)
      · cases h
    · cases h
/-- Slots and chunks picked by their places. -/
theorem Le.pick (is : List Nat) {s s2 : List (Nat × AV)} {c c2 cr : List Ch} (hs : subS s2 s) (h : pickN is c = some (c2, cr)) : Le X n ⟨s, c⟩ ⟨s2, c2⟩ :=
  Le.perm cr hs ((pickN_perm h).trans List.perm_append_comm)
theorem any_of_DU {base : List (Nat × AV)} {c : List Ch} {D : Done} {Q : Exit → Act → World → Prop} {m f : Nat} (ht : tailB ops f m = true) (hD : D.length = m)
    (hstep : ∀ i o, i < m → ops[i]? = some o → ∃ x, D[i]? = some (o.dst, x) ∧ StepD X n ops (availL (D.take i) o.after.toList base) c o x)
    (hedge : ∀ i o, ops[i]? = some o → ∀ e ∈ o.after, Region.binds .any e = true → e.on < i)
    (hdist : ∀ (i j : Nat) o o' d, i < m → j < m → ops[i]? = some o → ops[j]? = some o' → o.dst = some d → o'.dst = some d → i = j)
    (hbase : ∀ (i : Nat) o d, i < m → ops[i]? = some o → o.dst = some d → get base d = none)
    (hfin : ∀ e a w, Rel X n e ⟨finS base D, c⟩ a w → wpList P ops Q (ops.toList.drop m) a w) :
    ∀ (fuel : Nat) (listed : Array Bool) (a : Act) (w : World) (e : Env) (S : List (Nat × AV)), listed.size = ops.size → listed.toList.count false = fuel → Rel X n e ⟨S, c⟩ a w →
      (∀ j, m ≤ j → listed.getD j false = false) → ClosedL ops listed →
      (∀ k y, get base k = some y → get S k = some y) → (∀ (i : Nat) d x, listed.getD i false = true → D[i]? = some (some d, x) → get S d = some x) →
      wpAny P .any ops Q fuel listed a w := by
  have ht' := ht
  unfold tailB at ht'
  simp only [Bool.and_eq_true, List.all_eq_true, List.mem_range, Array.length_toList] at ht'
  obtain ⟨⟨hm, hcov⟩, hch⟩ := ht'
  have hm' : m < ops.size := by have h := hm; simp [Nat.blt] at h; omega
  have cnt : ∀ (l : List Bool) (k : Nat), k ≤ l.length → (∀ j, j < l.length → (l[j]? = some true ↔ j < k)) → l.count false + k = l.length := by
    intro l
    induction l with
    | nil => intro k hk _; simp at hk; simp [hk]
    | cons b l ih =>
      intro k hk h
      cases k with
      | zero =>
        have hb : b = false := by
          have := h 0 (by simp)
          cases b
          · rfl
          · simp at this
        subst hb
        have := ih 0 (Nat.zero_le _) (fun j hj => by have := h (j + 1) (by simpa using hj); simpa using this)
        simp at this ⊢; omega
      | succ k =>
        have hb : b = true := by
          have := h 0 (by simp)
          simpa using this
        subst hb
        have := ih k (by simpa using hk) (fun j hj => by have := h (j + 1) (by simpa using hj); simpa using this)
        simp at this ⊢; omega
  intro fuel
  induction fuel with
  | zero =>
    intro listed a w e S hsz hc r hge hcl hb hs
    exfalso
    have h1 := hge m (Nat.le_refl _)
    have hls : m < listed.size := by omega
    have : false ∈ listed.toList := by
      simp [hls] at h1
      exact List.mem_iff_getElem.2 ⟨m, by simpa using hls, by simpa using h1⟩
    have := List.count_pos_iff.2 this
    omega
  | succ fuel ih =>
    intro listed a w e S hsz hc r hge hcl hb hs
    by_cases hall : ∀ j, j < m → listed.getD j false = true
    · -- all that is drawn is done
      have hlt : ∀ j, j < ops.size → (listed.getD j false = true ↔ j < m) := fun j hj => by
        constructor
        · intro h
          rcases Nat.lt_or_ge j m with h1 | h1
          · exact h1
          · rw [hge j h1] at h; cases h
        · exact hall j
      have hcount : listed.toList.count false + m = ops.size := by
        have := cnt listed.toList m (by simp; omega) (fun j hj => by
          have hjl : j < listed.size := by simpa using hj
          have := hlt j (by omega)
          simp [hjl] at this ⊢
          exact this)
        simpa [hsz] using this
      refine any_tail ht hedge (fuel + 1) m listed a w (by omega) (Nat.le_refl _) hsz hlt ?_
      refine hfin e a w (r.less (fun k y hk => ?_) id)
      rcases finS_get hk with ⟨i, hi⟩ | h
      · have hil : i < D.length := by
          rcases Nat.lt_or_ge i D.length with h | h
          · exact h
          · rw [List.getElem?_eq_none h] at hi; cases hi
        exact hs i k y (hall i (by omega)) hi
      · exact hb k y h
    -- what may come up now is drawn
    have hlow : ∀ i ∈ Region.ready .any ops listed, i < m := by
      intro i hi
      rw [mem_ready] at hi
      obtain ⟨h0, o, ho, hpre⟩ := hi
      rcases Nat.lt_or_ge i m with h | h
      · exact h
      · exfalso
        have hlt : i < ops.size := (Array.getElem?_eq_some_iff.1 ho).1
        rcases Nat.eq_or_lt_of_le h with h | h
        · subst h
          refine hall (fun j hj => ?_)
          have hc := hcov j hj
          rw [List.contains_iff_mem] at hc
          refine ancs_listed hcl f m (fun q hq => ?_) j hc
          obtain ⟨o', ho', ed, he, hbb, rfl⟩ := mem_preds hq
          rw [ho] at ho'; cases ho'
          exact hpre ed he hbb
        · have hc := hch (i - m - 1) (by omega)
          rw [show m + 1 + (i - m - 1) = i by omega, show m + (i - m - 1) = i - 1 by omega, List.contains_iff_mem] at hc
          obtain ⟨o', ho', ed, he, hbb, hon⟩ := mem_preds hc
          rw [ho] at ho'; cases ho'
          have := hpre ed he hbb
          rw [hon, hge (i - 1) (by omega)] at this
          cases this
    refine ⟨fun hr => ?_, fun i hi => ?_⟩
    · exfalso
      refine hall (fun j => ?_)
      induction j using Nat.strongRecOn with
      | ind j ihj =>
        intro hj
        cases hl : listed.getD j true with
        | true =>
          have : j < listed.size := by omega
          simp [this] at hl ⊢
          exact hl
        | false =>
          exfalso
          have hmem : j ∈ Region.ready .any ops listed := by
            rw [mem_ready]
            refine ⟨hl, ops[j], by simp [show j < ops.size by omega], fun e he hbb => ?_⟩
            have h1 := hedge j ops[j] (by simp [show j < ops.size by omega]) e he hbb
            exact ihj e.on h1 (by omega)
          rw [hr] at hmem; cases hmem
    · have him := hlow i hi
      rw [mem_ready] at hi
      obtain ⟨h0, o, ho, hpre⟩ := hi
      have hlt : i < ops.size := (Array.getElem?_eq_some_iff.1 ho).1
      have hlf : listed.toList[i]? = some false := by
        have : i < listed.size := by omega
        simp [this] at h0 ⊢
        exact h0
      obtain ⟨x, hx, hst⟩ := hstep i o him ho
      unfold wpOp
      simp only [ho]
      refine hst e a w S _ Q r (fun k y hk => ?_) (fun e' a' w' r' => ?_)
      · rcases availL_get hk with ⟨ed, h1, h2, h3⟩ | h
        · have h4 : D[ed.on]? = some (some k, y) := by
            rw [List.getElem?_take] at h3
            split at h3
            · exact h3
            · cases h3
          exact hs ed.on k y (hpre ed (by simpa using h1) h2) h4
        · exact hb k y h
      · refine ih (listed.setIfInBounds i true) a' w' e' _ (by simpa using hsz) ?_ r' (fun j hj => ?_) (fun j oj hj hoj ed he hbb => ?_) (fun k y hk => ?_) (fun j d y hj hy => ?_)
        · rw [Array.toList_setIfInBounds]
          have hlt' : i < listed.toList.length := by simpa using (by omega : i < listed.size)
          have hg : listed.toList[i] = false := by
            have := List.getElem?_eq_getElem hlt'
            rw [hlf] at this
            simpa using this.symm
          rw [List.count_set hlt', hg, hc]
          simp
        · rw [getD_set_ne false (by omega : i ≠ j)]
          exact hge j hj
        · by_cases hei : ed.on = i
          · have hls : i < listed.size := by omega
            rw [hei]; simp [hls]
          · rw [getD_set_ne false (Ne.symm hei)]
            by_cases hji : j = i
            · subst hji
              rw [ho] at hoj; cases hoj
              exact hpre ed he hbb
            · rw [getD_set_ne false (Ne.symm hji)] at hj
              exact hcl j oj hj hoj ed he hbb
        · cases hd : o.dst with
          | none => exact hb k y hk
          | some d =>
            simp only [putS]
            rw [get_cons]
            by_cases h : d = k
            · subst h
              rw [hbase i o d him ho hd] at hk
              cases hk
            · rw [if_neg h]; exact hb k y hk
        · by_cases hji : j = i
          · subst hji
            rw [hx] at hy
            simp only [Option.some.injEq, Prod.mk.injEq] at hy
            rw [hy.1, hy.2]
            simp only [putS]
            rw [get_cons, if_pos rfl]
          · rw [getD_set_ne false (Ne.symm hji)] at hj
            have hold := hs j d y hj hy
            cases hd : o.dst with
            | none => exact hold
            | some d' =>
              simp only [putS]
              rw [get_cons]
              by_cases h : d' = d
              · exfalso
                subst h
                have hjl : j < m := by
                  rw [← hD]
                  rcases Nat.lt_or_ge j D.length with h | h
                  · exact h
                  · rw [List.getElem?_eq_none h] at hy; cases hy
                obtain ⟨x', hx', _⟩ := hstep j ops[j] hjl (by simp [show j < ops.size by omega])
                rw [hx'] at hy
                simp only [Option.some.injEq, Prod.mk.injEq] at hy
                exact hji (hdist j i ops[j] o d' hjl him (by simp [show j < ops.size by omega]) ho hy.1 hd)
              · rw [if_neg h]; exact hold

/-- .. the rest may set slots that are read ahead. -/
def edgesB (ops : Array Oper) : Bool := (List.range ops.toList.length).all fun i => (predsB ops i).all fun j => Nat.blt j i
theorem C_drawU (f m : Nat) {id : Nat} {Q : Exit → St → Prop} {s base : List (Nat × AV)} {c : List Ch} (hb : eraseD (ops.toList.take m) s = some base) (hchk : chkD base 0 [] (ops.toList.take m) = true) (hed : edgesB ops = true)
    (ht : tailB ops f m = true) (h : SymD X n ops base c (fun s => SymO X n ops (ops.toList.drop m) s (fun s => Q .normal s)) (ops.toList.take m) []) : SymC X n (.region id ops true) ⟨s, c⟩ Q := by
  intro e a w r
  have hbs : ∀ k y, get base k = some y → get s k = some y := fun k y hk => eraseD_get hb hk
  obtain ⟨D, _, hl, hK, hs⟩ := h.plan
  obtain ⟨c1, c2⟩ := chkD_spec hchk
  have hbel : Below w.heap.size w { w with drawn := w.drawn + 1 } := ⟨rfl, rfl, rfl, Nat.le_refl _, fun _ _ => rfl⟩
  have hm : m < ops.size := by
    unfold tailB at ht
    simp only [Bool.and_eq_true] at ht
    have h1 := ht.1.1
    simp [Nat.blt] at h1; omega
  have htk : ∀ (i : Nat) (o : Oper), i < m → ops[i]? = some o → (ops.toList.take m)[i]? = some o := fun i o him ho => by rw [List.getElem?_take, if_pos him]; simpa using ho
  refine wp_region_any X.wide ?_
  refine any_of_DU (X := X) (n := n) (base := base) (c := c) (D := D) (f := f) (m := m) ht (by simp at hl; omega) (fun i o him ho => ?_) (fun i o ho => ?_) (fun i j o o' d him hjm hi hj => c2 i j o o' d (htk i o him hi) (htk j o' hjm hj)) (fun i o d him ho hd => ((c1 i o (htk i o him ho)).2 d hd).1)
    (fun e a w r => hK e a w _ r fun e' st' _ _ hk hr => ⟨e', st', hr, hk⟩) _ _ a _ e base (by simp) (by simp) ((r.below hbel).less hbs (fun h => h)) (fun j hj => ?_) (fun j o hj => ?_) (fun k y hk => hk) (fun i d x hi => ?_)
  · have := hs i o (htk i o him ho)
    simpa using this
  · intro ed he hb'
    have hi : i < ops.toList.length := by
      have := (Array.getElem?_eq_some_iff.1 ho).1
      simpa using this
    have h1 := List.all_eq_true.1 hed i (List.mem_range.2 hi)
    have h2 := List.all_eq_true.1 h1 ed.on (by
      unfold predsB
      rw [show ops.toList[i]? = some o by simpa using ho]
      exact List.mem_map.2 ⟨ed, List.mem_filter.2 ⟨by simpa using he, hb'⟩, rfl⟩)
    simp [Nat.blt] at h2; omega
  · rcases Nat.lt_or_ge j ops.size with h | h
    · simp [h]
    · simp [Nat.not_lt.2 h]
  · rcases Nat.lt_or_ge j ops.size with h | h
    · simp [h] at hj
    · simp [Nat.not_lt.2 h] at hj
  · rcases Nat.lt_or_ge i ops.size with h | h
    · simp [h] at hi
    · simp [Nat.not_lt.2 h] at hi
end
end Go.Sy

/- The law BoundRing walked. -/
set_option linter.unusedSimpArgs false
set_option linter.unusedVariables false
set_option maxRecDepth 100000
namespace Go.Proofs
open Go.Sy Go.Lib Go.Ring

theorem awake46_c : FnP Try.prog 5 [] (· = B true) := by
  refine FnP.intro Try.tabOK Try.wide_ Try.func5 rfl (by decide) rfl (fun X => ?_)
  repeat (first | refine sc rfl ?_ | refine so rfl ?_ | refine sb rfl ?_)
  refine O_call (Round_c _) (by rfl) (by rfl) (by rfl) (by rfl) (fun r hr => ?_)
  subst hr
  repeat (first | refine sc rfl ?_ | refine so rfl ?_ | refine sb rfl ?_)
  refine O_true 3 rfl (by decide) ?_
  repeat (first | refine sc rfl ?_ | refine so rfl ?_ | refine sb rfl ?_)
  refine O_le _ (Le.freeze 4 rfl rfl) ?_
  refine O_le _ (Le.conv 4 (y := SL 1 (fun x => [I64 x]) [1040, 1040]) rfl (fun e v h => Rep.slrow (fun i hi => ?_) h)) ?_
  · match i, hi with
    | 0, _ => rfl
    | 1, _ => rfl
  refine O_call (Most_c _ _ _) (by rfl) (by rfl) (by rfl) (by rfl) (fun r hr => ?_)
  subst hr
  repeat (first | refine sc rfl ?_ | refine so rfl ?_ | refine sb rfl ?_)
  exact ⟨_, rfl, rfl, congrArg B (by decide)⟩

abbrev nilV : Value := .slice none 0 0

theorem ring_c (l p : List Int) (n : Int) : FnP Try.prog 3 [SL 1 INT l, SL 1 INT p, I64 n] (· = B true) := by
  refine FnP.intro Try.tabOK Try.wide_ Try.func3 rfl (by decide) rfl (fun X => ?_)
  by_cases H : ((l.length : Nat) : Int) > 8 ∨ ((p.length : Nat) : Int) > 60 ∨ ((l.length : Nat) : Int) = 0 ∨ ((p.length : Nat) : Int) = 0
  · repeat (first | refine sc rfl ?_ | refine so rfl ?_ | refine sb rfl ?_)
    refine O_case 23 rfl (fun h1 => ?_) (fun h1 => ?_)
    · skip
      repeat (first | refine sc rfl ?_ | refine so rfl ?_ | refine sb rfl ?_)
      refine C_true rfl rfl ?_
      repeat (first | refine sc rfl ?_ | refine so rfl ?_ | refine sb rfl ?_)
      refine O_call awake46_c (by rfl) (by rfl) (by rfl) (by rfl) (fun r hr => ?_)
      subst hr
      repeat (first | refine sc rfl ?_ | refine so rfl ?_ | refine sb rfl ?_)
      exact ⟨_, rfl, rfl, rfl⟩
    · repeat (first | refine sc rfl ?_ | refine so rfl ?_ | refine sb rfl ?_)
      refine O_case 28 rfl (fun h2 => ?_) (fun h2 => ?_)
      · skip
        repeat (first | refine sc rfl ?_ | refine so rfl ?_ | refine sb rfl ?_)
        refine C_true rfl rfl ?_
        repeat (first | refine sc rfl ?_ | refine so rfl ?_ | refine sb rfl ?_)
        refine O_call awake46_c (by rfl) (by rfl) (by rfl) (by rfl) (fun r hr => ?_)
        subst hr
        repeat (first | refine sc rfl ?_ | refine so rfl ?_ | refine sb rfl ?_)
        exact ⟨_, rfl, rfl, rfl⟩
      · repeat (first | refine sc rfl ?_ | refine so rfl ?_ | refine sb rfl ?_)
        refine O_case 33 rfl (fun h3 => ?_) (fun h3 => ?_)
        · skip
          repeat (first | refine sc rfl ?_ | refine so rfl ?_ | refine sb rfl ?_)
          refine C_true rfl rfl ?_
          repeat (first | refine sc rfl ?_ | refine so rfl ?_ | refine sb rfl ?_)
          refine O_call awake46_c (by rfl) (by rfl) (by rfl) (by rfl) (fun r hr => ?_)
          subst hr
          repeat (first | refine sc rfl ?_ | refine so rfl ?_ | refine sb rfl ?_)
          exact ⟨_, rfl, rfl, rfl⟩
        · skip
          repeat (first | refine sc rfl ?_ | refine so rfl ?_ | refine sb rfl ?_)
          refine C_true rfl (by simp at h1 h2 h3 ⊢; rcases H with H | H | H | H <;> first | omega | (simp at H; first | exact H | exact absurd H h3)) ?_
          repeat (first | refine sc rfl ?_ | refine so rfl ?_ | refine sb rfl ?_)
          refine O_call awake46_c (by rfl) (by rfl) (by rfl) (by rfl) (fun r hr => ?_)
          subst hr
          repeat (first | refine sc rfl ?_ | refine so rfl ?_ | refine sb rfl ?_)
          exact ⟨_, rfl, rfl, rfl⟩
  simp only [not_or] at H
  obtain ⟨H1, H2, H3, H4⟩ := H
  have hl0 : l ≠ [] := fun h => H3 (by rw [h]; rfl)
  have hp0 : p ≠ [] := fun h => H4 (by rw [h]; rfl)
  repeat (first | refine sc rfl ?_ | refine so rfl ?_ | refine sb rfl ?_)
  refine O_false 23 rfl (by simp; omega) ?_
  repeat (first | refine sc rfl ?_ | refine so rfl ?_ | refine sb rfl ?_)
  refine O_false 28 rfl (by simp; omega) ?_
  repeat (first | refine sc rfl ?_ | refine so rfl ?_ | refine sb rfl ?_)
  refine O_false 33 rfl (by simpa using hl0) ?_
  repeat (first | refine sc rfl ?_ | refine so rfl ?_ | refine sb rfl ?_)
  refine C_false rfl (by simpa using hp0) ?_
  repeat (first | refine sc rfl ?_ | refine so rfl ?_ | refine sb rfl ?_)
  refine O_callA [] New_A (by rfl) (by rfl) (by rfl) (by rfl) (by rfl) ?_
  rintro r cs' ⟨bR, rfl, rfl⟩
  repeat (first | refine sc rfl ?_ | refine so rfl ?_ | refine sb rfl ?_)
  refine C_le _ (Le.nilvec INT 8 55 3 1 rfl rfl rfl) ?_
  refine C_le _ (Le.addAbs (mpA none []) rfl (fun _ _ => rfl)) ?_
  refine C_le _ (Le.addAbs (flA []) rfl (fun _ _ i f hf => by simp at hf)) ?_
  refine C_le _ (Le.addAbs (rwA nilV []) rfl (fun _ _ => ⟨0, rfl, .inl ⟨rfl, rfl⟩⟩)) ?_
  refine C_le _ (Le.addAbs (packA []) rfl (fun _ _ A hA => by cases hA)) ?_
  have hq : ∀ x ∈ l.map clampQ, 1040 ≤ x ∧ x ≤ 3000 := fun x hx => by obtain ⟨y, _, rfl⟩ := List.mem_map.1 hx; exact clampQ_bd y
  refine C_loop (fun q : Nat × List FS × List Abs × Option Nat => ⟨[(0, SL 1 INT l), (1, SL 1 INT p), (2, I64 n), (7, PT bR 0), (8, .own 55), (9, I64 (q.1 : Nat))], [VEC 55 3 1 INT ((l.take q.1).map clampQ), .abs (ringA bR q.2.2.2 nilV), .abs (mpA q.2.2.2 (mkEs 0 (q.2.1.map (·.b)))), .abs (flA q.2.1), .abs (rwA nilV []), .abs (packA q.2.2.1)]⟩)
    (fun q => q.1 ≤ l.length ∧ Mem ⟨nilV, [], q.2.1, q.2.2.1⟩ (fl0 (l.map clampQ)) [] q.1) (fun q => l.length - q.1) (0, [], [], none) ⟨Nat.zero_le _, ⟨rfl, rfl, fun i hi => absurd hi (Nat.not_lt_zero _), List.nodup_nil, rfl⟩⟩ ?_ ?_
  · exact Le.pick [4, 4, 3, 2, 1, 0] ⟨rfl, rfl, rfl, rfl, rfl, rfl, trivial⟩ rfl
  rintro ⟨i, fs, C, mo⟩ ⟨hi, hM⟩
  simp only [] at hi hM
  have hfl : fs.length = i := hM.len
  repeat (first | refine sc rfl ?_ | refine so rfl ?_ | refine sb rfl ?_)
  refine C_if rfl (fun h5 => ?_) (fun h5 => ?_) <;> simp only [decide_eq_true_eq, decide_eq_false_iff_not] at h5
  · repeat (first | refine sc rfl ?_ | refine so rfl ?_ | refine sb rfl ?_)
    refine ⟨by simp only []; omega, ?_⟩
    repeat (first | refine sc rfl ?_ | refine so rfl ?_ | refine sb rfl ?_)
    have hx : (l.take (i + 1)).map clampQ = (l.take i).map clampQ ++ [clampQ (l.getD i default)] := by
      rw [List.take_succ_eq_append_getElem (by omega), List.map_append]
      simp [List.getElem?_eq_getElem (show i < l.length by omega)]
    have hqb := clampQ_bd (l.getD i default)
    refine O_push INT ((l.take i).map clampQ) (clampQ (l.getD i default)) [(0, SL 1 INT l), (1, SL 1 INT p), (2, I64 n), (7, PT bR 0), (9, I64 (i : Nat)), (10, I64 (clampQ (l.getD i default)))] rfl rfl rfl rfl rfl rfl rfl rfl rfl rfl ⟨rfl, rfl, rfl, rfl, rfl, rfl, trivial⟩ rfl rfl (by simp; omega) (by simp [maxLen]; omega) ?_
    rw [← hx]
    repeat (first | refine sc rfl ?_ | refine so rfl ?_ | refine sb rfl ?_)
    rw [w64 (x := (i : Int) + 1) (by omega) (by omega)]
    refine O_callA [2, 2, 2] (Set_A (es := mkEs 0 (fs.map (fun f : FS => f.b))) (k := (i : Int) + 1) (q := clampQ (l.getD i default)) (mkEs_none 0 _ _ (by simp; omega)) (by omega) (by omega)) (by rfl) (by rfl) (by rfl) (by rfl) (by rfl) ?_
    rintro r cs' ⟨rfl, mb, b, rfl⟩
    refine O_know 2 (((fs ++ [newF b ((i : Int) + 1) (clampQ (l.getD i default))]).map (fun f : FS => f.b)).Nodup) rfl (fun G w _ hnd => hnd) (fun hnd => ?_)
    repeat (first | refine sc rfl ?_ | refine so rfl ?_ | refine sb rfl ?_)
    refine C_false rfl rfl ?_
    repeat (first | refine sc rfl ?_ | refine so rfl ?_ | refine sb rfl ?_)
    rw [w64 (x := (i : Int) + 1) (by omega) (by omega)]
    have hes : mkEs 0 ((fs ++ [newF b ((i : Int) + 1) (clampQ (l.getD i default))]).map (fun f : FS => f.b)) = mkEs 0 (fs.map (fun f : FS => f.b)) ++ [((i : Int) + 1, PT b 0)] := by
      rw [List.map_append, List.map_cons, List.map_nil, mkEs_snoc]; simp [hfl]
    refine ⟨(i + 1, fs ++ [newF b ((i : Int) + 1) (clampQ (l.getD i default))], C ++ [csA (newF b ((i : Int) + 1) (clampQ (l.getD i default))) []], some mb), ⟨by simp only []; omega, hM.snoc hnd rfl ?_ rfl rfl rfl rfl⟩, by simp only []; omega, ?_⟩
    · simp [fl0, List.getElem?_eq_getElem (show i < l.length by omega)]
    · simp only [hes]
      refine (Le.retell 6 (A' := packA (C ++ [csA (newF b ((i : Int) + 1) (clampQ (l.getD i default))) []])) rfl (by simp [packA, blocks, csA, slO, FS.h, Value.ownBlock]) (fun G w hok A hA => ?_)).trans (Le.pick [4, 1, 1, 1, 2, 0] ⟨rfl, rfl, rfl, rfl, rfl, rfl, trivial⟩ rfl)
      rcases List.mem_append.1 hA with h | h
      · exact hok A h
      · simp only [List.mem_singleton] at h
        subst h
        exact ⟨0, rfl, .inl ⟨rfl, rfl⟩⟩
  obtain rfl : i = l.length := by omega
  repeat (first | refine sc rfl ?_ | refine so rfl ?_ | refine sb rfl ?_)
  simp only [List.take_length]
  have hNb : 0 ≤ max 0 (min n 2000) ∧ max 0 (min n 2000) ≤ 2000 := by omega
  generalize max 0 (min n 2000) = N at hNb ⊢
  obtain ⟨Nn, rfl⟩ : ∃ Nn : Nat, N = (Nn : Nat) := ⟨N.toNat, by omega⟩
  have hql : (l.map clampQ).length = l.length := List.length_map _
  generalize l.map clampQ = qs at hq hM hql ⊢
  generalize hm : l.length = m at hM hql H1 H3 hfl ⊢
  have hbs : ∃ bs, fs.map (fun f : FS => f.b) = bs := ⟨_, rfl⟩
  obtain ⟨bs, hbs⟩ := hbs
  rw [hbs]
  refine C_le _ (Le.freezeL 8 rfl rfl) ?_
  refine C_le _ (Le.nilvec Wt.cells 11 118 33 4 rfl rfl rfl) ?_
  refine C_loop (fun q : Nat × Cfg × FM × List Nat × List Wt => ⟨[(1, SL 1 INT p), (2, I64 (Nn : Nat)), (7, PT bR 0), (8, SL 1 INT qs), (11, .own 118), (12, I64 (q.1 : Nat))],
      [VEC 118 33 4 Wt.cells q.2.2.2.2, .abs (ringA bR mo q.2.1.hr), .abs (mpA mo (mkEs 0 bs)), .abs (flA q.2.1.fs), .abs (rwA q.2.1.hr q.2.1.ps), .abs (packA q.2.1.C)]⟩)
    (fun q => q.1 ≤ Nn ∧ Ok2 m qs bs q.1 q.1 q.2.1 q.2.2.1 q.2.2.2.1 q.2.2.2.2) (fun q => Nn - q.1) (0, ⟨nilV, [], fs, C⟩, fl0 qs, [], []) ⟨Nat.zero_le _, ⟨hM, fl0_winv hql hq, Nat.le_refl _, fun i _ => rfl, fun w hw => absurd hw (by simp), fun i _ => Nat.zero_le _, hbs⟩⟩ ?_ ?_
  · exact Le.pick [0, 0, 0, 0, 0, 0] ⟨rfl, rfl, rfl, rfl, rfl, rfl, trivial⟩ rfl
  rintro ⟨k, c, fl, row, W⟩ ⟨hk, hO⟩
  simp only [] at hk hO
  repeat (first | refine sc rfl ?_ | refine so rfl ?_ | refine sb rfl ?_)
  refine C_if rfl (fun h5 => ?_) (fun h5 => ?_) <;> simp only [decide_eq_true_eq, decide_eq_false_iff_not] at h5
  · have hpl : 0 < p.length := List.length_pos_iff.2 hp0
    have hk1 := tmod_bd (a := (k : Int)) (b := (p.length : Nat)) (by omega) (by omega)
    repeat (first | refine sc rfl ?_ | refine so rfl ?_ | refine sb rfl ?_)
    refine ⟨by first | omega | (simp only []; omega), ?_⟩
    repeat (first | refine sc rfl ?_ | refine so rfl ?_ | refine sb rfl ?_)
    refine ⟨hk1, ?_⟩
    repeat (first | refine sc rfl ?_ | refine so rfl ?_ | refine sb rfl ?_)
    refine ⟨by decide, ?_⟩
    repeat (first | refine sc rfl ?_ | refine so rfl ?_ | refine sb rfl ?_)
    obtain ⟨P, hP0, hP1, hP⟩ := pick_bd (p.getD ((k : Int).tmod (p.length : Nat)).toNat default)
    rw [hP]
    have hf1 := tmod_bd (a := P) (b := ((qs.length : Nat) : Int)) hP0 (by omega)
    obtain ⟨fi, hfi⟩ : ∃ fi : Nat, P.tmod ((qs.length : Nat) : Int) = (fi : Nat) := ⟨(P.tmod ((qs.length : Nat) : Int)).toNat, by omega⟩
    rw [hfi] at hf1
    have hfm : fi < m := by omega
    refine ⟨by omega, ?_⟩
    refine so rfl ?_
    refine so rfl ?_
    refine so rfl ?_
    refine sc rfl ?_
    rw [hfi, w64 (x := (fi : Int) + 1) (by omega) (by omega)]
    refine C_joinE (fun q : Cfg × FM × List Nat × List Wt => ⟨[(1, SL 1 INT p), (2, I64 (Nn : Nat)), (7, PT bR 0), (8, SL 1 INT qs), (11, .own 118), (12, I64 (k : Nat))],
      [VEC 118 33 4 Wt.cells q.2.2.2, .abs (ringA bR mo q.1.hr), .abs (mpA mo (mkEs 0 bs)), .abs (flA q.1.fs), .abs (rwA q.1.hr q.1.ps), .abs (packA q.1.C)]⟩)
      (fun q => Ok2 m qs bs k (k + 1) q.1 q.2.1 q.2.2.1 q.2.2.2) ?_ ?_
    · obtain ⟨fo, hf, e1, e2, e3, e4, e5, e6⟩ := hO.mem.at_ fi hfm
      have hlk := Mem.look (c := c) (fl := fl) (row := row) (m := m) hO.bs hf
      refine C_know 5 (fo.hn = (fl fi).cs.length) rfl (fun G w hok _ => ?_) (fun hhn => ?_)
      · have := hok _ (List.mem_of_getElem? e6)
        rcases slO_shape this with ⟨h1, h2⟩ | ⟨g, o, mm, cc, h1, h2, _⟩
        · simp only [FS.h, Value.slice.injEq] at h1
          rw [h1.2.1]; have : (fl fi).cs = [] := by simpa using h2
          rw [this]; rfl
        · simp only [FS.h, Value.slice.injEq] at h1
          rw [h1.2.1]; simpa using h2.symm
      repeat (first | refine sc rfl ?_ | refine so rfl ?_ | refine sb rfl ?_)
      refine ⟨by decide, ?_⟩
      repeat (first | refine sc rfl ?_ | refine so rfl ?_ | refine sb rfl ?_)
      have hO' : Ok2 m qs bs k (k + 1) c fl row W := { hO with wl := by have := hO.wl; omega }
      refine O_case 88 rfl (fun g1 => ?_) (fun g1 => ?_)
      · repeat (first | refine sc rfl ?_ | refine so rfl ?_ | refine sb rfl ?_)
        refine O_callA [1, 1, 1] (Waits_A ((fi : Int) + 1) hf hlk) (by rfl) (by rfl) (by rfl) (by rfl) (by rfl) ?_
        rintro r cs' ⟨rfl, rfl⟩
        repeat (first | refine sc rfl ?_ | refine so rfl ?_ | refine sb rfl ?_)
        refine C_if rfl (fun g2 => ?_) (fun g2 => ?_) <;> simp only [decide_eq_true_eq, decide_eq_false_iff_not] at g2
        · repeat (first | refine sc rfl ?_ | refine so rfl ?_ | refine sb rfl ?_)
          refine ⟨by decide, ?_⟩
          repeat (first | refine sc rfl ?_ | refine so rfl ?_ | refine sb rfl ?_)
          refine ⟨by decide, ?_⟩
          repeat (first | refine sc rfl ?_ | refine so rfl ?_ | refine sb rfl ?_)
          have hc1 := tmod_bd (a := P / 16) (b := 1025) (Int.ediv_nonneg hP0 (by decide)) (by decide)
          rw [quo64 hP0 (by decide) (by omega), w64 (x := 16 + (P / 16).tmod 1025) (by omega) (by omega)]
          have hcb : 16 ≤ 16 + (P / 16).tmod 1025 ∧ 16 + (P / 16).tmod 1025 ≤ 1040 := by omega
          generalize 16 + (P / 16).tmod 1025 = c0 at hcb ⊢
          have hcost := hO.win.inv.cost fi hfm
          have hkn := hO.mem.known (fun i hi => hO.win.inv.lt hi)
          have hpl2 : c.ps.length ≤ 8 := by
            rw [hO.mem.row, List.length_map]
            have := len_le hO.win.inv.nd (fun x hx => hO.win.inv.lt hx)
            omega
          refine O_le _ (Le.unpackAt 5 e6 rfl) ?_
          refine O_callA [2, 2, 2, 0, 2] (Push_B (k := (fi : Int) + 1) (cs := (fl fi).cs) (c := c0) hf hlk hO.mem.nd hkn (by omega) e5 (by omega) (by omega)) (by rfl) (by rfl) (by rfl) (by rfl) (by rfl) ?_
          rintro r cs' ⟨rfl, f1, hr', ps', g2', o2, rfl, hb1, hnum1, hq1, hre1, hha, hcase⟩
          repeat (first | refine sc rfl ?_ | refine so rfl ?_ | refine sb rfl ?_)
          refine C_false rfl rfl ?_
          repeat (first | refine sc rfl ?_ | refine so rfl ?_ | refine sb rfl ?_)
          have hf1i := set_get (f' := f1) hf
          have hlk1 : lookE ((fi : Int) + 1) (mkEs 0 bs) = some (PT f1.b 0) := by rw [hb1]; exact hlk
          have hbx : ∀ x ∈ (fl fi).cs ++ [c0], 0 ≤ x ∧ x ≤ 1000000 := fun x hx => by
            rcases List.mem_append.1 hx with h | h
            · have := hcost x h; omega
            · simp only [List.mem_singleton] at h; subst h; omega
          have hsr : ∀ i, i < 1 → (chunkRow 4 (Wt.cells (⟨fi, c0, 0, most (isum ((fl fi).cs ++ [c0])) (qs.getD (fi : Int).toNat default) qs⟩ : Wt)) i).length = 4 := fun i h => by
            obtain rfl : i = 0 := by omega
            rfl
          refine C_drawU 20 15 rfl (by kernel_rfl) (by kernel_rfl) (by kernel_rfl) ?_
          refine sd rfl ?_
          refine sd rfl ?_
          refine sd rfl ?_
          refine sd rfl ?_
          refine sd rfl ?_
          refine D_callA [0, 0, 0, 0] (Cost_A (k := (fi : Int) + 1) hha hf1i hlk1 hbx (by simp; omega)) rfl rfl rfl rfl rfl ?_
          refine sd rfl ?_
          refine sd rfl ?_
          refine sd rfl ?_
          rw [w64 (x := (fi : Int) + 1 - 1) (by omega) (by omega), show (fi : Int) + 1 - 1 = (fi : Int) by omega]
          refine sd rfl ⟨by omega, ?_⟩
          refine sd rfl ?_
          refine sd rfl ?_
          refine D_call (Most_c _ _ _) rfl rfl rfl rfl ?_
          refine sdb rfl ?_
          refine sds rfl ?_
          refine sd rfl ?_
          refine O_append (m3 := (W ++ [(⟨fi, c0, 0, most (isum ((fl fi).cs ++ [c0])) (qs.getD (fi : Int).toNat default) qs⟩ : Wt)]).length) (row3 := fun i => Wt.cells ((W ++ [(⟨fi, c0, 0, most (isum ((fl fi).cs ++ [c0])) (qs.getD (fi : Int).toNat default) qs⟩ : Wt)]).getD i default)) (m2 := 1) (row2 := chunkRow 4 (Wt.cells (⟨fi, c0, 0, most (isum ((fl fi).cs ++ [c0])) (qs.getD (fi : Int).toNat default) qs⟩ : Wt))) (s2 := [(1, SL 1 INT p), (2, I64 (Nn : Nat)), (7, PT bR 0), (8, SL 1 INT qs), (12, I64 (k : Nat))]) rfl rfl rfl rfl rfl (src_sl rfl hsr) rfl ⟨rfl, rfl, rfl, rfl, rfl, trivial⟩ rfl rfl ?_ ?_ (by simp) ?_ ?_
          · have := hO.wl; simp; omega
          · have := hO.wl; simp [maxLen]; omega
          · intro i hi
            simp only [List.length_append, List.length_singleton] at hi
            unfold appRow
            by_cases h : i < W.length
            · rw [if_pos h]; simp only [getD_snoc_lt h]
            · rw [if_neg h]
              obtain rfl : i = W.length := by omega
              rw [Nat.sub_self]
              simp only [getD_snoc_eq]
              rfl
          repeat (first | refine sc rfl ?_ | refine so rfl ?_ | refine sb rfl ?_)
          exact ⟨(⟨hr', ps', c.fs.set fi f1, c.C.set fi (csA f1 ((fl fi).cs ++ [c0]))⟩, pushF fl fi c0, pushR fl row fi, W ++ [(⟨fi, c0, 0, most (isum ((fl fi).cs ++ [c0])) (qs.getD (fi : Int).toNat default) qs⟩ : Wt)]), hO.push hfm hf hb1 hnum1 hq1 hre1 hcase hcb (by omega) hql hq (by omega), (Le.packAt 4 5 e6 rfl).trans (Le.pick [1, 1, 1, 1, 1, 0] ⟨rfl, rfl, rfl, rfl, rfl, rfl, trivial⟩ rfl)⟩
        · repeat (first | refine sc rfl ?_ | refine so rfl ?_ | refine sb rfl ?_)
          exact ⟨(c, fl, row, W), hO', Le.pick [3, 0, 0, 0, 0, 0] ⟨rfl, rfl, rfl, rfl, rfl, rfl, trivial⟩ rfl⟩
      · repeat (first | refine sc rfl ?_ | refine so rfl ?_ | refine sb rfl ?_)
        refine C_false rfl rfl ?_
        repeat (first | refine sc rfl ?_ | refine so rfl ?_ | refine sb rfl ?_)
        exact ⟨(c, fl, row, W), hO', Le.pick [0, 0, 0, 0, 0, 0] ⟨rfl, rfl, rfl, rfl, rfl, rfl, trivial⟩ rfl⟩
    · rintro ⟨c2, fl2, row2, W2⟩ s hO2 hle
      simp only [] at hO2
      refine C_le _ hle ?_
      repeat (first | refine sc rfl ?_ | refine so rfl ?_ | refine sb rfl ?_)
      refine O_callA [1, 3, 2, 2] (Turn_A hO2.mem hO2.win.inv (by omega)) (by rfl) (by rfl) (by rfl) (by rfl) (by rfl) ?_
      rintro r cs' (⟨rfl, rfl, c', rfl, hM', hB'⟩ | ⟨fl1, f, gs, c0, csr, c', hR, hc, hcr, rfl, rfl, hM', hB'⟩)
      · obtain rfl : W2 = [] := hO2.win.empty.1 rfl
        repeat (first | refine sc rfl ?_ | refine so rfl ?_ | refine sb rfl ?_)
        refine C_false rfl rfl ?_
        repeat (first | refine sc rfl ?_ | refine so rfl ?_ | refine sb rfl ?_)
        refine C_loop (fun _ : Unit => ⟨[(1, SL 1 INT p), (2, I64 (Nn : Nat)), (7, PT bR 0), (8, SL 1 INT qs), (11, .own 118), (12, I64 (k : Nat)), (17, B false), (18, I64 (-1)), (19, I64 0)], [.abs (ringA bR mo c'.hr), .abs (rwA c'.hr c'.ps), .abs (flA c'.fs), .abs (packA c'.C), VEC 118 33 4 Wt.cells [], .abs (mpA mo (mkEs 0 bs))]⟩) (fun _ => True) (fun _ => 0) () trivial (Le.pick [0, 0, 0, 0, 0, 0] ⟨rfl, rfl, rfl, rfl, rfl, rfl, rfl, rfl, rfl, trivial⟩ rfl) ?_
        rintro _ _
        repeat (first | refine sc rfl ?_ | refine so rfl ?_ | refine sb rfl ?_)
        refine C_false rfl rfl ?_
        repeat (first | refine sc rfl ?_ | refine so rfl ?_ | refine sb rfl ?_)
        refine C_true rfl rfl ?_
        repeat (first | refine sc rfl ?_ | refine so rfl ?_ | refine sb rfl ?_)
        rw [w64 (x := (k : Int) + 1) (by omega) (by omega)]
        exact ⟨(k + 1, c', fl2, [], []), ⟨by simp only []; omega, ⟨hM', hO2.win, Nat.zero_le _, hO2.q, fun w hw => absurd hw (by simp), hO2.cl, hB'.trans hO2.bs⟩⟩, by simp only []; omega, Le.pick [4, 0, 3, 1, 0, 0] ⟨rfl, rfl, rfl, rfl, rfl, rfl, trivial⟩ rfl⟩
      · have hW1 : WInv fl1 (f :: gs) m W2 := by
          rcases hR with ⟨rfl, h2⟩ | ⟨g, gs0, c1, cs1, h1, h2, rfl, h3, h4, h6⟩
          · rw [h2]; exact hO2.win
          · rw [h2]
            have h7 := hO2.win
            rw [h1] at h7
            exact h7.rot h3 h4 h6
        have hfm2 : f < m := hW1.inv.lt (by simp)
        obtain ⟨A, w0, Bs, e, hA, hwf, hwc⟩ := first_of (f := f) (W := W2) (by rw [← hW1.cs f hfm2, hc])
        obtain ⟨hmost, hW'⟩ := hW1.serve hc hcr e hA hwf hwc
        have hO3 := hO2.turn hR hc hW' e hM' (hB'.trans hO2.bs)
        have hAl : A.length < W2.length := by rw [e]; simp
        have hwl := hO2.wl
        repeat (first | refine sc rfl ?_ | refine so rfl ?_ | refine sb rfl ?_)
        refine C_false rfl (by simp; omega) ?_
        repeat (first | refine sc rfl ?_ | refine so rfl ?_ | refine sb rfl ?_)
        refine C_loop (fun i : Nat => ⟨[(1, SL 1 INT p), (2, I64 (Nn : Nat)), (7, PT bR 0), (8, SL 1 INT qs), (11, .own 118), (12, I64 (k : Nat)), (14, I64 (f + 1 : Nat)), (16, I64 c0), (17, B true), (18, I64 (if i ≤ A.length then -1 else (A.length : Nat))), (19, I64 (i : Nat))], [.abs (ringA bR mo c'.hr), .abs (rwA c'.hr c'.ps), .abs (flA c'.fs), .abs (packA c'.C), VEC 118 33 4 Wt.cells (incs W2 i), .abs (mpA mo (mkEs 0 bs))]⟩) (fun i => i ≤ W2.length) (fun i => W2.length - i) 0 (Nat.zero_le _) ?_ ?_
        · rw [incs_zero, if_pos (Nat.zero_le _)]
          exact Le.pick [0, 0, 0, 0, 0, 0] ⟨rfl, rfl, rfl, rfl, rfl, rfl, rfl, rfl, rfl, rfl, rfl, trivial⟩ rfl
        intro i hi2
        repeat (first | refine sc rfl ?_ | refine so rfl ?_ | refine sb rfl ?_)
        refine C_if rfl (fun h7 => ?_) (fun h7 => ?_) <;> simp only [decide_eq_true_eq, decide_eq_false_iff_not, incs_len] at h7
        · have hil : i < W2.length := by omega
          have hg : (incs W2 i).getD (i : Int).toNat default = W2[i] := incs_getD W2 i hil
          have htb := hO2.t _ (List.getElem_mem hil)
          repeat (first | refine sc rfl ?_ | refine so rfl ?_ | refine sb rfl ?_)
          refine ⟨by rw [incs_len]; omega, ?_⟩
          repeat (first | refine sc rfl ?_ | refine so rfl ?_ | refine sb rfl ?_)
          refine ⟨by rw [incs_len]; omega, ?_⟩
          repeat (first | refine sc rfl ?_ | refine so rfl ?_ | refine sb rfl ?_)
          refine ⟨by rw [incs_len]; omega, ?_⟩
          repeat (first | refine sc rfl ?_ | refine so rfl ?_ | refine sb rfl ?_)
          rw [hg, w64 (x := W2[i].t + 1) (by omega) (by omega)]
          refine O_storeE (q := i) (j := 2) (row' := fun j => Wt.cells ((incs W2 (i + 1)).getD j default)) rfl rfl rfl rfl rfl rfl (by rw [incs_len]; omega) (by decide) (fun j hj => ?_) ?_
          · rw [incs_succ W2 i hil]
            rw [incs_len] at hj
            have hg2 : (incs W2 i).getD i default = W2[i] := hg
            by_cases hji : j = i
            · subst hji
              rw [if_pos rfl, hg2, List.getD_eq_getElem?_getD, List.getElem?_set, if_pos rfl, if_pos (by rw [incs_len]; omega)]
              rfl
            · rw [if_neg hji, List.getD_eq_getElem?_getD, List.getElem?_set, if_neg (Ne.symm hji), List.getD_eq_getElem?_getD]
          rw [show (incs W2 i).length = (incs W2 (i + 1)).length by rw [incs_len, incs_len]]
          refine so rfl ?_
          have hg3 : (incs W2 (i + 1)).getD (i : Int).toNat default = inc W2[i] := incs_getD2 W2 i hil
          refine sc rfl ?_
          refine C_join ⟨[(1, SL 1 INT p), (2, I64 (Nn : Nat)), (7, PT bR 0), (8, SL 1 INT qs), (11, .own 118), (12, I64 (k : Nat)), (14, I64 (f + 1 : Nat)), (16, I64 c0), (17, B true), (18, I64 (if i + 1 ≤ A.length then -1 else (A.length : Nat))), (19, I64 (i : Nat))], [.abs (ringA bR mo c'.hr), .abs (rwA c'.hr c'.ps), .abs (flA c'.fs), .abs (packA c'.C), VEC 118 33 4 Wt.cells (incs W2 (i + 1)), .abs (mpA mo (mkEs 0 bs))]⟩ ?_ (fun s hs => ?_)
          · repeat (first | refine sc rfl ?_ | refine so rfl ?_ | refine sb rfl ?_)
            rcases Nat.lt_trichotomy i A.length with h8 | h8 | h8
            · rw [if_pos (by omega), if_pos (by omega)]
              refine O_true 146 rfl (by decide) ?_
              repeat (first | refine sc rfl ?_ | refine so rfl ?_ | refine sb rfl ?_)
              refine ⟨by rw [incs_len]; omega, ?_⟩
              repeat (first | refine sc rfl ?_ | refine so rfl ?_ | refine sb rfl ?_)
              refine ⟨by rw [incs_len]; omega, ?_⟩
              repeat (first | refine sc rfl ?_ | refine so rfl ?_ | refine sb rfl ?_)
              refine C_false rfl ?_ ?_
              · rw [hg3]
                have : W2[i] ∈ A := by
                  have h9 : W2[i] = A[i] := by simp only [e]; rw [List.getElem_append_left h8]
                  rw [h9]; exact List.getElem_mem _
                have := hA _ this
                simp only [inc, beq_eq_false_iff_ne]; omega
              repeat (first | refine sc rfl ?_ | refine so rfl ?_ | refine sb rfl ?_)
              exact Le.pick [1, 1, 1, 1, 0, 0] ⟨rfl, rfl, rfl, rfl, rfl, rfl, rfl, rfl, rfl, rfl, rfl, trivial⟩ rfl
            · rw [if_pos (by omega), if_neg (by omega)]
              refine O_true 146 rfl (by decide) ?_
              repeat (first | refine sc rfl ?_ | refine so rfl ?_ | refine sb rfl ?_)
              refine ⟨by rw [incs_len]; omega, ?_⟩
              repeat (first | refine sc rfl ?_ | refine so rfl ?_ | refine sb rfl ?_)
              refine ⟨by rw [incs_len]; omega, ?_⟩
              repeat (first | refine sc rfl ?_ | refine so rfl ?_ | refine sb rfl ?_)
              refine C_true rfl ?_ ?_
              · rw [hg3]
                have h9 : W2[i] = w0 := by
                  simp only [e]
                  rw [List.getElem_append_right (by omega)]
                  simp [h8]
                rw [h9]
                simp only [inc, beq_iff_eq, hwf]
              repeat (first | refine sc rfl ?_ | refine so rfl ?_ | refine sb rfl ?_)
              rw [← h8]
              exact Le.pick [1, 1, 1, 1, 0, 0] ⟨rfl, rfl, rfl, rfl, rfl, rfl, rfl, rfl, rfl, rfl, rfl, trivial⟩ rfl
            · rw [if_neg (by omega), if_neg (by omega)]
              refine O_false 146 rfl (by simp) ?_
              repeat (first | refine sc rfl ?_ | refine so rfl ?_ | refine sb rfl ?_)
              refine C_false rfl rfl ?_
              repeat (first | refine sc rfl ?_ | refine so rfl ?_ | refine sb rfl ?_)
              exact Le.pick [1, 1, 1, 1, 0, 0] ⟨rfl, rfl, rfl, rfl, rfl, rfl, rfl, rfl, rfl, rfl, rfl, trivial⟩ rfl
          · refine C_le _ hs ?_
            repeat (first | refine sc rfl ?_ | refine so rfl ?_ | refine sb rfl ?_)
            refine C_drawX P2 (fun _ => [.abs (ringA bR mo c'.hr), .abs (rwA c'.hr c'.ps), .abs (flA c'.fs), .abs (packA c'.C), VEC 118 33 4 Wt.cells (incs W2 (i + 1)), .abs (mpA mo (mkEs 0 bs))]) rfl rfl (by decide) rfl ?_
            refine sxm 0 rfl ⟨trivial, ?_⟩
            refine sxm 0 rfl ⟨trivial, ?_⟩
            refine sxm 0 rfl ⟨by rw [incs_len]; omega, ?_⟩
            refine sxm 0 rfl ⟨trivial, ?_⟩
            refine sxm 0 rfl ⟨by rw [incs_len]; omega, ?_⟩
            refine sxm 0 rfl ⟨trivial, ?_⟩
            refine sxm 0 rfl ⟨trivial, ?_⟩
            refine sxm 0 rfl ⟨by rw [incs_len]; omega, ?_⟩
            refine sxm 0 rfl ⟨trivial, ?_⟩
            refine sxm 0 rfl ⟨by rw [incs_len]; omega, ?_⟩
            refine sxm 0 rfl ⟨trivial, ?_⟩
            refine sx rfl ?_
            repeat (first | refine sc rfl ?_ | refine so rfl ?_ | refine sb rfl ?_)
            refine C_false rfl ?_ ?_
            · rw [hg3]
              have h11 := hmost _ (List.getElem_mem hil)
              have h12 : (inc W2[i]).t = W2[i].t + 1 := rfl
              have h13 : (inc W2[i]).most = W2[i].most := rfl
              rw [h12, h13]
              exact decide_eq_false (by omega)
            repeat (first | refine sc rfl ?_ | refine so rfl ?_ | refine sb rfl ?_)
            rw [w64 (x := (i : Int) + 1) (by omega) (by omega)]
            exact ⟨i + 1, by omega, by omega, Le.pick [0, 0, 0, 0, 0, 0] ⟨rfl, rfl, rfl, rfl, rfl, rfl, rfl, rfl, rfl, rfl, rfl, trivial⟩ rfl⟩
        · have hi2 : i ≤ W2.length := hi2
          obtain rfl : i = W2.length := by omega
          rw [incs_all, if_neg (show ¬ W2.length ≤ A.length by omega)]
          repeat (first | refine sc rfl ?_ | refine so rfl ?_ | refine sb rfl ?_)
          refine C_false rfl rfl ?_
          repeat (first | refine sc rfl ?_ | refine so rfl ?_ | refine sb rfl ?_)
          refine ⟨by simp; omega, ?_⟩
          repeat (first | refine sc rfl ?_ | refine so rfl ?_ | refine sb rfl ?_)
          refine ⟨by simp; omega, ?_⟩
          repeat (first | refine sc rfl ?_ | refine so rfl ?_ | refine sb rfl ?_)
          have hgA : ((W2.map inc).getD (A.length : Int).toNat default).c = c0 := by
            rw [List.getD_eq_getElem?_getD, Int.toNat_natCast, e]
            simp [inc, hwc]
          refine C_false rfl ?_ ?_
          · rw [hgA]; simp
          repeat (first | refine sc rfl ?_ | refine so rfl ?_ | refine sb rfl ?_)
          refine C_absv 11 rfl rfl (fun h9 => absurd h9 (by rw [List.length_map]; omega)) (fun g cc => ?_)
          refine C_know 0 ((W2.map inc).length ≤ cc) rfl (fun G w hok _ => ?_) (fun hmc => ?_)
          · obtain ⟨xs, h1, _⟩ := hok
            rcases h1.2 with ⟨h2, _⟩ | ⟨g', cap, cur, h2, _, _, h3, _⟩
            · cases h2
            · simp only [HD, Value.slice.injEq] at h2
              rw [h2.2.2]; exact h3
          have hWl : (W2.map inc).length = A.length + Bs.length + 1 := by rw [List.length_map, e]; simp; omega
          have hB : (W2.map inc).length - (A.length + 1) = Bs.length := by omega
          refine C_drawU 20 7 rfl (by kernel_rfl) (by kernel_rfl) (by kernel_rfl) ?_
          refine sd rfl ?_
          refine sd rfl ?_
          refine D_X (.v (HO g 0 A.length cc)) (X_sliceTo rfl rfl rfl rfl rfl rfl (by omega) hmc) ?_
          refine sd rfl ?_
          refine sd rfl ?_
          refine sd rfl ?_
          rw [w64 (x := (A.length : Int) + 1) (by omega) (by omega)]
          refine D_X _ (X_sliceFrom (i := A.length + 1) rfl rfl rfl rfl rfl rfl (by omega) hmc hB) ?_
          refine sd rfl ?_
          refine O_Xd (X_strike 0 (at_ := A.length) (k := Bs.length) (row' := fun j => Wt.cells (((A ++ Bs).map inc).getD j default)) rfl rfl rfl rfl rfl rfl rfl (by omega) ?_ (fun j hj => ?_)) ?_
          · by_cases hz : Bs.length = 0
            · exact .inl hz
            · right; rw [if_neg (by omega), Nat.zero_add]
          · have hgg : ∀ (L : List Wt) (q : Nat), L.getD q default = (L[q]?).getD default := fun L q => List.getD_eq_getElem?_getD
            have : ((A ++ Bs).map inc).getD j default = if j < A.length then (W2.map inc).getD j default else (W2.map inc).getD (j + 1) default := by
              rw [hgg, hgg, hgg, e, List.map_append, List.map_append, List.map_cons]
              by_cases hja : j < A.length
              · rw [if_pos hja, List.getElem?_append_left (by simpa using hja), List.getElem?_append_left (by simpa using hja)]
              · rw [if_neg hja, List.getElem?_append_right (by simp; omega), List.getElem?_append_right (by simp; omega)]
                simp only [List.length_map]
                rw [show j + 1 - A.length = (j - A.length) + 1 by omega, List.getElem?_cons_succ]
            rw [this]
            split <;> rfl
          repeat (first | refine sc rfl ?_ | refine so rfl ?_ | refine sb rfl ?_)
          rw [w64 (x := (k : Int) + 1) (by omega) (by omega)]
          refine ⟨(k + 1, c', srvF fl1 f c0 csr, srvR f gs csr, (A ++ Bs).map inc), ⟨by simp only []; omega, hO3⟩, by simp only []; omega, ?_⟩
          refine (Le.pick (s2 := [(1, SL 1 INT p), (2, I64 (Nn : Nat)), (7, PT bR 0), (8, SL 1 INT qs), (11, .v (HD g (A.length + Bs.length) cc)), (12, I64 ((k : Int) + 1))]) [0, 0, 0, 0, 0, 0] ⟨rfl, rfl, rfl, rfl, rfl, rfl, trivial⟩ rfl).trans ?_
          refine (Le.ownv 11 0 118 rfl rfl rfl rfl).trans ?_
          rw [show A.length + Bs.length = ((A ++ Bs).map inc).length by simp]
          exact Le.pick [0, 0, 3, 1, 0, 0] ⟨rfl, rfl, rfl, rfl, rfl, rfl, trivial⟩ rfl
  · repeat (first | refine sc rfl ?_ | refine so rfl ?_ | refine sb rfl ?_)
    refine O_call awake46_c (by rfl) (by rfl) (by rfl) (by rfl) (fun r hr => ?_)
    subst hr
    repeat (first | refine sc rfl ?_ | refine so rfl ?_ | refine sb rfl ?_)
    exact ⟨_, rfl, rfl, rfl⟩
end Go.Proofs
