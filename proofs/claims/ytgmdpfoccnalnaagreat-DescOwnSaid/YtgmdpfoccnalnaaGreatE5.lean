/- The symbolic walk, part 33: regions whose order is drawn at first, and fixed from some operation on. -/
import Derived.Test.YtgmdpfoccnalnaaGreatE4
import Derived.ArgAppend
set_option linter.unusedSimpArgs false
set_option linter.unusedVariables false
namespace Go.Sy
open Go.RowKit

section
variable {P : Program} {T : Tab} {X : Ctx P T} {n : Nat} {e : Env} {st : St} {a : Act} {w : World} {ops : Array Oper} {K : St → Prop}

/-- Which operations an operation waits for. -/
def predsB (ops : Array Oper) (i : Nat) : List Nat := match ops.toList[i]? with
  | none => []
  | some o => (o.after.toList.filter (fun e => Region.binds .any e)).map (·.on)
def ancsB (ops : Array Oper) : Nat → Nat → List Nat
  | 0, _ => []
  | f + 1, i => (predsB ops i).flatMap (fun j => j :: ancsB ops f j)
/-- From operation m on each waits for all that are ahead of it. -/
def tailB (ops : Array Oper) (f m : Nat) : Bool :=
  Nat.blt m ops.toList.length && (List.range m).all (fun j => (ancsB ops f m).contains j) && (List.range (ops.toList.length - m - 1)).all (fun k => (predsB ops (m + 1 + k)).contains (m + k))

theorem mem_preds {i j : Nat} (h : j ∈ predsB ops i) : ∃ o, ops[i]? = some o ∧ ∃ e ∈ o.after, Region.binds .any e = true ∧ e.on = j := by
  unfold predsB at h
  split at h
  · cases h
  · rename_i o ho
    simp only [List.mem_map, List.mem_filter] at h
    obtain ⟨e, ⟨h1, h2⟩, h3⟩ := h
    exact ⟨o, by simpa using ho, e, by simpa using h1, h2, h3⟩

/-- All that is listed has what it waits for listed. -/
def ClosedL (ops : Array Oper) (listed : Array Bool) : Prop := ∀ j o, listed.getD j false = true → ops[j]? = some o → ∀ e ∈ o.after, Region.binds .any e = true → listed.getD e.on false = true

theorem ancs_listed {listed : Array Bool} (hc : ClosedL ops listed) : ∀ (f i : Nat), (∀ j ∈ predsB ops i, listed.getD j false = true) → ∀ j ∈ ancsB ops f i, listed.getD j false = true
  | 0, _, _, j, h => by cases h
  | f + 1, i, hp, j, h => by
    simp only [ancsB, List.mem_flatMap, List.mem_cons] at h
    obtain ⟨k, hk, h⟩ := h
    rcases h with rfl | h
    · exact hp _ hk
    · refine ancs_listed hc f k (fun q hq => ?_) j h
      obtain ⟨o, ho, e, he, hb, rfl⟩ := mem_preds hq
      exact hc k o (hp k hk) ho e he hb

theorem any_tail {Q : Exit → Act → World → Prop} {m f : Nat} (ht : tailB ops f m = true) (hedge : ∀ i o, ops[i]? = some o → ∀ e ∈ o.after, Region.binds .any e = true → e.on < i) : ∀ (fuel i : Nat) (listed : Array Bool) (a : Act) (w : World), fuel + i = ops.size → m ≤ i → listed.size = ops.size →
    (∀ j, j < ops.size → (listed.getD j false = true ↔ j < i)) → wpList P ops Q (ops.toList.drop i) a w → wpAny P .any ops Q fuel listed a w := by
  have ht' := ht
  unfold tailB at ht'
  simp only [Bool.and_eq_true, List.all_eq_true, List.mem_range, Array.length_toList] at ht'
  obtain ⟨⟨hm, _⟩, hch⟩ := ht'
  intro fuel
  induction fuel with
  | zero =>
    intro i listed a w hf hi hsz hl hw
    have hi' : i = ops.size := by omega
    subst hi'
    refine ⟨?_, ?_⟩
    · cases hr : Region.ready .any ops listed with
      | nil => rfl
      | cons j js =>
        exfalso
        have hmem : j ∈ Region.ready .any ops listed := by rw [hr]; simp
        rw [mem_ready] at hmem
        obtain ⟨h0, o, ho, _⟩ := hmem
        have hlt : j < ops.size := (Array.getElem?_eq_some_iff.1 ho).1
        have := (hl j hlt).2 hlt
        have hls : j < listed.size := by omega
        simp [hls] at h0 this
        rw [h0] at this; cases this
    · rw [List.drop_eq_nil_of_le (by simp)] at hw
      simpa [wpList] using hw
  | succ fuel ih =>
    intro i listed a w hf hi hsz hl hw
    have hil : i < ops.size := by omega
    have hready : ∀ j ∈ Region.ready .any ops listed, j = i := by
      intro j hj
      rw [mem_ready] at hj
      obtain ⟨h0, o, ho, hp⟩ := hj
      have hlt : j < ops.size := (Array.getElem?_eq_some_iff.1 ho).1
      have hls : j < listed.size := by omega
      have hge : i ≤ j := by
        rcases Nat.lt_or_ge j i with h | h
        · have := (hl j hlt).2 h
          simp [hls] at h0 this
          rw [h0] at this; cases this
        · exact h
      rcases Nat.eq_or_lt_of_le hge with h | h
      · exact h.symm
      · exfalso
        have hc := hch (j - m - 1) (by omega)
        rw [show m + 1 + (j - m - 1) = j by omega, show m + (j - m - 1) = j - 1 by omega, List.contains_iff_mem] at hc
        obtain ⟨o', ho', e, he, hb, hon⟩ := mem_preds hc
        rw [ho] at ho'
        cases ho'
        have := hp e he hb
        rw [hon] at this
        have := (hl (j - 1) (by omega)).1 this
        omega
    have hlen : i < ops.toList.length := by simpa using hil
    rw [List.drop_eq_getElem_cons hlen] at hw
    have hoi : ops[i]? = some (ops.toList[i]) := by simp [hil]
    refine ⟨fun hr => ?_, fun j hj => ?_⟩
    · exfalso
      have hmem : i ∈ Region.ready .any ops listed := by
        rw [mem_ready]
        have hls : i < listed.size := by omega
        refine ⟨?_, _, hoi, fun e he hb => ?_⟩
        · cases h : listed.getD i false with
          | true => exact absurd ((hl i hil).1 h) (Nat.lt_irrefl _)
          | false => simp [hls] at h ⊢; exact h
        · have h1 := hedge i _ hoi e he hb
          exact (hl e.on (by omega)).2 h1
      rw [hr] at hmem; cases hmem
    · obtain rfl := hready j hj
      have hnext : ∀ a w, wpList P ops Q (ops.toList.drop (j + 1)) a w → wpAny P .any ops Q fuel (listed.setIfInBounds j true) a w := fun a w hw => by
        refine ih (j + 1) _ a w (by omega) (by omega) (by simpa using hsz) (fun k hk => ?_) hw
        by_cases hkj : k = j
        · subst hkj
          have hls : k < listed.size := by omega
          simp [hls]
        · rw [getD_set_ne false (Ne.symm hkj), hl k hk]
          omega
      unfold wpOp
      rw [hoi]
      simp only [wpList] at hw ⊢
      split
      · rename_i hwt
        rw [if_pos hwt] at hw
        exact hw.imp (Oper.wp_mono hnext) id
      · rename_i hwt
        rw [if_neg hwt] at hw
        exact hnext _ _ hw

theorem any_of_DT {base : List (Nat × AV)} {c : List Ch} {D : Done} {Q : Exit → Act → World → Prop} {m f : Nat} (ht : tailB ops f m = true) (hD : D.length = m)
    (hstep : ∀ i o, i < m → ops[i]? = some o → ∃ x, D[i]? = some (o.dst, x) ∧ StepD X n ops (availL (D.take i) o.after.toList base) c o x)
    (hedge : ∀ i o, ops[i]? = some o → ∀ e ∈ o.after, Region.binds .any e = true → e.on < i)
    (hdist : ∀ (i j : Nat) o o' d, ops[i]? = some o → ops[j]? = some o' → o.dst = some d → o'.dst = some d → i = j)
    (hbase : ∀ (i : Nat) o d, ops[i]? = some o → o.dst = some d → get base d = none)
    (hfin : ∀ e a w, Rel X n e ⟨finS base D, c⟩ a w → wpList P ops Q (ops.toList.drop m) a w) :
    ∀ (fuel : Nat) (listed : Array Bool) (a : Act) (w : World) (e : Env) (S : List (Nat × AV)), listed.size = ops.size → listed.toList.count false = fuel → Rel X n e ⟨S, c⟩ a w →
      (∀ j, m ≤ j → listed.getD j false = false) → ClosedL ops listed →
      (∀ k y, get base k = some y → get S k = some y) → (∀ (i : Nat) d x, listed.getD i false = true → D[i]? = some (some d, x) → get S d = some x) →
      wpAny P .any ops Q fuel listed a w := by
  have ht' := ht
  unfold tailB at ht'
  simp only [Bool.and_eq_true, List.all_eq_true, List.mem_range, Array.length_toList] at ht'
  obtain ⟨⟨hm, hcov⟩, hch⟩ := ht'
  have hm' : m < ops.size := by have h := hm; simp [Nat.blt] at h; omega
  have cnt : ∀ (l : List Bool) (k : Nat), k ≤ l.length → (∀ j, j < l.length → (l[j]? = some true ↔ j < k)) → l.count false + k = l.length := by
    intro l
    induction l with
    | nil => intro k hk _; simp at hk; simp [hk]
    | cons b l ih =>
      intro k hk h
      cases k with
      | zero =>
        have hb : b = false := by
          have := h 0 (by simp)
          cases b
          · rfl
          · simp at this
        subst hb
        have := ih 0 (Nat.zero_le _) (fun j hj => by have := h (j + 1) (by simpa using hj); simpa using this)
        simp at this ⊢; omega
      | succ k =>
        have hb : b = true := by
          have := h 0 (by simp)
          simpa using this
        subst hb
        have := ih k (by simpa using hk) (fun j hj => by have := h (j + 1) (by simpa using hj); simpa using this)
        simp at this ⊢; omega
  intro fuel
  induction fuel with
  | zero =>
    intro listed a w e S hsz hc r hge hcl hb hs
    exfalso
    have h1 := hge m (Nat.le_refl _)
    have hls : m < listed.size := by omega
    have : false ∈ listed.toList := by
      simp [hls] at h1
      exact List.mem_iff_getElem.2 ⟨m, by simpa using hls, by simpa using h1⟩
    have := List.count_pos_iff.2 this
    omega
  | succ fuel ih =>
    intro listed a w e S hsz hc r hge hcl hb hs
    by_cases hall : ∀ j, j < m → listed.getD j false = true
    · -- all that is drawn is done
      have hlt : ∀ j, j < ops.size → (listed.getD j false = true ↔ j < m) := fun j hj => by
        constructor
        · intro h
          rcases Nat.lt_or_ge j m with h1 | h1
          · exact h1
          · rw [hge j h1] at h; cases h
        · exact hall j
      have hcount : listed.toList.count false + m = ops.size := by
        have := cnt listed.toList m (by simp; omega) (fun j hj => by
          have hjl : j < listed.size := by simpa using hj
          have := hlt j (by omega)
          simp [hjl] at this ⊢
          exact this)
        simpa [hsz] using this
      refine any_tail ht hedge (fuel + 1) m listed a w (by omega) (Nat.le_refl _) hsz hlt ?_
      refine hfin e a w (r.less (fun k y hk => ?_) id)
      rcases finS_get hk with ⟨i, hi⟩ | h
      · have hil : i < D.length := by
          rcases Nat.lt_or_ge i D.length with h | h
          · exact h
          · rw [List.getElem?_eq_none h] at hi; cases hi
        exact hs i k y (hall i (by omega)) hi
      · exact hb k y h
    -- what may come up now is drawn
    have hlow : ∀ i ∈ Region.ready .any ops listed, i < m := by
      intro i hi
      rw [mem_ready] at hi
      obtain ⟨h0, o, ho, hpre⟩ := hi
      rcases Nat.lt_or_ge i m with h | h
      · exact h
      · exfalso
        have hlt : i < ops.size := (Array.getElem?_eq_some_iff.1 ho).1
        rcases Nat.eq_or_lt_of_le h with h | h
        · subst h
          refine hall (fun j hj => ?_)
          have hc := hcov j hj
          rw [List.contains_iff_mem] at hc
          refine ancs_listed hcl f m (fun q hq => ?_) j hc
          obtain ⟨o', ho', ed, he, hbb, rfl⟩ := mem_preds hq
          rw [ho] at ho'; cases ho'
          exact hpre ed he hbb
        · have hc := hch (i - m - 1) (by omega)
          rw [show m + 1 + (i - m - 1) = i by omega, show m + (i - m - 1) = i - 1 by omega, List.contains_iff_mem] at hc
          obtain ⟨o', ho', ed, he, hbb, hon⟩ := mem_preds hc
          rw [ho] at ho'; cases ho'
          have := hpre ed he hbb
          rw [hon, hge (i - 1) (by omega)] at this
          cases this
    refine ⟨fun hr => ?_, fun i hi => ?_⟩
    · exfalso
      refine hall (fun j => ?_)
      induction j using Nat.strongRecOn with
      | ind j ihj =>
        intro hj
        cases hl : listed.getD j true with
        | true =>
          have : j < listed.size := by omega
          simp [this] at hl ⊢
          exact hl
        | false =>
          exfalso
          have hmem : j ∈ Region.ready .any ops listed := by
            rw [mem_ready]
            refine ⟨hl, ops[j], by simp [show j < ops.size by omega], fun e he hbb => ?_⟩
            have h1 := hedge j ops[j] (by simp [show j < ops.size by omega]) e he hbb
            exact ihj e.on h1 (by omega)
          rw [hr] at hmem; cases hmem
    · have him := hlow i hi
      rw [mem_ready] at hi
      obtain ⟨h0, o, ho, hpre⟩ := hi
      have hlt : i < ops.size := (Array.getElem?_eq_some_iff.1 ho).1
      have hlf : listed.toList[i]? = some false := by
        have : i < listed.size := by omega
        simp [this] at h0 ⊢
        exact h0
      obtain ⟨x, hx, hst⟩ := hstep i o him ho
      unfold wpOp
      simp only [ho]
      refine hst e a w S _ Q r (fun k y hk => ?_) (fun e' a' w' r' => ?_)
      · rcases availL_get hk with ⟨ed, h1, h2, h3⟩ | h
        · have h4 : D[ed.on]? = some (some k, y) := by
            rw [List.getElem?_take] at h3
            split at h3
            · exact h3
            · cases h3
          exact hs ed.on k y (hpre ed (by simpa using h1) h2) h4
        · exact hb k y h
      · refine ih (listed.setIfInBounds i true) a' w' e' _ (by simpa using hsz) ?_ r' (fun j hj => ?_) (fun j oj hj hoj ed he hbb => ?_) (fun k y hk => ?_) (fun j d y hj hy => ?_)
        · rw [Array.toList_setIfInBounds]
          have hlt' : i < listed.toList.length := by simpa using (by omega : i < listed.size)
          have hg : listed.toList[i] = false := by
            have := List.getElem?_eq_getElem hlt'
            rw [hlf] at this
            simpa using this.symm
          rw [List.count_set hlt', hg, hc]
          simp
        · rw [getD_set_ne false (by omega : i ≠ j)]
          exact hge j hj
        · by_cases hei : ed.on = i
          · have hls : i < listed.size := by omega
            rw [hei]; simp [hls]
          · rw [getD_set_ne false (Ne.symm hei)]
            by_cases hji : j = i
            · subst hji
              rw [ho] at hoj; cases hoj
              exact hpre ed he hbb
            · rw [getD_set_ne false (Ne.symm hji)] at hj
              exact hcl j oj hj hoj ed he hbb
        · cases hd : o.dst with
          | none => exact hb k y hk
          | some d =>
            simp only [putS]
            rw [get_cons]
            by_cases h : d = k
            · subst h
              rw [hbase i o d ho hd] at hk
              cases hk
            · rw [if_neg h]; exact hb k y hk
        · by_cases hji : j = i
          · subst hji
            rw [hx] at hy
            simp only [Option.some.injEq, Prod.mk.injEq] at hy
            rw [hy.1, hy.2]
            simp only [putS]
            rw [get_cons, if_pos rfl]
          · rw [getD_set_ne false (Ne.symm hji)] at hj
            have hold := hs j d y hj hy
            cases hd : o.dst with
            | none => exact hold
            | some d' =>
              simp only [putS]
              rw [get_cons]
              by_cases h : d' = d
              · exfalso
                subst h
                have hjl : j < m := by
                  rw [← hD]
                  rcases Nat.lt_or_ge j D.length with h | h
                  · exact h
                  · rw [List.getElem?_eq_none h] at hy; cases hy
                obtain ⟨x', hx', _⟩ := hstep j ops[j] hjl (by simp [show j < ops.size by omega])
                rw [hx'] at hy
                simp only [Option.some.injEq, Prod.mk.injEq] at hy
                exact hji (hdist j i ops[j] o d' (by simp [show j < ops.size by omega]) ho hy.1 hd)
              · rw [if_neg h]; exact hold

/-- A region whose first m operations come in any order, calls and all; the rest follows in its order. -/
theorem C_drawT (f m : Nat) {id : Nat} {Q : Exit → St → Prop} {s base : List (Nat × AV)} {c : List Ch} (hb : eraseD ops.toList s = some base) (hchk : chkD base 0 [] ops.toList = true)
    (ht : tailB ops f m = true) (h : SymD X n ops base c (fun s => SymO X n ops (ops.toList.drop m) s (fun s => Q .normal s)) (ops.toList.take m) []) : SymC X n (.region id ops true) ⟨s, c⟩ Q := by
  intro e a w r
  have hbs : ∀ k y, get base k = some y → get s k = some y := fun k y hk => eraseD_get hb hk
  obtain ⟨D, _, hl, hK, hs⟩ := h.plan
  obtain ⟨c1, c2⟩ := chkD_spec hchk
  have hbel : Below w.heap.size w { w with drawn := w.drawn + 1 } := ⟨rfl, rfl, rfl, Nat.le_refl _, fun _ _ => rfl⟩
  have hm : m < ops.size := by
    unfold tailB at ht
    simp only [Bool.and_eq_true] at ht
    have h1 := ht.1.1
    simp [Nat.blt] at h1; omega
  refine wp_region_any X.wide ?_
  refine any_of_DT (X := X) (n := n) (base := base) (c := c) (D := D) (f := f) (m := m) ht (by simp at hl; omega) (fun i o him ho => ?_) (fun i o ho => ?_) (fun i j o o' d hi hj => c2 i j o o' d (by simpa using hi) (by simpa using hj)) (fun i o d ho hd => ((c1 i o (by simpa using ho)).2 d hd).1)
    (fun e a w r => hK e a w _ r fun e' st' _ _ hk hr => ⟨e', st', hr, hk⟩) _ _ a _ e base (by simp) (by simp) ((r.below hbel).less hbs (fun h => h)) (fun j hj => ?_) (fun j o hj => ?_) (fun k y hk => hk) (fun i d x hi => ?_)
  · have := hs i o (by rw [List.getElem?_take, if_pos him]; simpa using ho)
    simpa using this
  · simpa using (c1 i o (by simpa using ho)).1
  · rcases Nat.lt_or_ge j ops.size with h | h
    · simp [h]
    · simp [Nat.not_lt.2 h]
  · rcases Nat.lt_or_ge j ops.size with h | h
    · simp [h] at hj
    · simp [Nat.not_lt.2 h] at hj
  · rcases Nat.lt_or_ge i ops.size with h | h
    · simp [h] at hi
    · simp [Nat.not_lt.2 h] at hi
end
end Go.Sy

/- The symbolic walk, part 34: contracts that get owned objects and give objects back, by their names. -/
set_option linter.unusedSimpArgs false
set_option linter.unusedVariables false
namespace Go.Sy
open Go.RowKit

/-! ### Which objects an abstract value names: as a pointer, as a slice -/
def AV.noP (k : Nat) : AV → Bool
  | .bp j _ => j != k
  | .mp j => j != k
  | .agg cs => noPL k cs
  | .tup cs => noPL k cs
  | .clo _ cs => noPL k cs
  | .ifc _ x => AV.noP k x
  | _ => true
where noPL (k : Nat) : List AV → Bool
  | [] => true
  | c :: cs => AV.noP k c && noPL k cs
def AV.noO (k : Nat) : AV → Bool
  | .own j => j != k
  | .ep j _ _ _ => j != k
  | .agg cs => noOL k cs
  | .tup cs => noOL k cs
  | .clo _ cs => noOL k cs
  | .ifc _ x => AV.noO k x
  | _ => true
where noOL (k : Nat) : List AV → Bool
  | [] => true
  | c :: cs => AV.noO k c && noOL k cs

mutual
theorem Rep.mono2 {e f : Env} (hG : IM.le e.G f.G) : ∀ (x : AV) {y : Value}, (∀ j, x.noP j = false → f.μ j = e.μ j) → (∀ j, x.noO j = false → f.hd j = e.hd j) → Rep e x y → Rep f x y
  | .bad, y, _, _, _ => by simp [Rep]
  | .bp k off, y, h, _, r => by
    simp only [Rep] at r ⊢
    rw [h k (by simp [AV.noP])]; exact r
  | .own k, y, _, h, r => by
    simp only [Rep] at r ⊢
    rw [h k (by simp [AV.noO])]; exact r
  | .ep k i esz j, y, _, h, r => by
    simp only [Rep] at r ⊢
    rw [h k (by simp [AV.noO])]; exact r
  | .agg cs, y, h, h2, r => by
    simp only [Rep] at r ⊢
    obtain ⟨ys, e, r⟩ := r
    exact ⟨ys, e, RepL.mono2 hG cs (fun j hj => h j (by simpa [AV.noP] using hj)) (fun j hj => h2 j (by simpa [AV.noO] using hj)) r⟩
  | .tup cs, y, h, h2, r => by
    simp only [Rep] at r ⊢
    obtain ⟨ys, e, r⟩ := r
    exact ⟨ys, e, RepT.mono2 hG cs (fun j hj => h j (by simpa [AV.noP] using hj)) (fun j hj => h2 j (by simpa [AV.noO] using hj)) r⟩
  | .v x, y, _, _, r => by simpa [Rep] using r
  | .s x, y, _, _, r => by simpa [Rep] using r
  | .sl n esz row, y, _, _, r => by
    simp only [Rep] at r ⊢
    exact RepI.mono hG _ r
  | .cp cells, y, _, _, r => by
    simp only [Rep] at r ⊢
    exact RepI.mono hG _ r
  | .p R, y, _, _, r => by
    simp only [Rep] at r ⊢
    exact R.mono hG r
  | .clo f caps, y, h, h2, r => by
    simp only [Rep] at r ⊢
    obtain ⟨vs, e, r⟩ := r
    exact ⟨vs, e, RepT.mono2 hG caps (fun j hj => h j (by simpa [AV.noP] using hj)) (fun j hj => h2 j (by simpa [AV.noO] using hj)) r⟩
  | .ifc t x, y, h, h2, r => by
    simp only [Rep] at r ⊢
    obtain ⟨v, e, r⟩ := r
    exact ⟨v, e, Rep.mono2 hG x (fun j hj => h j (by simpa [AV.noP] using hj)) (fun j hj => h2 j (by simpa [AV.noO] using hj)) r⟩
  | .mapI ks xs, y, _, _, r => by
    simp only [Rep] at r ⊢
    exact RepI.mono hG _ r
  | .mp k, y, h, _, r => by
    simp only [Rep] at r ⊢
    rw [h k (by simp [AV.noP])]; exact r
theorem RepL.mono2 {e f : Env} (hG : IM.le e.G f.G) : ∀ (cs : List AV) {ys : List Value}, (∀ j, AV.noP.noPL j cs = false → f.μ j = e.μ j) → (∀ j, AV.noO.noOL j cs = false → f.hd j = e.hd j) → RepL e cs ys → RepL f cs ys
  | [], ys, _, _, r => by simpa [RepL] using r
  | c :: cs, ys, h, h2, r => by
    simp only [RepL] at r ⊢
    obtain ⟨z, zs, e, r1, r2, r3⟩ := r
    exact ⟨z, zs, e, Rep.mono2 hG c (fun j hj => h j (by simp [AV.noP.noPL, hj])) (fun j hj => h2 j (by simp [AV.noO.noOL, hj])) r1, r2, RepL.mono2 hG cs (fun j hj => h j (by simp [AV.noP.noPL, hj])) (fun j hj => h2 j (by simp [AV.noO.noOL, hj])) r3⟩
theorem RepT.mono2 {e f : Env} (hG : IM.le e.G f.G) : ∀ (cs : List AV) {ys : List Value}, (∀ j, AV.noP.noPL j cs = false → f.μ j = e.μ j) → (∀ j, AV.noO.noOL j cs = false → f.hd j = e.hd j) → RepT e cs ys → RepT f cs ys
  | [], ys, _, _, r => by simpa [RepT] using r
  | c :: cs, ys, h, h2, r => by
    simp only [RepT] at r ⊢
    obtain ⟨z, zs, e, r1, r3⟩ := r
    exact ⟨z, zs, e, Rep.mono2 hG c (fun j hj => h j (by simp [AV.noP.noPL, hj])) (fun j hj => h2 j (by simp [AV.noO.noOL, hj])) r1, RepT.mono2 hG cs (fun j hj => h j (by simp [AV.noP.noPL, hj])) (fun j hj => h2 j (by simp [AV.noO.noOL, hj])) r3⟩
end

/-! ### Other names for objects -/
def AV.ren (ρ : Nat → Nat) : AV → AV
  | .bp k o => .bp (ρ k) o
  | .own k => .own (ρ k)
  | .ep k i e j => .ep (ρ k) i e j
  | .mp k => .mp (ρ k)
  | .agg cs => .agg (renL ρ cs)
  | .tup cs => .tup (renL ρ cs)
  | .clo f cs => .clo f (renL ρ cs)
  | .ifc t x => .ifc t (AV.ren ρ x)
  | x => x
where renL (ρ : Nat → Nat) : List AV → List AV
  | [] => []
  | c :: cs => AV.ren ρ c :: renL ρ cs
def Ch.ren (ρ : Nat → Nat) : Ch → Ch
  | .box k T cells => .box (ρ k) T (AV.ren.renL ρ cells)
  | .vec k T esz n row => .vec (ρ k) T esz n row
  | .obj k o => .obj (ρ k) o
  | .mapc k ks xs => .mapc (ρ k) ks (AV.ren.renL ρ xs)
  | .abs A => .abs A
def renC (ρ : Nat → Nat) : List Ch → List Ch
  | [] => []
  | c :: cs => c.ren ρ :: renC ρ cs
def Env.ren (e : Env) (ρ : Nat → Nat) : Env := ⟨e.G, fun k => e.μ (ρ k), fun k => e.hd (ρ k)⟩

mutual
theorem Rep_ren (e : Env) (ρ : Nat → Nat) : ∀ (x : AV) (y : Value), Rep e (x.ren ρ) y ↔ Rep (e.ren ρ) x y
  | .bad, y => by simp [AV.ren, Rep]
  | .bp k off, y => by simp [AV.ren, Rep, Env.ren]
  | .own k, y => by simp [AV.ren, Rep, Env.ren]
  | .ep k i esz j, y => by simp [AV.ren, Rep, Env.ren]
  | .agg cs, y => by
    simp only [AV.ren, Rep]
    exact exists_congr fun ys => and_congr_right fun _ => RepL_ren e ρ cs _
  | .tup cs, y => by
    simp only [AV.ren, Rep]
    exact exists_congr fun ys => and_congr_right fun _ => RepT_ren e ρ cs _
  | .v x, y => by simp [AV.ren, Rep]
  | .s x, y => by simp [AV.ren, Rep]
  | .sl n esz row, y => by simp [AV.ren, Rep, Env.ren]
  | .cp cells, y => by simp [AV.ren, Rep, Env.ren]
  | .p R, y => by simp [AV.ren, Rep, Env.ren]
  | .clo f caps, y => by
    simp only [AV.ren, Rep]
    exact exists_congr fun ys => and_congr_right fun _ => RepT_ren e ρ caps _
  | .ifc t x, y => by
    simp only [AV.ren, Rep]
    exact exists_congr fun ys => and_congr_right fun _ => Rep_ren e ρ x _
  | .mapI ks xs, y => by simp [AV.ren, Rep, Env.ren]
  | .mp k, y => by simp [AV.ren, Rep, Env.ren]
theorem RepL_ren (e : Env) (ρ : Nat → Nat) : ∀ (cs : List AV) (ys : List Value), RepL e (AV.ren.renL ρ cs) ys ↔ RepL (e.ren ρ) cs ys
  | [], ys => by simp [AV.ren.renL, RepL]
  | c :: cs, ys => by
    simp only [AV.ren.renL, RepL]
    exact exists_congr fun z => exists_congr fun zs => and_congr_right fun _ => and_congr (Rep_ren e ρ c _) (and_congr_right fun _ => RepL_ren e ρ cs _)
theorem RepT_ren (e : Env) (ρ : Nat → Nat) : ∀ (cs : List AV) (ys : List Value), RepT e (AV.ren.renL ρ cs) ys ↔ RepT (e.ren ρ) cs ys
  | [], ys => by simp [AV.ren.renL, RepT]
  | c :: cs, ys => by
    simp only [AV.ren.renL, RepT]
    exact exists_congr fun z => exists_congr fun zs => and_congr_right fun _ => and_congr (Rep_ren e ρ c _) (RepT_ren e ρ cs _)
end
theorem ChOK_ren (e : Env) (w : World) (ρ : Nat → Nat) : ∀ (c : Ch) (bs : List Nat), ChOK e w (c.ren ρ) bs ↔ ChOK (e.ren ρ) w c bs
  | .box k T cells, bs => by
    simp only [Ch.ren, ChOK]
    exact and_congr_right fun _ => exists_congr fun arr => and_congr_right fun _ => RepL_ren e ρ cells _
  | .vec k T esz n row, bs => by simp only [Ch.ren, ChOK, Env.ren]
  | .obj k o, bs => by simp only [Ch.ren, ChOK, Env.ren]
  | .mapc k ks xs, bs => by
    simp only [Ch.ren, ChOK]
    exact and_congr_right fun _ => exists_congr fun arr => exists_congr fun cl => and_congr_right fun _ => and_congr_right fun _ => and_congr (RepT_ren e ρ xs _) Iff.rfl
  | .abs A, bs => by simp only [Ch.ren, ChOK, Env.ren]

/-! ### The blocks of objects -/
def chB (e : Env) : Ch → List Nat
  | .box k _ _ => [e.μ k]
  | .vec k _ _ _ _ => (e.hd k).ownBlock.toList
  | .obj k _ => [e.μ k]
  | .mapc k _ _ => [e.μ k]
  | .abs A => A.bs
def chBs (e : Env) (cs : List Ch) : List Nat := cs.flatMap (chB e)
theorem chOK_bs {e : Env} {w : World} : ∀ {c : Ch} {bs : List Nat}, ChOK e w c bs → bs = chB e c
  | .box _ _ _, _, h => h.1
  | .vec _ _ _ _ _, _, h => h.1
  | .obj _ _, _, h => h.1
  | .mapc _ _ _, _, h => h.1
  | .abs _, _, h => h.1
theorem chB_ren (e : Env) (ρ : Nat → Nat) : ∀ c : Ch, chB e (c.ren ρ) = chB (e.ren ρ) c
  | .box _ _ _ => rfl
  | .vec _ _ _ _ _ => rfl
  | .obj _ _ => rfl
  | .mapc _ _ _ => rfl
  | .abs _ => rfl
theorem chBs_ren (e : Env) (ρ : Nat → Nat) : ∀ cs : List Ch, chBs e (renC ρ cs) = chBs (e.ren ρ) cs
  | [] => rfl
  | c :: cs => by
    have := chBs_ren e ρ cs
    simp only [chBs, renC, List.flatMap_cons, chB_ren] at this ⊢
    rw [this]

/-- Objects that are owned, in some memory. -/
def OwnOK (e : Env) (w : World) (cs : List Ch) : Prop := (∀ c ∈ cs, ChOK e w c (chB e c)) ∧ (chBs e cs).Nodup ∧ ∀ b ∈ chBs e cs, b < w.heap.size ∧ e.G.free b

theorem heapOK_iff {P : Program} {T : Tab} {X : Ctx P T} {e : Env} {w : World} {cs : List Ch} : HeapOK X e w cs ↔ OwnOK e w cs ∧ ∀ b ∈ chBs e cs, X.w0.heap.size ≤ b ∨ b ∈ X.bs := by
  constructor
  · rintro ⟨pl, h1, h2, h3, h4⟩
    subst h1
    have hf : pl.flatMap (·.2) = chBs e (pl.map (·.1)) := by
      unfold chBs
      rw [List.flatMap_map]
      clear h3 h4
      induction pl with
      | nil => rfl
      | cons p pl ih =>
        simp only [List.flatMap_cons]
        rw [ih (fun q hq => h2 q (List.mem_cons_of_mem _ hq)), chOK_bs (h2 p (List.mem_cons_self ..))]
    rw [hf] at h3 h4
    refine ⟨⟨fun c hc => ?_, h3, fun b hb => ⟨(h4 b hb).1, (h4 b hb).2.2⟩⟩, fun b hb => (h4 b hb).2.1⟩
    obtain ⟨p, hp, rfl⟩ := List.mem_map.1 hc
    have := h2 p hp
    rwa [chOK_bs this] at this
  · rintro ⟨⟨h1, h2, h3⟩, h4⟩
    refine ⟨cs.map (fun c => (c, chB e c)), by simp [Function.comp_def], ?_, ?_, ?_⟩
    · intro p hp
      obtain ⟨c, hc, rfl⟩ := List.mem_map.1 hp
      exact h1 c hc
    · rw [List.flatMap_map]; exact h2
    · rw [List.flatMap_map]
      intro b hb
      exact ⟨(h3 b hb).1, h4 b hb, (h3 b hb).2⟩

theorem ownOK_ren {e : Env} {w : World} (ρ : Nat → Nat) {cs : List Ch} : OwnOK e w (renC ρ cs) ↔ OwnOK (e.ren ρ) w cs := by
  unfold OwnOK
  rw [chBs_ren]
  refine and_congr ?_ Iff.rfl
  constructor
  · intro h c hc
    have hm : c.ren ρ ∈ renC ρ cs := by
      clear h
      induction cs with
      | nil => cases hc
      | cons d cs ih =>
        rcases List.mem_cons.1 hc with rfl | hc
        · exact List.mem_cons_self ..
        · exact List.mem_cons_of_mem _ (ih hc)
    have := h _ hm
    rw [ChOK_ren, chB_ren] at this
    exact this
  · intro h c hc
    have hm : ∃ d ∈ cs, c = d.ren ρ := by
      clear h
      induction cs with
      | nil => cases hc
      | cons d cs ih =>
        rcases List.mem_cons.1 hc with rfl | hc
        · exact ⟨d, List.mem_cons_self .., rfl⟩
        · obtain ⟨q, h1, h2⟩ := ih hc
          exact ⟨q, List.mem_cons_of_mem _ h1, h2⟩
    obtain ⟨d, hd, rfl⟩ := hm
    rw [ChOK_ren, chB_ren]
    exact h d hd

/-- The names of objects whose place stays. -/
def boxIds : List Ch → List Nat
  | [] => []
  | .box k _ _ :: cs => k :: boxIds cs
  | .obj k _ :: cs => k :: boxIds cs
  | .mapc k _ _ :: cs => k :: boxIds cs
  | _ :: cs => boxIds cs

/-- A contract: called with these values and objects; it gives back a value and objects. -/
def FnM (P : Program) (f : FuncId) (args : List AV) (cs : List Ch) (post : AV → List Ch → Prop) : Prop :=
  Callable P f ∧ ∀ (e : Env) (w : World) (cargs : List Value), ImOK e.G w → RepT e args cargs → OwnOK e w cs →
    Calls P f cargs.toArray w fun en w' => ∃ r cr cs' e', post r cs' ∧ en = .returned cr ∧ Rep e' r cr ∧ IM.le e.G e'.G ∧ (∀ k ∈ boxIds cs, e'.μ k = e.μ k) ∧
      NewAt e.G e'.G w.heap.size (chBs e cs) ∧ ImOK e'.G w' ∧ OwnOK e' w' cs' ∧ (∀ b ∈ chBs e' cs', w.heap.size ≤ b ∨ b ∈ chBs e cs) ∧
      w'.os = w.os ∧ w'.tape = w.tape ∧ w'.output = w.output ∧ w.heap.size ≤ w'.heap.size ∧ ∀ k, k < w.heap.size → k ∉ chBs e cs → e.G.still k → w'.heap[k]? = w.heap[k]?

theorem FnM.mono {P : Program} {f : FuncId} {args : List AV} {cs : List Ch} {p q : AV → List Ch → Prop} (h : FnM P f args cs p) (hpq : ∀ r c, p r c → q r c) : FnM P f args cs q :=
  ⟨h.1, fun e w c h1 h2 h3 => (h.2 e w c h1 h2 h3).mono fun en w' ⟨r, cr, cs', e', k, rest⟩ => ⟨r, cr, cs', e', hpq r cs' k, rest⟩⟩

/-- Such a contract without objects is a plain one. -/
theorem FnM.toP {P : Program} {f : FuncId} {args : List AV} {x : AV} {cs1 : List Ch} (hx : x.imm = true) (h : FnM P f args [] (fun r cs => r = x ∧ cs = cs1)) : FnP P f args (· = x) := by
  refine ⟨h.1, fun G w c h1 h2 => (h.2 ⟨G, fun _ => 0, fun _ => undef⟩ w c h1 (RepIT.toRep (e := ⟨G, fun _ => 0, fun _ => undef⟩) args h2) ⟨by simp, by simp [chBs], by simp [chBs]⟩).mono ?_⟩
  rintro en w' ⟨r, cr, cs', e', ⟨rfl, rfl⟩, he, g1, g2, _, g3, g4, _, _, o1, o2, o3, o4, o5⟩
  refine ⟨r, cr, e'.G, rfl, he, Rep.toI r hx g1, g2, ⟨fun b o v hv => ?_, fun b x hx => ?_⟩, g4, ⟨o1, o2, o3, o4, fun k hk hs => o5 k hk (by simp [chBs]) hs⟩⟩
  · rcases g3.1 b o v hv with h | h | h
    · exact .inl h
    · exact .inr h
    · simp [chBs] at h
  · rcases g3.2 b x hx with h | h | h
    · exact .inl h
    · exact .inr h
    · simp [chBs] at h

/-- What must hold where such a body ends. -/
def EndsM (T : Tab) (rs : Array ResultVar) (post : AV → List Ch → Prop) : Exit → St → Prop
  | .normal, st => ∃ r cs rest, resA T st rs.toList = some r ∧ st.c.Perm (cs ++ rest) ∧ post r cs
  | .ret, st => ∃ r cs rest, resA T st rs.toList = some r ∧ st.c.Perm (cs ++ rest) ∧ post r cs
  | _, _ => False

section
variable {P : Program} {T : Tab} {X : Ctx P T} {n : Nat} {e : Env} {st : St} {a : Act} {w : World} {ops : Array Oper} {K : St → Prop}

theorem OwnOK.left {cs ds : List Ch} (h : OwnOK e w (cs ++ ds)) : OwnOK e w cs := by
  obtain ⟨h1, h2, h3⟩ := h
  simp only [chBs, List.flatMap_append] at h2 h3
  exact ⟨fun c hc => h1 c (List.mem_append.2 (.inl hc)), (List.nodup_append.1 h2).1, fun b hb => h3 b (List.mem_append.2 (.inl hb))⟩
theorem OwnOK.right {cs ds : List Ch} (h : OwnOK e w (cs ++ ds)) : OwnOK e w ds := by
  obtain ⟨h1, h2, h3⟩ := h
  simp only [chBs, List.flatMap_append] at h2 h3
  exact ⟨fun c hc => h1 c (List.mem_append.2 (.inr hc)), (List.nodup_append.1 h2).2.1, fun b hb => h3 b (List.mem_append.2 (.inr hb))⟩
theorem OwnOK.apart {cs ds : List Ch} (h : OwnOK e w (cs ++ ds)) : ∀ b, b ∈ chBs e cs → b ∉ chBs e ds := by
  obtain ⟨h1, h2, h3⟩ := h
  simp only [chBs, List.flatMap_append] at h2 h3
  intro b hb hd
  exact (List.nodup_append.1 h2).2.2 b hb b hd rfl

theorem FnM.intro (ok : TabOK P T) (wide : P.follows .mixedOrders = true) {f : FuncId} {fn : Func} {c : Code} {args : List AV} {cs : List Ch} {post : AV → List Ch → Prop} (hf : P.funcs[f]? = some fn) (hb : fn.body = some c)
    (hn : (fn.name == "runtime.NumGoroutine") = false) (hargs : Nat.ble args.length fn.ntmps = true) (hids : (boxIds cs).all (Nat.ble fn.ntmps) = true)
    (h : ∀ X : Ctx P T, SymC X fn.ntmps c ⟨enumA 0 args, cs⟩ (EndsM T fn.results post)) : FnM P f args cs post := by
  refine ⟨⟨fn, hf, by simp [hb], hn⟩, ?_⟩
  intro e w cargs him hrep hcs
  have hargs := Nat.le_of_ble_eq_true hargs
  refine calls_of_wp hf hb ?_
  let X : Ctx P T := ⟨ok, wide, w, e.G, chBs e cs, e.μ⟩
  have hheap : HeapOK X e w cs := heapOK_iff.2 ⟨hcs, fun b hb => .inr hb⟩
  have r : Rel X fn.ntmps e ⟨enumA 0 args, cs⟩ { tmps := cargs.toArray ++ Array.replicate (fn.ntmps - cargs.toArray.size) undef, defers := [] } w :=
    Rel.enter rfl rfl him hrep hargs hheap rfl
  refine Code.wp_mono (fun ex a' w' hc => ?_) (h X e _ w r)
  have fin : ∀ (e' : Env) (st' : St), Rel X fn.ntmps e' st' a' w' → (∃ r cs rest, resA T st' fn.results.toList = some r ∧ st'.c.Perm (cs ++ rest) ∧ post r cs) →
      a'.defers = [] ∧ ∃ v, (results fn a'.tmps).run P w' = .ok v w' ∧ (∃ r cr cs' e', post r cs' ∧ Ending.returned v = .returned cr ∧ Rep e' r cr ∧ IM.le e.G e'.G ∧ (∀ k ∈ boxIds cs, e'.μ k = e.μ k) ∧
      NewAt e.G e'.G w.heap.size (chBs e cs) ∧ ImOK e'.G w' ∧ OwnOK e' w' cs' ∧ (∀ b ∈ chBs e' cs', w.heap.size ≤ b ∨ b ∈ chBs e cs) ∧
      w'.os = w.os ∧ w'.tape = w.tape ∧ w'.output = w.output ∧ w.heap.size ≤ w'.heap.size ∧ ∀ k, k < w.heap.size → k ∉ chBs e cs → e.G.still k → w'.heap[k]? = w.heap[k]?) := by
    intro e' st' hr ⟨x, cs', rest, h1, hk, h3⟩
    obtain ⟨v, h5, h6⟩ := resA_sound hr h1
    obtain ⟨q1, q2⟩ := heapOK_iff.1 (hr.heap.perm hk)
    refine ⟨hr.defers, v, h5, x, v, cs', e', h3, rfl, h6, hr.le, fun k hkk => hr.fix k ?_, ⟨hr.new, hr.newm⟩, ⟨hr.im, hr.mz⟩, q1.left, fun b hb => q2 b ?_, hr.os, hr.tape, hr.output, hr.sz, fun k hk hnin hs => hr.keep k hk hnin hs⟩
    · exact Nat.le_of_ble_eq_true (List.all_eq_true.1 hids k hkk)
    · simp only [chBs, List.flatMap_append, List.mem_append]; exact .inl hb
  cases ex with
  | normal => obtain ⟨e', st', h1, h2⟩ := hc; exact fin e' st' h1 h2
  | ret => obtain ⟨e', st', h1, h2⟩ := hc; exact fin e' st' h1 h2
  | exit id => obtain ⟨e', st', h1, h2⟩ := hc; exact h2.elim
  | goto l => obtain ⟨e', st', h1, h2⟩ := hc; exact h2.elim
  | panic ch => exact hc.elim
  | outgrown => exact hc.elim

/-! ### Calls -/
abbrev RenM := List (Nat × Nat)
def renOf (m : RenM) (k : Nat) : Nat := match m with
  | [] => k
  | (a, b) :: r => match Nat.beq a k with
    | true => b
    | false => renOf r k
def hasK (m : RenM) (k : Nat) : Bool := match m with
  | [] => false
  | (a, _) :: r => match Nat.beq a k with
    | true => true
    | false => hasK r k
def invOf (m : RenM) (j : Nat) : Option Nat := match m with
  | [] => none
  | (a, b) :: r => match Nat.beq b j with
    | true => some a
    | false => invOf r j
/-- No name is told twice, on either side. -/
def goodM : RenM → Bool
  | [] => true
  | (a, b) :: r => !hasK r a && (invOf r b).isNone && goodM r
theorem inv_ren : ∀ {m : RenM} {k : Nat}, goodM m = true → hasK m k = true → invOf m (renOf m k) = some k
  | [], k, _, h => by simp [hasK] at h
  | (a, b) :: r, k, hg, h => by
    simp only [goodM, Bool.and_eq_true, Bool.not_eq_true', Option.isNone_iff_eq_none] at hg
    obtain ⟨⟨h1, h2⟩, h3⟩ := hg
    simp only [renOf, hasK, invOf] at h ⊢
    cases hk : Nat.beq a k with
    | true =>
      have := Nat.eq_of_beq_eq_true hk
      subst this
      simp [Nat.beq_refl]
    | false =>
      simp only [hk] at h ⊢
      have ih := inv_ren h3 h
      cases hb : Nat.beq b (renOf r k) with
      | true =>
        have := Nat.eq_of_beq_eq_true hb
        rw [← this, h2] at ih
        cases ih
      | false => exact ih

/-- Does a value name known objects alone? -/
def AV.in_ (m : RenM) : AV → Bool
  | .bp k _ => hasK m k
  | .own k => hasK m k
  | .ep k _ _ _ => hasK m k
  | .mp k => hasK m k
  | .agg cs => inL m cs
  | .tup cs => inL m cs
  | .clo _ cs => inL m cs
  | .ifc _ x => AV.in_ m x
  | _ => true
where inL (m : RenM) : List AV → Bool
  | [] => true
  | c :: cs => AV.in_ m c && inL m cs
def Ch.in_ (m : RenM) : Ch → Bool
  | .box k _ cells => hasK m k && AV.in_.inL m cells
  | .vec k _ _ _ _ => hasK m k
  | .obj k _ => hasK m k
  | .mapc k _ xs => hasK m k && AV.in_.inL m xs
  | .abs _ => true
def inC (m : RenM) : List Ch → Bool
  | [] => true
  | c :: cs => c.in_ m && inC m cs

mutual
theorem in_noP {m : RenM} {j : Nat} (hj : hasK m j = false) : ∀ (x : AV), x.in_ m = true → x.noP j = true
  | .bp k o, h => by simp only [AV.in_] at h; simp only [AV.noP, bne_iff_ne]; rintro rfl; rw [h] at hj; cases hj
  | .mp k, h => by simp only [AV.in_] at h; simp only [AV.noP, bne_iff_ne]; rintro rfl; rw [h] at hj; cases hj
  | .agg cs, h => by simp only [AV.in_] at h; simp only [AV.noP]; exact inL_noP hj cs h
  | .tup cs, h => by simp only [AV.in_] at h; simp only [AV.noP]; exact inL_noP hj cs h
  | .clo f cs, h => by simp only [AV.in_] at h; simp only [AV.noP]; exact inL_noP hj cs h
  | .ifc t x, h => by simp only [AV.in_] at h; simp only [AV.noP]; exact in_noP hj x h
  | .bad, _ => rfl
  | .v _, _ => rfl
  | .s _, _ => rfl
  | .sl _ _ _, _ => rfl
  | .cp _, _ => rfl
  | .own _, _ => rfl
  | .ep _ _ _ _, _ => rfl
  | .p _, _ => rfl
  | .mapI _ _, _ => rfl
theorem inL_noP {m : RenM} {j : Nat} (hj : hasK m j = false) : ∀ (cs : List AV), AV.in_.inL m cs = true → AV.noP.noPL j cs = true
  | [], _ => rfl
  | c :: cs, h => by
    simp only [AV.in_.inL, Bool.and_eq_true] at h
    simp only [AV.noP.noPL, Bool.and_eq_true]
    exact ⟨in_noP hj c h.1, inL_noP hj cs h.2⟩
end
mutual
theorem in_noO {m : RenM} {j : Nat} (hj : hasK m j = false) : ∀ (x : AV), x.in_ m = true → x.noO j = true
  | .own k, h => by simp only [AV.in_] at h; simp only [AV.noO, bne_iff_ne]; rintro rfl; rw [h] at hj; cases hj
  | .ep k _ _ _, h => by simp only [AV.in_] at h; simp only [AV.noO, bne_iff_ne]; rintro rfl; rw [h] at hj; cases hj
  | .agg cs, h => by simp only [AV.in_] at h; simp only [AV.noO]; exact inL_noO hj cs h
  | .tup cs, h => by simp only [AV.in_] at h; simp only [AV.noO]; exact inL_noO hj cs h
  | .clo f cs, h => by simp only [AV.in_] at h; simp only [AV.noO]; exact inL_noO hj cs h
  | .ifc t x, h => by simp only [AV.in_] at h; simp only [AV.noO]; exact in_noO hj x h
  | .bad, _ => rfl
  | .v _, _ => rfl
  | .s _, _ => rfl
  | .sl _ _ _, _ => rfl
  | .cp _, _ => rfl
  | .bp _ _, _ => rfl
  | .mp _, _ => rfl
  | .p _, _ => rfl
  | .mapI _ _, _ => rfl
theorem inL_noO {m : RenM} {j : Nat} (hj : hasK m j = false) : ∀ (cs : List AV), AV.in_.inL m cs = true → AV.noO.noOL j cs = true
  | [], _ => rfl
  | c :: cs, h => by
    simp only [AV.in_.inL, Bool.and_eq_true] at h
    simp only [AV.noO.noOL, Bool.and_eq_true]
    exact ⟨in_noO hj c h.1, inL_noO hj cs h.2⟩
end

/-- The names behind a call. -/
def Env.back (e e' : Env) (m : RenM) (bx : List Nat) : Env :=
  ⟨e'.G, fun j => match invOf m j with
    | some k => if k ∈ bx then e.μ j else e'.μ k
    | none => e.μ j, fun j => match invOf m j with
    | some k => e'.hd k
    | none => e.hd j⟩

theorem back_μ {e e' : Env} {m : RenM} {bx : List Nat} (hg : goodM m = true) (hbx : ∀ k ∈ bx, e'.μ k = e.μ (renOf m k)) {k : Nat} (hk : hasK m k = true) : ((e.back e' m bx).ren (renOf m)).μ k = e'.μ k := by
  simp only [Env.ren, Env.back, inv_ren hg hk]
  split
  · rename_i h; exact (hbx k h).symm
  · rfl
theorem back_hd {e e' : Env} {m : RenM} {bx : List Nat} (hg : goodM m = true) {k : Nat} (hk : hasK m k = true) : ((e.back e' m bx).ren (renOf m)).hd k = e'.hd k := by
  simp only [Env.ren, Env.back, inv_ren hg hk]

theorem Rep.back {e e' : Env} {m : RenM} {bx : List Nat} (hg : goodM m = true) (hbx : ∀ k ∈ bx, e'.μ k = e.μ (renOf m k)) {x : AV} {v : Value} (hx : x.in_ m = true) (h : Rep e' x v) : Rep (e.back e' m bx) (x.ren (renOf m)) v := by
  rw [Rep_ren]
  refine Rep.mono2 (e := e') (f := (e.back e' m bx).ren (renOf m)) (IM.le_refl _) x (fun j hj => ?_) (fun j hj => ?_) h
  · refine back_μ hg hbx ?_
    cases hk : hasK m j with
    | true => rfl
    | false => rw [in_noP hk x hx] at hj; cases hj
  · refine back_hd hg ?_
    cases hk : hasK m j with
    | true => rfl
    | false => rw [in_noO hk x hx] at hj; cases hj
theorem RepL.back {e e' : Env} {m : RenM} {bx : List Nat} (hg : goodM m = true) (hbx : ∀ k ∈ bx, e'.μ k = e.μ (renOf m k)) : ∀ {xs : List AV} {vs : List Value}, AV.in_.inL m xs = true → RepL e' xs vs → RepL (e.back e' m bx) (AV.ren.renL (renOf m) xs) vs
  | [], vs, _, h => by simp only [RepL] at h; subst h; simp [AV.ren.renL, RepL]
  | x :: xs, vs, hx, h => by
    simp only [AV.in_.inL, Bool.and_eq_true] at hx
    simp only [RepL] at h
    obtain ⟨z, zs, rfl, h1, h2, h3⟩ := h
    simp only [AV.ren.renL, RepL]
    exact ⟨z, zs, rfl, Rep.back hg hbx hx.1 h1, h2, RepL.back hg hbx hx.2 h3⟩
theorem RepT.back {e e' : Env} {m : RenM} {bx : List Nat} (hg : goodM m = true) (hbx : ∀ k ∈ bx, e'.μ k = e.μ (renOf m k)) : ∀ {xs : List AV} {vs : List Value}, AV.in_.inL m xs = true → RepT e' xs vs → RepT (e.back e' m bx) (AV.ren.renL (renOf m) xs) vs
  | [], vs, _, h => by simp only [RepT] at h; subst h; simp [AV.ren.renL, RepT]
  | x :: xs, vs, hx, h => by
    simp only [AV.in_.inL, Bool.and_eq_true] at hx
    simp only [RepT] at h
    obtain ⟨z, zs, rfl, h1, h3⟩ := h
    simp only [AV.ren.renL, RepT]
    exact ⟨z, zs, rfl, Rep.back hg hbx hx.1 h1, RepT.back hg hbx hx.2 h3⟩
theorem chB_back {e e' : Env} {m : RenM} {bx : List Nat} (hg : goodM m = true) (hbx : ∀ k ∈ bx, e'.μ k = e.μ (renOf m k)) : ∀ {c : Ch}, c.in_ m = true → chB (e.back e' m bx) (c.ren (renOf m)) = chB e' c
  | .box k _ _, h => by simp only [Ch.in_, Bool.and_eq_true] at h; rw [chB_ren]; simp only [chB]; rw [back_μ hg hbx h.1]
  | .vec k _ _ _ _, h => by simp only [Ch.in_] at h; rw [chB_ren]; simp only [chB]; rw [back_hd hg h]
  | .obj k _, h => by simp only [Ch.in_] at h; rw [chB_ren]; simp only [chB]; rw [back_μ hg hbx h]
  | .mapc k _ _, h => by simp only [Ch.in_, Bool.and_eq_true] at h; rw [chB_ren]; simp only [chB]; rw [back_μ hg hbx h.1]
  | .abs _, _ => rfl
theorem ChOK.back {e e' : Env} {m : RenM} {bx : List Nat} {w : World} (hg : goodM m = true) (hbx : ∀ k ∈ bx, e'.μ k = e.μ (renOf m k)) : ∀ {c : Ch} {bs : List Nat}, c.in_ m = true → ChOK e' w c bs → ChOK (e.back e' m bx) w (c.ren (renOf m)) bs
  | .box k T cells, bs, hc, ⟨h1, arr, h2, h3⟩ => by
    simp only [Ch.in_, Bool.and_eq_true] at hc
    have := back_μ (e := e) (e' := e') hg hbx hc.1
    simp only [Env.ren] at this
    exact ⟨by rw [this]; exact h1, arr, by rw [this]; exact h2, RepL.back hg hbx hc.2 h3⟩
  | .vec k T esz n row, bs, hc, ⟨h1, xs, h2, h3⟩ => by
    simp only [Ch.in_] at hc
    have := back_hd (e := e) (e' := e') (bx := bx) hg hc
    simp only [Env.ren] at this
    exact ⟨by rw [this]; exact h1, xs, by rw [this]; exact h2, h3⟩
  | .obj k o, bs, hc, ⟨h1, h2⟩ => by
    simp only [Ch.in_] at hc
    have := back_μ (e := e) (e' := e') hg hbx hc
    simp only [Env.ren] at this
    exact ⟨by rw [this]; exact h1, by rw [this]; exact h2⟩
  | .mapc k ks xs, bs, hc, ⟨h1, arr, cl, h2, h3, h4, h5⟩ => by
    simp only [Ch.in_, Bool.and_eq_true] at hc
    have := back_μ (e := e) (e' := e') hg hbx hc.1
    simp only [Env.ren] at this
    exact ⟨by rw [this]; exact h1, arr, cl, by rw [this]; exact h2, h3, RepT.back hg hbx hc.2 h4, h5⟩
  | .abs A, bs, _, h => h

/-- What is not named by the call. -/
def AV.off (m : RenM) (bx : List Nat) (x : AV) : Bool := match m with
  | [] => true
  | (k, j) :: r => (bx.elem k || x.noP j) && x.noO j && AV.off r bx x
def AV.offL (m : RenM) (bx : List Nat) (xs : List AV) : Bool := match xs with
  | [] => true
  | x :: xs => x.off m bx && AV.offL m bx xs
def idOff (m : RenM) (j : Nat) : Bool := (invOf m j).isNone
def Ch.off (m : RenM) (bx : List Nat) : Ch → Bool
  | .box k _ cells => idOff m k && AV.offL m bx cells
  | .vec k _ _ _ _ => idOff m k
  | .obj k _ => idOff m k
  | .mapc k _ xs => idOff m k && AV.offL m bx xs
  | .abs _ => true
def offC (m : RenM) (bx : List Nat) : List Ch → Bool
  | [] => true
  | c :: cs => c.off m bx && offC m bx cs
def keepS (m : RenM) (bx : List Nat) : List (Nat × AV) → List (Nat × AV)
  | [] => []
  | (i, x) :: r => match x.off m bx with
    | true => (i, x) :: keepS m bx r
    | false => (i, .bad) :: keepS m bx r

theorem off_spec {m : RenM} {bx : List Nat} {x : AV} : x.off m bx = true → ∀ {j k : Nat}, invOf m j = some k → (k ∈ bx ∨ x.noP j = true) ∧ x.noO j = true := by
  induction m with
  | nil => intro _ j k h; simp [invOf] at h
  | cons p r ih =>
    obtain ⟨a, b⟩ := p
    intro h j k hi
    simp only [AV.off, Bool.and_eq_true, Bool.or_eq_true, List.elem_eq_mem, decide_eq_true_eq] at h
    simp only [invOf] at hi
    split at hi
    · rename_i hb
      have := Nat.eq_of_beq_eq_true hb
      subst this
      cases hi
      exact h.1
    · exact ih h.2 hi
theorem Rep.off {e e' : Env} {m : RenM} {bx : List Nat} (hG : IM.le e.G e'.G) {x : AV} {v : Value} (hx : x.off m bx = true) (h : Rep e x v) : Rep (e.back e' m bx) x v := by
  refine Rep.mono2 (e := e) (f := e.back e' m bx) hG x (fun j hj => ?_) (fun j hj => ?_) h
  · simp only [Env.back]
    split
    · rename_i k hk
      rcases (off_spec hx hk).1 with h | h
      · rw [if_pos h]
      · rw [h] at hj; cases hj
    · rfl
  · simp only [Env.back]
    split
    · rename_i k hk
      rw [(off_spec hx hk).2] at hj; cases hj
    · rfl
theorem RepL.off {e e' : Env} {m : RenM} {bx : List Nat} (hG : IM.le e.G e'.G) : ∀ {xs : List AV} {vs : List Value}, AV.offL m bx xs = true → RepL e xs vs → RepL (e.back e' m bx) xs vs
  | [], vs, _, h => by simpa [RepL] using h
  | x :: xs, vs, hx, h => by
    simp only [AV.offL, Bool.and_eq_true] at hx
    simp only [RepL] at h ⊢
    obtain ⟨z, zs, rfl, h1, h2, h3⟩ := h
    exact ⟨z, zs, rfl, Rep.off hG hx.1 h1, h2, RepL.off hG hx.2 h3⟩
theorem RepT.off {e e' : Env} {m : RenM} {bx : List Nat} (hG : IM.le e.G e'.G) : ∀ {xs : List AV} {vs : List Value}, AV.offL m bx xs = true → RepT e xs vs → RepT (e.back e' m bx) xs vs
  | [], vs, _, h => by simpa [RepT] using h
  | x :: xs, vs, hx, h => by
    simp only [AV.offL, Bool.and_eq_true] at hx
    simp only [RepT] at h ⊢
    obtain ⟨z, zs, rfl, h1, h3⟩ := h
    exact ⟨z, zs, rfl, Rep.off hG hx.1 h1, RepT.off hG hx.2 h3⟩
theorem id_off {e e' : Env} {m : RenM} {bx : List Nat} {j : Nat} (h : idOff m j = true) : (e.back e' m bx).μ j = e.μ j ∧ (e.back e' m bx).hd j = e.hd j := by
  simp only [idOff, Option.isNone_iff_eq_none] at h
  simp [Env.back, h]
theorem chB_off {e e' : Env} {m : RenM} {bx : List Nat} : ∀ {c : Ch}, c.off m bx = true → chB (e.back e' m bx) c = chB e c
  | .box k _ _, h => by simp only [Ch.off, Bool.and_eq_true] at h; simp only [chB]; rw [(id_off h.1).1]
  | .vec k _ _ _ _, h => by simp only [Ch.off] at h; simp only [chB]; rw [(id_off h).2]
  | .obj k _, h => by simp only [Ch.off] at h; simp only [chB]; rw [(id_off h).1]
  | .mapc k _ _, h => by simp only [Ch.off, Bool.and_eq_true] at h; simp only [chB]; rw [(id_off h.1).1]
  | .abs _, _ => rfl
theorem ChOK.off {e e' : Env} {m : RenM} {bx : List Nat} {w w' : World} (hG : IM.le e.G e'.G) : ∀ {c : Ch} {bs : List Nat}, c.off m bx = true → (∀ b ∈ bs, w'.heap[b]? = w.heap[b]?) → ChOK e w c bs → ChOK (e.back e' m bx) w' c bs
  | .box k T cells, bs, hc, hb, ⟨h1, arr, h2, h3⟩ => by
    simp only [Ch.off, Bool.and_eq_true] at hc
    subst h1
    exact ⟨by rw [(id_off hc.1).1], arr, by rw [(id_off hc.1).1, hb _ (by simp)]; exact h2, RepL.off hG hc.2 h3⟩
  | .vec k T esz n row, bs, hc, hb, ⟨h1, xs, h2, h3⟩ => by
    simp only [Ch.off] at hc
    subst h1
    refine ⟨by rw [(id_off hc).2], xs, ?_, RowsL.mono hG h3⟩
    rw [(id_off hc).2]
    exact ownsRow_of_blocks h2 (fun b hbb => hb b (by simp [hbb]))
  | .obj k o, bs, hc, hb, ⟨h1, h2⟩ => by
    simp only [Ch.off] at hc
    subst h1
    exact ⟨by rw [(id_off hc).1], by rw [(id_off hc).1, hb _ (by simp)]; exact h2⟩
  | .mapc k ks xs, bs, hc, hb, ⟨h1, arr, cl, h2, h3, h4, h5⟩ => by
    simp only [Ch.off, Bool.and_eq_true] at hc
    subst h1
    exact ⟨by rw [(id_off hc.1).1], arr, cl, by rw [(id_off hc.1).1, hb _ (by simp)]; exact h2, h3, RepT.off hG hc.2 h4, h5⟩
  | .abs A, bs, _, hb, h => by
    obtain ⟨rfl, h1⟩ := h
    exact ⟨rfl, A.keep hG hb h1⟩

theorem mem_renC {ρ : Nat → Nat} {c : Ch} : ∀ {cs : List Ch}, c ∈ renC ρ cs → ∃ d ∈ cs, c = d.ren ρ
  | [], h => by cases h
  | d :: cs, h => by
    simp only [renC] at h
    rcases List.mem_cons.1 h with rfl | h
    · exact ⟨d, List.mem_cons_self .., rfl⟩
    · obtain ⟨q, h1, h2⟩ := mem_renC h
      exact ⟨q, List.mem_cons_of_mem _ h1, h2⟩
theorem inC_mem {m : RenM} : ∀ {cs : List Ch}, inC m cs = true → ∀ c ∈ cs, c.in_ m = true
  | [], _, c, h => by cases h
  | d :: cs, hi, c, h => by
    simp only [inC, Bool.and_eq_true] at hi
    rcases List.mem_cons.1 h with rfl | h
    · exact hi.1
    · exact inC_mem hi.2 c h
theorem offC_mem {m : RenM} {bx : List Nat} : ∀ {cs : List Ch}, offC m bx cs = true → ∀ c ∈ cs, c.off m bx = true
  | [], _, c, h => by cases h
  | d :: cs, hi, c, h => by
    simp only [offC, Bool.and_eq_true] at hi
    rcases List.mem_cons.1 h with rfl | h
    · exact hi.1
    · exact offC_mem hi.2 c h
theorem chBs_back {e e' : Env} {m : RenM} {bx : List Nat} (hg : goodM m = true) (hbx : ∀ k ∈ bx, e'.μ k = e.μ (renOf m k)) : ∀ {cs : List Ch}, inC m cs = true → chBs (e.back e' m bx) (renC (renOf m) cs) = chBs e' cs
  | [], _ => rfl
  | c :: cs, h => by
    simp only [inC, Bool.and_eq_true] at h
    have ih := chBs_back hg hbx h.2
    simp only [chBs, renC, List.flatMap_cons] at ih ⊢
    rw [chB_back hg hbx h.1, ih]
theorem chBs_off {e e' : Env} {m : RenM} {bx : List Nat} : ∀ {cs : List Ch}, offC m bx cs = true → chBs (e.back e' m bx) cs = chBs e cs
  | [], _ => rfl
  | c :: cs, h => by
    simp only [offC, Bool.and_eq_true] at h
    have ih := chBs_off (e := e) (e' := e') h.2
    simp only [chBs, List.flatMap_cons] at ih ⊢
    rw [chB_off h.1, ih]

theorem keepS_get {m : RenM} {bx : List Nat} {i : Nat} {x : AV} : ∀ {s : List (Nat × AV)}, get (keepS m bx s) i = some x → ∃ y, get s i = some y ∧ (x = y ∧ y.off m bx = true ∨ x = .bad)
  | [], h => by simp [keepS, get] at h
  | (j, y) :: s, h => by
    simp only [keepS] at h
    rw [get_cons]
    cases ho : y.off m bx with
    | true =>
      simp only [ho] at h
      rw [get_cons] at h
      by_cases hij : j = i
      · rw [if_pos hij] at h ⊢; cases h; exact ⟨_, rfl, .inl ⟨rfl, ho⟩⟩
      · rw [if_neg hij] at h ⊢; exact keepS_get h
    | false =>
      simp only [ho] at h
      rw [get_cons] at h
      by_cases hij : j = i
      · rw [if_pos hij] at h ⊢; cases h; exact ⟨_, rfl, .inr rfl⟩
      · rw [if_neg hij] at h ⊢; exact keepS_get h

/-- Behind a call by such a contract. -/
theorem Rel.afterM {s : List (Nat × AV)} {c cs cs1 cr : List Ch} {m : RenM} {e' : Env} {w' : World} (r : Rel X n e ⟨s, c⟩ a w) (hg : goodM m = true) (hlo : m.all (fun p => Nat.blt p.2 n || hasK m p.1 && (boxIds cs).elem p.1) = true) (hc : c.Perm (renC (renOf m) cs ++ cr)) (hoff : offC m (boxIds cs) cr = true) (hin : inC m cs1 = true)
    (g2 : IM.le e.G e'.G) (gf : ∀ k ∈ boxIds cs, e'.μ k = e.μ (renOf m k)) (g3 : NewAt e.G e'.G w.heap.size (chBs e (renC (renOf m) cs))) (g4 : ImOK e'.G w') (g5 : OwnOK e' w' cs1) (g6 : ∀ b ∈ chBs e' cs1, w.heap.size ≤ b ∨ b ∈ chBs e (renC (renOf m) cs))
    (o1 : w'.os = w.os) (o2 : w'.tape = w.tape) (o3 : w'.output = w.output) (o4 : w.heap.size ≤ w'.heap.size) (o5 : ∀ k, k < w.heap.size → k ∉ chBs e (renC (renOf m) cs) → e.G.still k → w'.heap[k]? = w.heap[k]?) :
    Rel X n (e.back e' m (boxIds cs)) ⟨keepS m (boxIds cs) s, renC (renOf m) cs1 ++ cr⟩ a w' := by
  obtain ⟨q1, q2⟩ := heapOK_iff.1 (r.heap.perm hc)
  have hap := q1.apart
  have hq2 : ∀ b, b ∈ chBs e (renC (renOf m) cs) → X.w0.heap.size ≤ b ∨ b ∈ X.bs := fun b hb => q2 b (by simp only [chBs, List.flatMap_append, List.mem_append]; exact .inl hb)
  exact
    { defers := r.defers
      size := r.size
      slots := fun i x hx => by
        obtain ⟨y, hy, h⟩ := keepS_get hx
        obtain ⟨v, h1, h2⟩ := r.slots i y hy
        rcases h with ⟨rfl, ho⟩ | rfl
        · exact ⟨v, h1, h2.off g2 ho⟩
        · exact ⟨v, h1, by simp [Rep]⟩
      im := g4.1
      mz := g4.2
      heap := by
        refine heapOK_iff.2 ⟨⟨?_, ?_, ?_⟩, ?_⟩
        · intro d hd
          rcases List.mem_append.1 hd with hd | hd
          · obtain ⟨q, hq, rfl⟩ := mem_renC hd
            have := g5.1 q hq
            rw [chB_back hg gf (inC_mem hin q hq)]
            exact ChOK.back hg gf (inC_mem hin q hq) this
          · have hdo := offC_mem hoff d hd
            rw [chB_off hdo]
            refine ChOK.off g2 hdo (fun b hb => ?_) (q1.1 d (List.mem_append.2 (.inr hd)))
            have hbm : b ∈ chBs e cr := List.mem_flatMap.2 ⟨d, hd, hb⟩
            have hbt := q1.right.2.2 b hbm
            exact o5 b hbt.1 (fun h => hap b h hbm) (IM.free_still hbt.2)
        · simp only [chBs, List.flatMap_append]
          refine List.nodup_append.2 ⟨?_, ?_, ?_⟩
          · have := g5.2.1; rw [← chBs_back hg gf hin] at this; exact this
          · have := q1.right.2.1; rw [← chBs_off (e' := e') hoff] at this; exact this
          · rintro b hb b' hb' rfl
            have hb : b ∈ chBs (e.back e' m (boxIds cs)) (renC (renOf m) cs1) := hb
            have hb' : b ∈ chBs (e.back e' m (boxIds cs)) cr := hb'
            rw [chBs_back hg gf hin] at hb
            rw [chBs_off hoff] at hb'
            rcases g6 b hb with h | h
            · have := (q1.right.2.2 b hb').1; omega
            · exact hap b h hb'
        · intro b hb
          simp only [chBs, List.flatMap_append, List.mem_append] at hb
          rcases hb with hb | hb
          · have hb : b ∈ chBs (e.back e' m (boxIds cs)) (renC (renOf m) cs1) := hb
            rw [chBs_back hg gf hin] at hb
            exact g5.2.2 b hb
          · have hb : b ∈ chBs (e.back e' m (boxIds cs)) cr := hb
            rw [chBs_off hoff] at hb
            obtain ⟨t1, t2⟩ := q1.right.2.2 b hb
            exact ⟨Nat.lt_of_lt_of_le t1 o4, g3.free t1 (fun h => hap b h hb) t2⟩
        · intro b hb
          simp only [chBs, List.flatMap_append, List.mem_append] at hb
          rcases hb with hb | hb
          · have hb : b ∈ chBs (e.back e' m (boxIds cs)) (renC (renOf m) cs1) := hb
            rw [chBs_back hg gf hin] at hb
            rcases g6 b hb with h | h
            · exact .inl (Nat.le_trans r.sz h)
            · exact hq2 b h
          · have hb : b ∈ chBs (e.back e' m (boxIds cs)) cr := hb
            rw [chBs_off hoff] at hb
            exact q2 b (by simp only [chBs, List.flatMap_append, List.mem_append]; exact .inr hb)
      le := IM.le_trans r.le g2
      new := fun b o v hv => by
        rcases g3.1 b o v hv with h | h | h
        · exact r.new b o v h
        · exact .inr (.inl (Nat.le_trans r.sz h))
        · exact .inr (hq2 b h)
      newm := fun b x hv => by
        rcases g3.2 b x hv with h | h | h
        · exact r.newm b x h
        · exact .inr (.inl (Nat.le_trans r.sz h))
        · exact .inr (hq2 b h)
      os := o1.trans r.os
      tape := o2.trans r.tape
      output := o3.trans r.output
      sz := Nat.le_trans r.sz o4
      fix := fun k hk => by
        have : (e.back e' m (boxIds cs)).μ k = e.μ k := by
          simp only [Env.back]
          split
          · rename_i j hj
            split
            · rfl
            · rename_i hnb
              exfalso
              have : ∃ p ∈ m, p = (j, k) := by
                clear hlo hg hin hoff hc hq2 q1 q2 hap g3 g6 o5 gf
                induction m with
                | nil => simp [invOf] at hj
                | cons p m ih =>
                  obtain ⟨x, y⟩ := p
                  simp only [invOf] at hj
                  split at hj
                  · rename_i hb
                    have := Nat.eq_of_beq_eq_true hb
                    cases hj
                    exact ⟨_, List.mem_cons_self .., by rw [this]⟩
                  · obtain ⟨q, h1, h2⟩ := ih hj
                    exact ⟨q, List.mem_cons_of_mem _ h1, h2⟩
              obtain ⟨p, hp, rfl⟩ := this
              have := List.all_eq_true.1 hlo _ hp
              simp only [Bool.or_eq_true, Bool.and_eq_true, List.elem_eq_mem, decide_eq_true_eq] at this
              rcases this with h | h
              · simp [Nat.blt] at h; omega
              · exact hnb h.2
          · rfl
        rw [this]; exact r.fix k hk
      keep := fun b hb hbs hs => by
        rw [o5 b (Nat.lt_of_lt_of_le hb r.sz)]
        · exact r.keep b hb hbs hs
        · intro hin
          rcases hq2 b hin with h | h
          · omega
          · exact hbs h
        · intro L hL
          rcases r.newm b _ hL with h | h | h
          · exact hs L h
          · omega
          · exact hbs h }
end
end Go.Sy

/- The symbolic walk, part 35: regions whose order is drawn, with any number of operations that turn memory, these one behind the other. -/
set_option linter.unusedSimpArgs false
set_option linter.unusedVariables false
namespace Go.Sy
open Go.RowKit

/-- What is told of such a region: for each operation some of those that come ahead of it; those that turn memory; which makes which object; which takes which slice. -/
structure Pl where
  A : List (List Nat)
  E : List Nat
  cre : List (Nat × Nat)
  ki : List (Nat × Nat)

def Pl.anc (p : Pl) (i : Nat) : List Nat := p.A.getD i []
def Pl.ancB (p : Pl) (ops : Array Oper) : Bool :=
  (List.range ops.toList.length).all fun i => (p.anc i).all fun a => (predsB ops i).contains a || (predsB ops i).any fun q => (p.anc q).contains a
def Pl.lo (p : Pl) (i : Nat) : Nat := p.E.countP fun e => (p.anc i).contains e
def Pl.hi (p : Pl) (i : Nat) : Nat := p.E.countP fun e => !(Nat.beq e i) && !((p.anc e).contains i)
def Pl.creB (p : Pl) (i : Nat) (x : AV) : Bool := p.cre.all fun q => Nat.beq q.1 i || (p.anc i).contains q.1 || x.no q.2
/-- Operation r may read what operation i gave, though its slice may be taken: it comes ahead of that. -/
def Pl.okV (p : Pl) (r : Nat) (x : AV) : Bool := p.ki.all fun q => x.noO q.2 || Nat.beq r q.1 || (p.anc q.1).contains r
def Pl.ends (p : Pl) (x : AV) : Bool := p.ki.all fun q => x.noO q.2
def Pl.baseB (p : Pl) : List (Nat × AV) → Bool
  | [] => true
  | (_, x) :: r => (p.cre.all fun q => x.no q.2) && (p.ki.all fun q => x.noO q.2) && p.baseB r

def availX (p : Pl) (r : Nat) (done : Done) : List Edge → List (Nat × AV) → List (Nat × AV)
  | [], base => base
  | e :: es, base => match Region.binds .any e, done[e.on]? with
    | true, some (some d, x) => (match p.okV r x with
      | true => (d, x) :: availX p r done es base
      | false => availX p r done es base)
    | _, _ => availX p r done es base
def killD (p : Pl) : Done → Done
  | [] => []
  | (d, x) :: r => match p.ends x with
    | true => (d, x) :: killD p r
    | false => (none, x) :: killD p r

theorem availX_get {p : Pl} {r : Nat} {done : Done} {base : List (Nat × AV)} : ∀ {es : List Edge} {k : Nat} {y : AV}, get (availX p r done es base) k = some y →
    (∃ e ∈ es, Region.binds .any e = true ∧ done[e.on]? = some (some k, y) ∧ p.okV r y = true) ∨ get base k = some y
  | [], k, y, h => .inr h
  | e :: es, k, y, h => by
    have rec_ : get (availX p r done es base) k = some y → (∃ e' ∈ e :: es, Region.binds .any e' = true ∧ done[e'.on]? = some (some k, y) ∧ p.okV r y = true) ∨ get base k = some y := fun h => by
      rcases availX_get h with ⟨e', h1, h2⟩ | h1
      · exact .inl ⟨e', by simp [h1], h2⟩
      · exact .inr h1
    simp only [availX] at h
    split at h
    · rename_i d x hb hd
      split at h
      · rename_i hok
        rw [get_cons] at h
        by_cases hk : d = k
        · rw [if_pos hk] at h
          cases h
          subst hk
          exact .inl ⟨e, by simp, hb, hd, hok⟩
        · rw [if_neg hk] at h
          exact rec_ h
      · exact rec_ h
    · exact rec_ h
theorem killD_get {p : Pl} : ∀ {D : Done} {i : Nat} {d : Nat} {x : AV}, (killD p D)[i]? = some (some d, x) → D[i]? = some (some d, x) ∧ p.ends x = true
  | [], i, d, x, h => by simp [killD] at h
  | (d', x') :: r, i, d, x, h => by
    simp only [killD] at h
    cases i with
    | zero =>
      split at h
      · rename_i he
        simp only [List.getElem?_cons_zero, Option.some.injEq, Prod.mk.injEq] at h
        obtain ⟨rfl, rfl⟩ := h
        exact ⟨rfl, he⟩
      · simp at h
    | succ i =>
      have : (killD p r)[i]? = some (some d, x) := by split at h <;> simpa using h
      simpa using killD_get this

section
variable {P : Program} {T : Tab} {X : Ctx P T} {n : Nat} {e : Env} {st : St} {a : Act} {w : World} {ops : Array Oper} {K : St → Prop}

/-- What an operation makes of the slots. -/
def UpdX (p : Pl) (i : Nat) (dst : Option Nat) (x : AV) (S S' : List (Nat × AV)) : Prop :=
  (∀ d, dst = some d → get S' d = some x) ∧
  (∀ k y, dst ≠ some k → get S k = some y → (∀ q ∈ p.ki, q.1 = i → y.noO q.2 = true) → get S' k = some y) ∧
  (∀ k y, get S' k = some y → (dst = some k ∧ y = x) ∨ get S k = some y ∨ y = .bad)

/-- In whatever order: where these slots are known, the operation yields this, and turns these objects to those. -/
def StepX {P : Program} {T : Tab} (X : Ctx P T) (n : Nat) (ops : Array Oper) (p : Pl) (Si : List (Nat × AV)) (c c2 : List Ch) (i : Nat) (o : Oper) (x : AV) : Prop :=
  ∀ e a w S (K : Act → World → Prop) (Q : Exit → Act → World → Prop), Rel X n e ⟨S, c⟩ a w → (∀ k y, get Si k = some y → get S k = some y) →
    (∀ k y, get S k = some y → ∀ q ∈ p.cre, q.1 = i → y.no q.2 = true) →
    (∀ e' a' w' S', Rel X n e' ⟨S', c2⟩ a' w' → UpdX p i o.dst x S S' → K a' w') →
    if Region.wanted o (yielded ops a.tmps) then o.wp P a w K Q ∨ (o.asks P a w ∧ LetsOut Q) else K (a.put o.dst undef) w

theorem UpdX.put {p : Pl} {i : Nat} {dst : Option Nat} {x : AV} {S : List (Nat × AV)} : UpdX p i dst x S (putS dst x S) := by
  refine ⟨?_, ?_, ?_⟩
  · rintro d rfl; simp only [putS]; rw [get_cons, if_pos rfl]
  · intro k y hk hy _
    cases dst with
    | none => exact hy
    | some d => simp only [putS]; rw [get_cons, if_neg (fun h => hk (by rw [h]))]; exact hy
  · intro k y hy
    cases dst with
    | none => exact .inr (.inl hy)
    | some d =>
      simp only [putS] at hy
      rw [get_cons] at hy
      by_cases h : d = k
      · rw [if_pos h] at hy; cases hy; exact .inl ⟨by rw [h], rfl⟩
      · rw [if_neg h] at hy; exact .inr (.inl hy)

/-- An operation that turns nothing is such a step. -/
theorem StepD.toX {p : Pl} {Si : List (Nat × AV)} {c : List Ch} {i : Nat} {o : Oper} {x : AV} (h : StepD X n ops Si c o x) : StepX X n ops p Si c c i o x :=
  fun e a w S K Q r hS _ hk => h e a w S K Q r hS (fun e' a' w' r' => hk e' a' w' _ r' UpdX.put)

theorem any_of_X {p : Pl} {base : List (Nat × AV)} {C : Nat → List Ch} {D : Done} {Q : Exit → Act → World → Prop} (hE : ∀ e ∈ p.E, e < ops.size) (hEn : p.E.Nodup) (hA : p.ancB ops = true) (hbse : p.baseB base = true) (hD : D.length = ops.size)
    (hstep : ∀ i o, ops[i]? = some o → ∃ x, D[i]? = some (o.dst, x) ∧ p.creB i x = true ∧ ∀ ph, p.lo i ≤ ph → ph ≤ p.hi i → StepX X n ops p (availX p i (D.take i) o.after.toList base) (C ph) (C (if i ∈ p.E then ph + 1 else ph)) i o x)
    (hedge : ∀ i o, ops[i]? = some o → ∀ e ∈ o.after, Region.binds .any e = true → e.on < i)
    (hdist : ∀ (i j : Nat) o o' d, ops[i]? = some o → ops[j]? = some o' → o.dst = some d → o'.dst = some d → i = j)
    (hbase : ∀ (i : Nat) o d, ops[i]? = some o → o.dst = some d → get base d = none)
    (hfin : ∀ e a w, Rel X n e ⟨finS base (killD p D), C p.E.length⟩ a w → Q .normal a w) :
    ∀ (fuel : Nat) (listed : Array Bool) (a : Act) (w : World) (e : Env) (S : List (Nat × AV)), listed.size = ops.size → listed.toList.count false = fuel → ClosedL ops listed → Rel X n e ⟨S, C (p.E.countP fun e => listed.getD e false)⟩ a w →
      (∀ k y, get base k = some y → get S k = some y) →
      (∀ (i : Nat) d x, listed.getD i false = true → D[i]? = some (some d, x) → (∀ q ∈ p.ki, listed.getD q.1 false = true → x.noO q.2 = true) → get S d = some x) →
      (∀ k y, get S k = some y → ∀ q ∈ p.cre, listed.getD q.1 false = false → y.no q.2 = true) →
      wpAny P .any ops Q fuel listed a w := by
  have bspec : ∀ {l : List (Nat × AV)}, p.baseB l = true → ∀ k y, get l k = some y → (∀ q ∈ p.cre, y.no q.2 = true) ∧ ∀ q ∈ p.ki, y.noO q.2 = true := by
    intro l
    induction l with
    | nil => intro _ k y h; simp [get] at h
    | cons z l ih =>
      obtain ⟨j, v⟩ := z
      intro h k y hy
      simp only [Pl.baseB, Bool.and_eq_true, List.all_eq_true] at h
      rw [get_cons] at hy
      by_cases hj : j = k
      · rw [if_pos hj] at hy; cases hy; exact ⟨h.1.1, h.1.2⟩
      · rw [if_neg hj] at hy; exact ih h.2 k y hy
  have ancL : ∀ {listed : Array Bool}, ClosedL ops listed → ∀ i, i < ops.size → (∀ j ∈ predsB ops i, listed.getD j false = true) → ∀ a ∈ p.anc i, listed.getD a false = true := by
    intro listed hc i
    induction i using Nat.strongRecOn with
    | ind i ih =>
      intro hi hp a ha
      have h1 := List.all_eq_true.1 (List.all_eq_true.1 hA i (by simpa using hi)) a ha
      simp only [Bool.or_eq_true, List.contains_iff_mem, List.any_eq_true] at h1
      rcases h1 with h1 | ⟨q, hq, h1⟩
      · exact hp a h1
      · obtain ⟨o, ho, ed, he, hb, rfl⟩ := mem_preds hq
        have hlt := hedge i o ho ed he hb
        refine ih ed.on hlt (by omega) (fun j hj => ?_) a h1
        obtain ⟨o', ho', ed', he', hb', rfl⟩ := mem_preds hj
        exact hc ed.on o' (hp _ hq) ho' ed' he' hb'
  have ancLd : ∀ {listed : Array Bool}, listed.size = ops.size → ClosedL ops listed → ∀ i, listed.getD i false = true → ∀ a ∈ p.anc i, listed.getD a false = true := by
    intro listed hsz hc i hi
    have hlt : i < ops.size := by
      rcases Nat.lt_or_ge i ops.size with h | h
      · exact h
      · rw [← hsz] at h; simp [Nat.not_lt.2 h] at hi
    refine ancL hc i hlt (fun j hj => ?_)
    obtain ⟨o, ho, ed, he, hb, rfl⟩ := mem_preds hj
    exact hc i o hi ho ed he hb
  have progress : ∀ (listed : Array Bool), listed.size = ops.size → Region.ready .any ops listed = [] → ∀ i, i < ops.size → listed.getD i false = true := by
    intro listed hsz hr i
    induction i using Nat.strongRecOn with
    | ind i ih =>
      intro hi
      cases hl : listed.getD i true with
      | true =>
        have : i < listed.size := by omega
        simp [this] at hl ⊢
        exact hl
      | false =>
        exfalso
        have hmem : i ∈ Region.ready .any ops listed := by
          rw [mem_ready]
          refine ⟨hl, ops[i], by simp [hi], fun e he hb => ih e.on (hedge i ops[i] (by simp [hi]) e he hb) ?_⟩
          have := hedge i ops[i] (by simp [hi]) e he hb
          omega
        rw [hr] at hmem
        cases hmem
  have final : ∀ (listed : Array Bool) a w e S, listed.size = ops.size → Region.ready .any ops listed = [] → Rel X n e ⟨S, C (p.E.countP fun e => listed.getD e false)⟩ a w →
      (∀ k y, get base k = some y → get S k = some y) → (∀ (i : Nat) d x, listed.getD i false = true → D[i]? = some (some d, x) → (∀ q ∈ p.ki, listed.getD q.1 false = true → x.noO q.2 = true) → get S d = some x) → Q .normal a w := by
    intro listed a w e S hsz hr r hb hs
    have hcnt : (p.E.countP fun e => listed.getD e false) = p.E.length := by
      rw [List.countP_eq_length]
      intro e he
      exact progress listed hsz hr e (hE e he)
    rw [hcnt] at r
    refine hfin e a w (r.less (fun k y hk => ?_) (fun h => h))
    rcases finS_get hk with ⟨i, hi⟩ | h
    · obtain ⟨hi, he⟩ := killD_get hi
      have hlt : i < D.length := by
        rcases Nat.lt_or_ge i D.length with h | h
        · exact h
        · rw [List.getElem?_eq_none h] at hi; cases hi
      exact hs i k y (progress listed hsz hr i (by omega)) hi (fun q hq _ => List.all_eq_true.1 he q hq)
    · exact hb k y h
  intro fuel
  induction fuel with
  | zero =>
    intro listed a w e S hsz hc hcl r hb hs hcr
    have hall : ∀ i, i < listed.size → listed.getD i true = true := by
      intro i hi
      cases hl : listed.getD i true with
      | true => rfl
      | false =>
        exfalso
        have : false ∈ listed.toList := by
          simp [hi] at hl
          exact List.mem_iff_getElem.2 ⟨i, by simpa using hi, by simpa using hl⟩
        have := List.count_pos_iff.2 this
        omega
    have hr : Region.ready .any ops listed = [] := by
      cases hrr : Region.ready .any ops listed with
      | nil => rfl
      | cons j js =>
        exfalso
        have hm : j ∈ Region.ready .any ops listed := by rw [hrr]; simp
        rw [mem_ready] at hm
        obtain ⟨h0, o, ho, _⟩ := hm
        have hlt : j < ops.size := (Array.getElem?_eq_some_iff.1 ho).1
        rw [hall j (by omega)] at h0
        cases h0
    exact ⟨hr, final listed a w e S hsz hr r hb hs⟩
  | succ fuel ih =>
    intro listed a w e S hsz hc hcl r hb hs hcr
    refine ⟨fun hr => final listed a w e S hsz hr r hb hs, fun i hi => ?_⟩
    rw [mem_ready] at hi
    obtain ⟨h0, o, ho, hpre⟩ := hi
    have hlt : i < ops.size := (Array.getElem?_eq_some_iff.1 ho).1
    have hif : listed.getD i false = false := by
      have : i < listed.size := by omega
      simp [this] at h0 ⊢
      exact h0
    have hlf : listed.toList[i]? = some false := by
      have : i < listed.size := by omega
      simp [this] at h0 ⊢
      exact h0
    have hpl : ∀ j ∈ predsB ops i, listed.getD j false = true := by
      intro j hj
      obtain ⟨o', ho', ed, he, hb', rfl⟩ := mem_preds hj
      rw [ho] at ho'
      cases ho'
      exact hpre ed he hb'
    have hanc := ancL hcl i hlt hpl
    obtain ⟨x, hx, hcre, hst⟩ := hstep i o ho
    unfold wpOp
    simp only [ho]
    have hlo : p.lo i ≤ p.E.countP fun e => listed.getD e false := by
      refine List.countP_mono_left (fun e he h => ?_)
      simp only [List.contains_iff_mem] at h
      exact hanc e h
    have hhi : (p.E.countP fun e => listed.getD e false) ≤ p.hi i := by
      refine List.countP_mono_left (fun e he h => ?_)
      have h : listed.getD e false = true := h
      simp only [Bool.and_eq_true, Bool.not_eq_true']
      refine ⟨?_, ?_⟩
      · cases hb : Nat.beq e i with
        | false => rfl
        | true => have := Nat.eq_of_beq_eq_true hb; subst this; rw [hif] at h; cases h
      · cases hb : (p.anc e).contains i with
        | false => rfl
        | true =>
          simp only [List.contains_iff_mem] at hb
          rw [ancLd hsz hcl e h i hb] at hif; cases hif
    have hav : ∀ k y, get (availX p i (D.take i) o.after.toList base) k = some y → get S k = some y := by
      intro k y hk
      rcases availX_get hk with ⟨ed, h1, h2, h3, h5⟩ | h
      · have h4 : D[ed.on]? = some (some k, y) := by
          rw [List.getElem?_take] at h3
          split at h3
          · exact h3
          · cases h3
        refine hs ed.on k y (hpre ed (by simpa using h1) h2) h4 (fun q hq hql => ?_)
        have h6 := List.all_eq_true.1 h5 q hq
        simp only [Bool.or_eq_true, List.contains_iff_mem] at h6
        rcases h6 with (h6 | h6) | h6
        · exact h6
        · have := Nat.eq_of_beq_eq_true h6
          rw [← this, hif] at hql; cases hql
        · rw [ancLd hsz hcl q.1 hql i h6] at hif; cases hif
      · exact hb k y h
    have hset : ∀ j, j ≠ i → (listed.setIfInBounds i true).getD j false = listed.getD j false := fun j hj => getD_set_ne false (Ne.symm hj)
    have hseti : (listed.setIfInBounds i true).getD i false = true := by
      have : i < listed.size := by omega
      simp [this]
    have hphn : (p.E.countP fun e => (listed.setIfInBounds i true).getD e false) = (if i ∈ p.E then (p.E.countP fun e => listed.getD e false) + 1 else p.E.countP fun e => listed.getD e false) := by
      clear hstep hfin hst hav hlo hhi hE ih r hs hcr hA hbse
      generalize p.E = E at hEn ⊢
      induction E with
      | nil => simp
      | cons q E ihE =>
        simp only [List.nodup_cons] at hEn
        have ih2 := ihE hEn.2
        rw [List.countP_cons, List.countP_cons, ih2]
        by_cases hq : q = i
        · subst hq
          rw [hseti, hif]
          simp [hEn.1]
        · rw [hset q hq]
          have : (i ∈ q :: E) ↔ i ∈ E := by simp [Ne.symm hq]
          simp only [this]
          split <;> omega
    refine hst _ hlo hhi e a w S _ Q r hav (fun k y hy q hq hqi => hcr k y hy q hq (by rw [hqi]; exact hif)) (fun e' a' w' S' r' hu => ?_)
    refine ih (listed.setIfInBounds i true) a' w' e' S' (by simpa using hsz) ?_ ?_ (by rw [hphn]; exact r') (fun k y hk => ?_) (fun j d y hj hy hq => ?_) (fun k y hy q hq hql => ?_)
    · rw [Array.toList_setIfInBounds]
      have hlt' : i < listed.toList.length := by simpa using (by omega : i < listed.size)
      have hg : listed.toList[i] = false := by
        have := List.getElem?_eq_getElem hlt'
        rw [hlf] at this
        simpa using this.symm
      rw [List.count_set hlt', hg, hc]
      simp
    · intro j o' hj ho' ed he hb'
      by_cases hji : j = i
      · subst hji
        rw [ho] at ho'; cases ho'
        have := hpre ed he hb'
        by_cases h : ed.on = j
        · rw [h]; exact hseti
        · rw [hset _ h]; exact this
      · rw [hset j hji] at hj
        have := hcl j o' hj ho' ed he hb'
        by_cases h : ed.on = i
        · rw [h]; exact hseti
        · rw [hset _ h]; exact this
    · refine hu.2.1 k y (fun h => ?_) (hb k y hk) (fun q hq _ => (bspec hbse k y hk).2 q hq)
      rw [hbase i o k ho h] at hk; cases hk
    · by_cases hji : j = i
      · subst hji
        rw [hx] at hy
        simp only [Option.some.injEq, Prod.mk.injEq] at hy
        rw [← hy.2]
        exact hu.1 d hy.1
      · rw [hset j hji] at hj
        have hold := hs j d y hj hy (fun q hqk hql => hq q hqk (by
          by_cases h : q.1 = i
          · rw [h]; exact hseti
          · rw [hset _ h]; exact hql))
        refine hu.2.1 d y (fun h => ?_) hold (fun q hqk hqi => hq q hqk (by rw [hqi]; exact hseti))
        have hjl : j < ops.size := by
          rw [← hD]
          rcases Nat.lt_or_ge j D.length with h | h
          · exact h
          · rw [List.getElem?_eq_none h] at hy; cases hy
        obtain ⟨x', hx', _⟩ := hstep j ops[j] (by simp [hjl])
        rw [hx'] at hy
        simp only [Option.some.injEq, Prod.mk.injEq] at hy
        exact hji (hdist j i ops[j] o d (by simp [hjl]) ho hy.1 h)
    · have hqi : q.1 ≠ i := fun h => by rw [h, hseti] at hql; cases hql
      rw [hset _ hqi] at hql
      rcases hu.2.2 k y hy with ⟨_, rfl⟩ | h | rfl
      · have h6 := List.all_eq_true.1 hcre q hq
        simp only [Bool.or_eq_true, List.contains_iff_mem] at h6
        rcases h6 with (h6 | h6) | h6
        · exact absurd (Nat.eq_of_beq_eq_true h6) hqi
        · rw [hanc q.1 h6] at hql; cases hql
        · exact h6
      · exact hcr k y h q hq hql
      · rfl

/-- The ways through the list. -/
def SymX {P : Program} {T : Tab} (X : Ctx P T) (n : Nat) (ops : Array Oper) (p : Pl) (base : List (Nat × AV)) (C : Nat → List Ch) (K : St → Prop) : List Oper → Done → Prop
  | [], done => K ⟨finS base (killD p done), C p.E.length⟩
  | o :: rest, done => ∃ x, (p.creB done.length x = true ∧ ∀ ph, p.lo done.length ≤ ph → ph ≤ p.hi done.length → StepX X n ops p (availX p done.length done o.after.toList base) (C ph) (C (if done.length ∈ p.E then ph + 1 else ph)) done.length o x) ∧
      SymX X n ops p base C K rest (done ++ [(o.dst, x)])

theorem SymX.plan {p : Pl} {base : List (Nat × AV)} {C : Nat → List Ch} : ∀ {l : List Oper} {done : Done}, SymX X n ops p base C K l done →
    ∃ D : Done, done <+: D ∧ D.length = done.length + l.length ∧ K ⟨finS base (killD p D), C p.E.length⟩ ∧
      ∀ i o, l[i]? = some o → ∃ x, D[done.length + i]? = some (o.dst, x) ∧ p.creB (done.length + i) x = true ∧
        ∀ ph, p.lo (done.length + i) ≤ ph → ph ≤ p.hi (done.length + i) → StepX X n ops p (availX p (done.length + i) (D.take (done.length + i)) o.after.toList base) (C ph) (C (if done.length + i ∈ p.E then ph + 1 else ph)) (done.length + i) o x
  | [], done, h => ⟨done, List.prefix_refl _, by simp, h, fun i o hi => by simp at hi⟩
  | o :: rest, done, h => by
    obtain ⟨x, h1, h2⟩ := h
    obtain ⟨D, hp, hl, hK, hs⟩ := SymX.plan h2
    have hp' : done <+: D := (List.prefix_append done _).trans hp
    refine ⟨D, hp', by simp at hl ⊢; omega, hK, fun i o' hi => ?_⟩
    cases i with
    | zero =>
      simp only [List.getElem?_cons_zero, Option.some.injEq] at hi
      subst hi
      refine ⟨x, ?_, ?_⟩
      · obtain ⟨t, rfl⟩ := hp
        simp
      · obtain ⟨t, rfl⟩ := hp'
        simpa using h1
    | succ i =>
      obtain ⟨y, g1, g2⟩ := hs i o' (by simpa using hi)
      refine ⟨y, ?_, ?_⟩
      · simpa [Nat.add_assoc, Nat.add_comm 1 i] using g1
      · simpa [Nat.add_assoc, Nat.add_comm 1 i] using g2

/-- What is asked of the plan alone. -/
def Pl.fine (p : Pl) (ops : Array Oper) (base : List (Nat × AV)) : Bool :=
  p.ancB ops && p.baseB base && (p.E.all fun e => Nat.blt e ops.toList.length) && chkD base 0 [] ops.toList

theorem C_drawX (p : Pl) {id : Nat} {Q : Exit → St → Prop} {s base : List (Nat × AV)} {c : List Ch} (C : Nat → List Ch) (hb : eraseD ops.toList s = some base) (hchk : p.fine ops base = true) (hEn : p.E.Nodup) (h0 : C 0 = c)
    (h : SymX X n ops p base C (fun s => Q .normal s) ops.toList []) : SymC X n (.region id ops true) ⟨s, c⟩ Q := by
  intro e a w r
  have hbs : ∀ k y, get base k = some y → get s k = some y := fun k y hk => eraseD_get hb hk
  simp only [Pl.fine, Bool.and_eq_true] at hchk
  obtain ⟨⟨⟨g1, g2⟩, g3⟩, g4⟩ := hchk
  obtain ⟨D, _, hl, hK, hs⟩ := h.plan
  obtain ⟨c1, c2⟩ := chkD_spec g4
  have hbel : Below w.heap.size w { w with drawn := w.drawn + 1 } := ⟨rfl, rfl, rfl, Nat.le_refl _, fun _ _ => rfl⟩
  have hEs : ∀ e ∈ p.E, e < ops.size := fun e he => by
    have := List.all_eq_true.1 g3 e he
    simp [Nat.blt] at this; omega
  refine wp_region_any X.wide ?_
  have hrep : ∀ i, (Array.replicate ops.size false).getD i false = false := fun i => by
    rcases Nat.lt_or_ge i ops.size with h | h
    · simp [h]
    · simp [Nat.not_lt.2 h]
  refine any_of_X (X := X) (n := n) (p := p) (base := base) (C := C) (D := D) hEs hEn g1 g2 (by simpa using hl) (fun i o ho => ?_) (fun i o ho => ?_) (fun i j o o' d hi hj => c2 i j o o' d (by simpa using hi) (by simpa using hj)) (fun i o d ho hd => ((c1 i o (by simpa using ho)).2 d hd).1)
    (fun e a w r => ⟨e, _, r, hK⟩) _ _ a _ e base (by simp) (by simp) (fun j o hj => by rw [hrep] at hj; cases hj) ?_ (fun k y hk => hk) (fun i d x hi => by rw [hrep] at hi; cases hi) ?_
  · have := hs i o (by simpa using ho)
    simpa using this
  · simpa using (c1 i o (by simpa using ho)).1
  · have h1 : (p.E.countP fun e => (Array.replicate ops.size false).getD e false) = 0 := by
      rw [List.countP_eq_zero]
      intro e _
      rw [hrep]; simp
    rw [h1, h0]
    exact (r.below hbel).less hbs (fun h => h)
  · intro k y hy q hq _
    have : ∀ {l : List (Nat × AV)}, p.baseB l = true → get l k = some y → y.no q.2 = true := by
      intro l
      induction l with
      | nil => intro _ h; simp [get] at h
      | cons z l ih =>
        obtain ⟨j, v⟩ := z
        intro h hy
        simp only [Pl.baseB, Bool.and_eq_true, List.all_eq_true] at h
        rw [get_cons] at hy
        by_cases hj : j = k
        · rw [if_pos hj] at hy; cases hy; exact h.1.1 q hq
        · rw [if_neg hj] at hy; exact ih h.2 hy
    exact this g2 hy
end
end Go.Sy

/- The symbolic walk, part 36: steps of drawn regions; slices that begin anywhere in owned memory: read, written, grown. -/
set_option linter.unusedSimpArgs false
set_option linter.unusedVariables false
namespace Go.Sy
open Go.RowKit

section
variable {P : Program} {T : Tab} {X : Ctx P T} {n : Nat} {e : Env} {st : St} {a : Act} {w : World} {ops : Array Oper} {K : St → Prop}

def pl0 : Pl := ⟨[], [], [], []⟩

/-- A step of a drawn region is one of a plain region. -/
theorem O_X {o : Oper} {x : AV} {rest : List Oper} {s : List (Nat × AV)} {c c2 : List Ch} (h : StepX X n ops pl0 s c c2 0 o x) (k : SymO X n ops rest ⟨putS o.dst x s, c2⟩ K) : SymO X n ops (o :: rest) ⟨s, c⟩ K := by
  intro e a w Q r hq
  unfold wpList
  exact h e a w s (fun a' w' => wpList P ops Q rest a' w') Q r (fun _ _ h => h) (fun _ _ _ q hq => by cases hq) (fun e' a' w' S' r' hu => k e' a' w' Q (r'.less (fun i y hy => by
    cases hd : o.dst with
    | none =>
      rw [hd] at hy
      exact hu.2.1 i y (by rw [hd]; intro h; cases h) hy (fun q hq => by cases hq)
    | some d =>
      rw [hd] at hy
      simp only [putS] at hy
      rw [get_cons] at hy
      by_cases hdi : d = i
      · rw [if_pos hdi] at hy; cases hy; subst hdi; exact hu.1 d hd
      · rw [if_neg hdi] at hy
        exact hu.2.1 i y (by rw [hd]; intro h; cases h; exact hdi rfl) hy (fun q hq => by cases hq)) (fun h => h)) hq)

theorem O_Xd {d : Nat} {op : Op} {ty : TypeId} {pos : String} {aft : Array Edge} {gd : Option (Nat × Bool)} {x : AV} {rest : List Oper} {s : List (Nat × AV)} {c c2 : List Ch} (h : StepX X n ops pl0 s c c2 0 ⟨some d, op, ty, pos, aft, gd⟩ x) (k : SymO X n ops rest ⟨(d, x) :: s, c2⟩ K) : SymO X n ops (⟨some d, op, ty, pos, aft, gd⟩ :: rest) ⟨s, c⟩ K := O_X h k
theorem O_Xn {op : Op} {ty : TypeId} {pos : String} {aft : Array Edge} {gd : Option (Nat × Bool)} {x : AV} {rest : List Oper} {s : List (Nat × AV)} {c c2 : List Ch} (h : StepX X n ops pl0 s c c2 0 ⟨none, op, ty, pos, aft, gd⟩ x) (k : SymO X n ops rest ⟨s, c2⟩ K) : SymO X n ops (⟨none, op, ty, pos, aft, gd⟩ :: rest) ⟨s, c⟩ K := O_X h k

/-- An operation that gives a value and may turn memory. -/
theorem StepX.val {p : Pl} {Si : List (Nat × AV)} {c c2 : List Ch} {i : Nat} {o : Oper} {x : AV} (hg : guardA ops ⟨Si, c⟩ o = some true) (hd : dstOK n o.dst = true)
    (h : ∀ e a w S, Rel X n e ⟨S, c⟩ a w → Rel X n e ⟨Si, c⟩ a w → ∃ v w' e', (execOp a.eval o).run P w = .ok (.value v) w' ∧ Rel X n e' ⟨S, c2⟩ a w' ∧ Rep e' x v) : StepX X n ops p Si c c2 i o x := by
  intro e a w S K Q r hS _ hk
  have r' : Rel X n e ⟨Si, c⟩ a w := r.less hS (fun h => h)
  rw [if_pos (guardA_sound r' hg)]
  obtain ⟨v, w', e', h1, h2, h3⟩ := h e a w S r r'
  refine .inl ?_
  unfold Oper.wp
  rw [h1]
  exact hk e' _ _ _ (putOK h2 hd h3) UpdX.put

/-- An operation that gives none. -/
theorem StepX.skip {p : Pl} {Si : List (Nat × AV)} {c c2 : List Ch} {i : Nat} {o : Oper} (hg : guardA ops ⟨Si, c⟩ o = some true) (hd : o.dst = none)
    (h : ∀ e a w S, Rel X n e ⟨S, c⟩ a w → Rel X n e ⟨Si, c⟩ a w → ∃ w' e', (execOp a.eval o).run P w = .ok .skip w' ∧ Rel X n e' ⟨S, c2⟩ a w') : StepX X n ops p Si c c2 i o .bad := by
  intro e a w S K Q r hS _ hk
  have r' : Rel X n e ⟨Si, c⟩ a w := r.less hS (fun h => h)
  rw [if_pos (guardA_sound r' hg)]
  obtain ⟨w', e', h1, h2⟩ := h e a w S r r'
  refine .inl ?_
  unfold Oper.wp
  rw [h1]
  have := hk e' a w' (putS o.dst .bad S) (by rw [hd]; exact h2) UpdX.put
  unfold Oper.upon
  show K (a.put o.dst undef) w'
  rw [hd]
  exact this

/-- An operation that leaves memory alone. -/
theorem X_still {p : Pl} {Si : List (Nat × AV)} {c : List Ch} {i : Nat} {o : Oper} {x : AV} (hg : guardA ops ⟨Si, c⟩ o = some true) (hd : dstOK n o.dst = true) (hs : still T ⟨Si, c⟩ o.op = some x) : StepX X n ops p Si c c i o x :=
  StepX.val hg hd (fun e a w S r r' => by
    obtain ⟨v, h2, h1⟩ := still_sound r' hs
    exact ⟨v, w, e, h1 w (SameAs.refl w), r, h2⟩)
theorem X_still1 {p : Pl} {Si : List (Nat × AV)} {c : List Ch} {i : Nat} {o : Oper} {x : AV} {vc : Prop} (hg : guardA ops ⟨Si, c⟩ o = some true) (hd : dstOK n o.dst = true) (hs : still1 T ⟨Si, c⟩ o.op = some (vc, x)) (hv : vc) : StepX X n ops p Si c c i o x :=
  StepX.val hg hd (fun e a w S r r' => by
    obtain ⟨v, h2, h1⟩ := still1_sound r' hs hv
    exact ⟨v, w, e, h1 w (SameAs.refl w), r, h2⟩)
/-- An operation that is left out. -/
theorem X_none {p : Pl} {Si : List (Nat × AV)} {c : List Ch} {i : Nat} {o : Oper} (hg : guardA ops ⟨Si, c⟩ o = some false) (hd : dstOK n o.dst = true) : StepX X n ops p Si c c i o (.tup []) := by
  intro e a w S K Q r hS _ hk
  have r' : Rel X n e ⟨Si, c⟩ a w := r.less hS (fun h => h)
  rw [if_neg (by rw [guardA_sound r' hg]; decide)]
  exact hk _ _ _ _ (putOK r hd (by simp [Rep, RepT, undef])) UpdX.put

def stillX (T : Tab) (st : St) (op : Op) : Option (Prop × AV) :=
  match still T st op with
  | some x => some (True, x)
  | none => match still1 T st op with
    | some q => some q
    | none => match buildA T st op with
      | some x => some (True, x)
      | none => none
theorem X_stillX {p : Pl} {Si : List (Nat × AV)} {c : List Ch} {i : Nat} {o : Oper} {x : AV} {vc : Prop} (hg : guardA ops ⟨Si, c⟩ o = some true) (hd : dstOK n o.dst = true) (hs : stillX T ⟨Si, c⟩ o.op = some (vc, x)) (hv : vc) : StepX X n ops p Si c c i o x := by
  unfold stillX at hs
  split at hs
  · rename_i y hy
    simp only [Option.some.injEq, Prod.mk.injEq] at hs
    rw [← hs.2]
    exact X_still hg hd hy
  · split at hs
    · rename_i q hq
      simp only [Option.some.injEq] at hs
      subst hs
      exact X_still1 hg hd hq hv
    · split at hs
      · rename_i y hy
        simp only [Option.some.injEq, Prod.mk.injEq] at hs
        rw [← hs.2]
        exact StepX.val hg hd (fun e a w S r r' => by
          obtain ⟨v, h2, h1⟩ := buildA_sound r' hy
          exact ⟨v, w, e, h1 w, r, h2⟩)
      · cases hs
/-- What needs no memory holds with any. -/
theorem StepX.any {p : Pl} {Si : List (Nat × AV)} {c : List Ch} {i : Nat} {o : Oper} {x : AV} {vc : Prop} (hg : guardA ops ⟨Si, []⟩ o = some true) (hd : dstOK n o.dst = true) (hs : stillX T ⟨Si, []⟩ o.op = some (vc, x)) (hv : vc) : StepX X n ops p Si c c i o x := by
  intro e a w S K Q r hS hcr hk
  have r' : Rel X n e ⟨Si, []⟩ a w := r.less hS (fun h => ⟨[], rfl, fun _ h => (by cases h), by simp, fun _ h => (by cases h)⟩)
  rw [if_pos (guardA_sound r' hg)]
  have key : ∃ v, Rep e x v ∧ (execOp a.eval o).run P w = .ok (.value v) w := by
    unfold stillX at hs
    split at hs
    · rename_i y hy
      simp only [Option.some.injEq, Prod.mk.injEq] at hs
      rw [← hs.2]
      obtain ⟨v, h2, h1⟩ := still_sound r' hy
      exact ⟨v, h2, h1 w (SameAs.refl w)⟩
    · split at hs
      · rename_i q hq
        simp only [Option.some.injEq] at hs
        subst hs
        obtain ⟨v, h2, h1⟩ := still1_sound r' hq hv
        exact ⟨v, h2, h1 w (SameAs.refl w)⟩
      · split at hs
        · rename_i y hy
          simp only [Option.some.injEq, Prod.mk.injEq] at hs
          rw [← hs.2]
          obtain ⟨v, h2, h1⟩ := buildA_sound r' hy
          exact ⟨v, h2, h1 w⟩
        · cases hs
  obtain ⟨v, h2, h1⟩ := key
  refine .inl ?_
  unfold Oper.wp
  rw [h1]
  exact hk _ _ _ _ (putOK r hd h2) UpdX.put

/-- One step of a drawn region of effects, by reckoning: an operation that needs no memory. -/
def stepXK {P : Program} {T : Tab} (X : Ctx P T) (n : Nat) (ops : Array Oper) (p : Pl) (base : List (Nat × AV)) (C : Nat → List Ch) (K : St → Prop) : List Oper → Done → Option Prop
  | [], done => normG (finS base (killD p done)) fun s => some (K ⟨s, C p.E.length⟩)
  | o :: rest, done => normG (availX p done.length done o.after.toList base) fun Si => match guardA ops ⟨Si, []⟩ o, dstOK n o.dst with
    | some true, true => (match stillX T ⟨Si, []⟩ o.op with
      | some (vc, x) => normA x fun x => (match p.creB done.length x, !(p.E.contains done.length) with
        | true, true => normG (done ++ [(o.dst, x)]) fun done => some (vc ∧ SymX X n ops p base C K rest done)
        | _, _ => none)
      | none => none)
    | some false, true => (match p.creB done.length (.tup []), !(p.E.contains done.length) with
        | true, true => normG (done ++ [(o.dst, .tup [])]) fun done => some (SymX X n ops p base C K rest done)
        | _, _ => none)
    | _, _ => none

theorem not_mem_of_contains {l : List Nat} {k : Nat} (h : (!(l.contains k)) = true) : k ∉ l := by
  simp at h; exact h

theorem guardA_any {Si : List (Nat × AV)} {c c' : List Ch} {o : Oper} : guardA ops ⟨Si, c⟩ o = guardA ops ⟨Si, c'⟩ o := by
  unfold guardA
  rfl

theorem sx {p : Pl} {base : List (Nat × AV)} {C : Nat → List Ch} {l : List Oper} {done : Done} {q : Prop} (h : stepXK X n ops p base C K l done = some q) (hq : q) : SymX X n ops p base C K l done := by
  cases l with
  | nil =>
    simp only [stepXK, normG_eq, Option.some.injEq] at h
    subst h
    exact hq
  | cons o rest =>
    simp only [stepXK, normG_eq, normA_eq] at h
    split at h
    · rename_i hg hd
      split at h
      · rename_i vc x hs
        split at h
        · rename_i hc hE
          simp only [Option.some.injEq] at h
          subst h
          refine ⟨x, ⟨hc, fun ph _ _ => ?_⟩, hq.2⟩
          rw [if_neg (not_mem_of_contains hE)]
          exact StepX.any hg hd hs hq.1
        · cases h
      · cases h
    · rename_i hg hd
      split at h
      · rename_i hc hE
        simp only [Option.some.injEq] at h
        subst h
        refine ⟨.tup [], ⟨hc, fun ph _ _ => ?_⟩, hq⟩
        rw [if_neg (not_mem_of_contains hE)]
        exact X_none (by rw [guardA_any (c' := [])]; exact hg) hd
      · cases h
    · cases h

/-- One step of a drawn region of effects, told. -/
theorem SX {p : Pl} {base : List (Nat × AV)} {C : Nat → List Ch} {o : Oper} {rest : List Oper} {done : Done} (x : AV) (hc : p.creB done.length x = true)
    (h : ∀ ph, p.lo done.length ≤ ph → ph ≤ p.hi done.length → StepX X n ops p (availX p done.length done o.after.toList base) (C ph) (C (if done.length ∈ p.E then ph + 1 else ph)) done.length o x)
    (k : normG (done ++ [(o.dst, x)]) fun done => SymX X n ops p base C K rest done) : SymX X n ops p base C K (o :: rest) done := by
  rw [normG_eq] at k
  exact ⟨x, ⟨hc, h⟩, k⟩

/-! ### Reads and writes at known addresses, as such steps -/
theorem X_loadP (q : Nat) {p : Pl} {A : Abs} {cells : List AV} {t : TypeId} {i : TI} {x : Operand} {d : Option Nat} {b o : Nat} {av : AV} {ty : TypeId} {pos : String} {aft : Array Edge} {gd : Option (Nat × Bool)} {j : Nat} {Si : List (Nat × AV)} {c cr : List Ch}
    (hR : Reads A b o cells) (hg : guardA ops ⟨Si, c⟩ ⟨d, .load t x, ty, pos, aft, gd⟩ = some true) (hx : opd Si x = some (PT b o)) (hp : nthA q c = some (A, cr)) (hT : T t = some i) (hl : loadA i cells = some av) (hd : dstOK n d = true) :
    StepX X n ops p Si c c j ⟨d, .load t x, ty, pos, aft, gd⟩ av :=
  StepX.val hg hd (fun e a w S r r' => by
    have h1 := opd_sound r' hx
    simp only [Rep] at h1
    obtain ⟨hok, _⟩ := r.heap.nth hp
    have hrd : Readable e w b o cells := fun j c hc => by
      obtain ⟨z, z1, z2, z3⟩ := hR _ _ hok j c hc
      exact ⟨z, z1, RepI.toRep c z2, z3⟩
    obtain ⟨v, g4, g3⟩ := load_sound X.ok hT hrd hl
    refine ⟨v, w, e, ?_, r, g4⟩
    simp only [execOp, h1, Instr.loadAt, Instr.sureAddr, Sem.run_bind, Sem.run_pure, Result.andThen_ok, g3 w (SameAs.refl w)])

theorem X_storeP (q : Nat) {p : Pl} {A A' : Abs} {t : TypeId} {by_ : Nat} {z : List Value} {dd : TD} {ad xo : Operand} {b o : Nat} {x : AV} {ty : TypeId} {pos : String} {aft : Array Edge} {gd : Option (Nat × Bool)} {j : Nat} {Si : List (Nat × AV)} {c cr : List Ch}
    (hW : Writes A b o x A') (hg : guardA ops ⟨Si, c⟩ ⟨none, .store t ad xo, ty, pos, aft, gd⟩ = some true) (hT : T t = some ⟨1, by_, false, z, dd⟩) (hp : nthA q c = some (A, cr)) (had : opd Si ad = some (PT b o)) (hx : opd Si xo = some x) (hcb : x.cellB = true) (himm : x.imm = true) :
    StepX X n ops p Si c (.abs A' :: cr) j ⟨none, .store t ad xo, ty, pos, aft, gd⟩ .bad :=
  StepX.skip hg rfl (fun e a w S r r' => by
    have h1 := opd_sound r' had
    have h2 := opd_sound r' hx
    simp only [Rep] at h1
    have hv := cellB_one h2 hcb
    obtain ⟨hok, _⟩ := r.heap.nth hp
    obtain ⟨w1, w2, w3⟩ := hW.2.2 _ _ _ hok (Rep.toI x himm h2) hv
    have hrun := run_store1 (w := w) (ρ := a.eval) (ty := ty) (pos := pos) (aft := aft) (gd := gd) X.ok hT h1 rfl hv w1 w2
    exact ⟨_, e, hrun, r.absWrite (st := ⟨S, c⟩) hp hW.1 hW.2.1 w3⟩)

/-- A call that turns memory at known addresses, in one way. -/
theorem X_callA (is : List Nat) {p : Pl} {f : FuncId} {dst : Nat} {args : Array Operand} {tys : Array TypeId} {ty : TypeId} {pos : String} {aft : Array Edge} {gd : Option (Nat × Bool)} {j : Nat} {avs : List AV} {cs cs1 : List Abs} {cr : List Ch} {x : AV}
    {Si : List (Nat × AV)} {c : List Ch} (hf : FnA P f avs cs (fun r cs' => r = x ∧ cs' = cs1)) (hg : guardA ops ⟨Si, c⟩ ⟨some dst, .call ⟨.value (.func f), args, tys⟩, ty, pos, aft, gd⟩ = some true) (ha : opds Si args.toList = some avs) (himm : AV.imm.immL avs = true)
    (hp : pickA is c = some (cs, cr)) (hd : Nat.blt dst n = true) :
    StepX X n ops p Si c (cs1.map Ch.abs ++ cr) j ⟨some dst, .call ⟨.value (.func f), args, tys⟩, ty, pos, aft, gd⟩ x := by
  intro e a w S K Q r hS _ hk
  have r' : Rel X n e ⟨Si, c⟩ a w := r.less hS (fun h => h)
  rw [if_pos (guardA_sound r' hg)]
  refine .inl ?_
  unfold Oper.wp
  rw [run_call hf.1 a.eval rfl w, Oper.upon_enter]
  have h1 := RepT.toI avs himm (opds_sound r' ha)
  rw [map_eval]
  have hd2 := (r.heap.perm (pickA_perm hp)).absOK
  refine (hf.2 e.G w _ ⟨r.im, r.mz⟩ h1 hd2.1).mono ?_
  rintro en w' ⟨rv, cv, cs', G', ⟨rfl, rfl⟩, rfl, g1, g2, g3, g4, g5, g6, o1, o2, o3, o4, o5⟩
  have r2 := r.swapAbs (st := ⟨S, c⟩) (pickA_perm hp) g2 g4 g3 g5 g6 ⟨o1, o2, o3⟩ o4 o5
  exact hk _ _ _ _ (r2.put hd (RepI.toRep (e := ⟨G', e.μ, e.hd⟩) rv g1)) UpdX.put

/-! ### Slices that begin anywhere -/
/-- The elements of a slice whose header is known, wherever it begins in its block. -/
def slO (h : Value) (T : TypeId) (esz : Nat) (cells : List AV) : Abs where
  bs := h.ownBlock.toList
  ok := fun G w => ∃ m, cells.length = m * esz ∧ ((h = .slice none 0 0 ∧ m = 0) ∨ ∃ g o c cur, h = .slice (some ⟨g, o, none⟩) m c ∧ m ≤ c ∧ c ≤ maxLen ∧ w.heap[g]? = some (.cells cur T (0, 0)) ∧ o + c * esz ≤ cur.size ∧
    RepIL G cells ((cur.toList.drop o).take (m * esz)))
  keep := by
    rintro G H w w' hG hb ⟨m, h1, h2⟩
    refine ⟨m, h1, ?_⟩
    rcases h2 with h2 | ⟨g, o, c, cur, rfl, h3, h4, h5, h6, h7⟩
    · exact .inl h2
    · exact .inr ⟨g, o, c, cur, rfl, h3, h4, by rw [hb g (by simp [Value.ownBlock])]; exact h5, h6, RepIL.mono hG cells h7⟩

abbrev HO (g o m c : Nat) : Value := .slice (some ⟨g, o, none⟩) m c

theorem slO_ho {g o m c : Nat} {t : TypeId} {esz : Nat} {cells : List AV} {G : IM} {w : World} (h : (slO (HO g o m c) t esz cells).ok G w) : cells.length = m * esz ∧ m ≤ c ∧ c ≤ maxLen ∧ ∃ cur, w.heap[g]? = some (.cells cur t (0, 0)) ∧ o + c * esz ≤ cur.size ∧
    RepIL G cells ((cur.toList.drop o).take (m * esz)) := by
  obtain ⟨m', h1, h2⟩ := h
  rcases h2 with ⟨h2, _⟩ | ⟨g', o', c', cur, h2, h3, h4, h5, h6, h7⟩
  · cases h2
  · simp only [HO, Value.slice.injEq, Option.some.injEq, Addr.mk.injEq, and_true] at h2
    obtain ⟨⟨rfl, rfl⟩, rfl, rfl⟩ := h2
    exact ⟨h1, h3, h4, cur, h5, h6, h7⟩

theorem reads_slO {g o m c : Nat} {t : TypeId} {esz : Nat} {cells : List AV} (j : Nat) : Reads (slO (HO g o m c) t esz cells) g (o + j) (cells.drop j) := by
  rintro G w hok i x hx
  obtain ⟨h1, h2, h3, cur, h5, h6, h7⟩ := slO_ho hok
  rw [List.getElem?_drop] at hx
  obtain ⟨z, z1, z2, z3⟩ := h7.get _ x hx
  refine ⟨z, ?_, z2, z3⟩
  rw [cell_of_row w g _ cur t (0, 0) h5]
  have hlt : j + i < m * esz := by
    rcases Nat.lt_or_ge (j + i) (m * esz) with h | h
    · exact h
    · rw [List.getElem?_eq_none (by omega)] at hx; cases hx
  rw [List.getElem?_take, if_pos hlt, List.getElem?_drop] at z1
  rw [Nat.add_assoc]
  simpa using z1

theorem writes_slO {g o m c : Nat} {t : TypeId} {esz : Nat} {cells : List AV} {j : Nat} {x : AV} (hj : j < cells.length) : Writes (slO (HO g o m c) t esz cells) g (o + j) x (slO (HO g o m c) t esz (cells.set j x)) := by
  refine ⟨by simp [slO, Value.ownBlock], rfl, ?_⟩
  rintro G w v hok hx hv
  obtain ⟨h1, h2, h3, cur, h5, h6, h7⟩ := slO_ho hok
  have hmc : m * esz ≤ c * esz := Nat.mul_le_mul_right _ h2
  have hin : o + j < cur.size := by omega
  refine ⟨by rw [cell_of_row w g _ cur t (0, 0) h5]; simp [hin], by simp [World.frozen?, h5], m, by simpa using h1, .inr ⟨g, o, c, cur.setIfInBounds (o + j) v, rfl, h2, h3, by rw [setCell_heap h5], by simpa using h6, ?_⟩⟩
  refine RepIL.mk ?_ (fun i y hy => ?_)
  · have := h7.len
    simp only [List.length_take, List.length_drop, Array.length_toList, List.length_set, Array.size_setIfInBounds] at this ⊢
    exact this
  · rw [List.getElem?_set] at hy
    have hil : i < m * esz := by
      rcases Nat.lt_or_ge i cells.length with h | h
      · omega
      · split at hy
        · rename_i e; omega
        · rw [List.getElem?_eq_none h] at hy; cases hy
    rw [List.getElem?_take, if_pos hil, List.getElem?_drop, Array.toList_setIfInBounds, List.getElem?_set]
    by_cases hji : j = i
    · subst hji
      rw [if_pos rfl, if_pos hj] at hy
      cases hy
      rw [if_pos rfl, if_pos (by simpa using hin)]
      exact ⟨v, rfl, hx, hv⟩
    · rw [if_neg hji] at hy
      rw [if_neg (by omega)]
      obtain ⟨z, z1, z2, z3⟩ := h7.get i y hy
      rw [List.getElem?_take, if_pos hil, List.getElem?_drop] at z1
      exact ⟨z, z1, z2, z3⟩

/-- What is known of such a slice's header. -/
theorem slO_shape {h : Value} {t : TypeId} {esz : Nat} {cells : List AV} {G : IM} {w : World} (hk : (slO h t esz cells).ok G w) : (h = .slice none 0 0 ∧ cells = []) ∨ ∃ g o m c, h = HO g o m c ∧ cells.length = m * esz ∧ m ≤ c ∧ c ≤ maxLen := by
  obtain ⟨m, h1, h2⟩ := hk
  rcases h2 with ⟨h2, rfl⟩ | ⟨g, o, c, cur, rfl, h3, h4, h5, h6, h7⟩
  · exact .inl ⟨h2, List.eq_nil_of_length_eq_zero (by simpa using h1)⟩
  · exact .inr ⟨g, o, m, c, rfl, h1, h3, h4⟩

theorem C_slO {Q : Exit → St → Prop} {cd : Code} {s : List (Nat × AV)} {c cr : List Ch} (q : Nat) {h : Value} {t : TypeId} {esz : Nat} {cells : List AV} (hp : nthA q c = some (slO h t esz cells, cr))
    (h0 : h = .slice none 0 0 → cells = [] → SymC X n cd ⟨s, c⟩ Q) (h1 : ∀ g o m cc, h = HO g o m cc → cells.length = m * esz → m ≤ cc → cc ≤ maxLen → SymC X n cd ⟨s, c⟩ Q) : SymC X n cd ⟨s, c⟩ Q := fun e a w r => by
  obtain ⟨hok, _⟩ := r.heap.nth hp
  rcases slO_shape hok with ⟨k1, k2⟩ | ⟨g, o, m, cc, k1, k2, k3, k4⟩
  · exact h0 k1 k2 e a w r
  · exact h1 g o m cc k1 k2 k3 k4 e a w r
theorem O_slO {l : List Oper} {s : List (Nat × AV)} {c cr : List Ch} (q : Nat) {h : Value} {t : TypeId} {esz : Nat} {cells : List AV} (hp : nthA q c = some (slO h t esz cells, cr))
    (h0 : h = .slice none 0 0 → cells = [] → SymO X n ops l ⟨s, c⟩ K) (h1 : ∀ g o m cc, h = HO g o m cc → cells.length = m * esz → m ≤ cc → cc ≤ maxLen → SymO X n ops l ⟨s, c⟩ K) : SymO X n ops l ⟨s, c⟩ K := fun e a w Q r => by
  obtain ⟨hok, _⟩ := r.heap.nth hp
  rcases slO_shape hok with ⟨k1, k2⟩ | ⟨g, o, m, cc, k1, k2, k3, k4⟩
  · exact h0 k1 k2 e a w Q r
  · exact h1 g o m cc k1 k2 k3 k4 e a w Q r

/-- Chunks told in other words, of the same blocks. -/
theorem Le.retell (q : Nat) {A A' : Abs} {s : List (Nat × AV)} {c cr : List Ch} (hp : nthA q c = some (A, cr)) (hbs : A'.bs = A.bs) (hok : ∀ G w, A.ok G w → A'.ok G w) : Le X n ⟨s, c⟩ ⟨s, .abs A' :: cr⟩ := fun e a w r =>
  ⟨e, { r with heap := HeapOK.retell (r.heap.perm (nthA_perm hp)) (fun bs h => by
    obtain ⟨rfl, h2⟩ := h
    exact ⟨hbs.symm, hok _ _ h2⟩) }⟩

/-- The first elements struck. -/
theorem slO_drop {g o m c : Nat} {t : TypeId} {esz : Nat} {cells : List AV} (k : Nat) (hk : k ≤ m) : ∀ G w, (slO (HO g o m c) t esz cells).ok G w → (slO (HO g (if c - k = 0 then o else o + k * esz) (m - k) (c - k)) t esz (cells.drop (k * esz))).ok G w := by
  intro G w hok
  obtain ⟨h1, h2, h3, cur, h5, h6, h7⟩ := slO_ho hok
  have hmc : m * esz ≤ c * esz := Nat.mul_le_mul_right _ h2
  have e1 : (m - k) * esz = m * esz - k * esz := Nat.sub_mul ..
  have e2 : (c - k) * esz = c * esz - k * esz := Nat.sub_mul ..
  have e3 : k * esz ≤ m * esz := Nat.mul_le_mul_right _ hk
  refine ⟨m - k, by rw [List.length_drop, h1, e1], .inr ⟨g, _, c - k, cur, rfl, by omega, by omega, h5, ?_, ?_⟩⟩
  · split
    · rename_i hz; rw [hz]; omega
    · rw [e2]; omega
  · have hl := h7.len
    refine RepIL.mk ?_ (fun i y hy => ?_)
    · simp only [List.length_take, List.length_drop, Array.length_toList] at hl ⊢
      rw [e1, h1]
      split
      · rename_i hz
        have : m - k = 0 := by omega
        rw [this, Nat.zero_mul] at e1
        omega
      · omega
    · have hil : i < (m - k) * esz := by
        rcases Nat.lt_or_ge i ((m - k) * esz) with h | h
        · exact h
        · rw [List.getElem?_eq_none (by rw [List.length_drop, h1]; omega)] at hy; cases hy
      have hne : ¬ c - k = 0 := by
        intro hz
        have : m - k = 0 := by omega
        rw [this, Nat.zero_mul] at hil; omega
      rw [if_neg hne, List.getElem?_take, if_pos hil, List.getElem?_drop]
      rw [List.getElem?_drop] at hy
      obtain ⟨z, z1, z2, z3⟩ := h7.get _ y hy
      rw [List.getElem?_take, if_pos (by omega), List.getElem?_drop] at z1
      exact ⟨z, by rw [← z1]; congr 1; omega, z2, z3⟩

/-- Only the first elements kept. -/
theorem slO_take {g o m c : Nat} {t : TypeId} {esz : Nat} {cells : List AV} (k : Nat) (hk : k ≤ m) : ∀ G w, (slO (HO g o m c) t esz cells).ok G w → (slO (HO g o k c) t esz (cells.take (k * esz))).ok G w := by
  intro G w hok
  obtain ⟨h1, h2, h3, cur, h5, h6, h7⟩ := slO_ho hok
  have e3 : k * esz ≤ m * esz := Nat.mul_le_mul_right _ hk
  have e4 : m * esz ≤ c * esz := Nat.mul_le_mul_right _ h2
  refine ⟨k, by rw [List.length_take]; omega, .inr ⟨g, o, c, cur, rfl, by omega, h3, h5, h6, ?_⟩⟩
  refine RepIL.mk ?_ (fun i y hy => ?_)
  · simp only [List.length_take, List.length_drop, Array.length_toList]
    omega
  · have hil : i < k * esz := by
      rcases Nat.lt_or_ge i (k * esz) with h | h
      · exact h
      · rw [List.getElem?_take, if_neg (by omega)] at hy; cases hy
    rw [List.getElem?_take, if_pos hil] at hy
    obtain ⟨z, z1, z2, z3⟩ := h7.get i y hy
    rw [List.getElem?_take, if_pos (by omega)] at z1
    exact ⟨z, by rw [List.getElem?_take, if_pos hil]; exact z1, z2, z3⟩

theorem ownsRow_slO {G : IM} {base : Nat} {t : TypeId} {esz m : Nat} {v : Value} {xs : List Value} {cells : List AV} (h : w.ownsRow base t esz v m xs) (hr : RepIL G cells xs) : (slO v t esz cells).ok G w := by
  refine ⟨m, by rw [← hr.len]; exact h.1, ?_⟩
  rcases h.2 with ⟨h1, h2⟩ | ⟨g, cap, cur, h1, _, h3, h4, h5, h6, h7⟩
  · exact .inl ⟨h1, h2⟩
  · exact .inr ⟨g, 0, cap, cur, h1, h4, h5, h3, by omega, by rw [List.drop_zero, h7]; exact hr⟩

/-- A cell of such a slice is read. -/
theorem O_loadO (q : Nat) {g o m cc : Nat} {tt : TypeId} {esz j : Nat} {cells : List AV} {t : TypeId} {by_ : Nat} {z : List Value} {dd : TD} {x : Operand} {d : Nat} {av : AV} {ty : TypeId} {pos : String} {aft : Array Edge} {gd : Option (Nat × Bool)} {rest : List Oper} {s : List (Nat × AV)} {c cr : List Ch}
    (hj : cells[j]? = some av) (hg : guardA ops ⟨s, c⟩ ⟨some d, .load t x, ty, pos, aft, gd⟩ = some true) (hx : opd s x = some (PT g (o + j))) (hp : nthA q c = some (slO (HO g o m cc) tt esz cells, cr)) (hT : T t = some ⟨1, by_, false, z, dd⟩) (hd : Nat.blt d n = true)
    (k : SymO X n ops rest ⟨(d, av) :: s, c⟩ K) : SymO X n ops (⟨some d, .load t x, ty, pos, aft, gd⟩ :: rest) ⟨s, c⟩ K :=
  O_loadP q (reads_slO j) hg hx hp hT (by show (cells.drop j).head? = some av; rw [List.head?_drop]; exact hj) hd k

/-- append(s, x): one element more, at known addresses. -/
theorem O_appendO (q : Nat) {dst : Nat} {so_ xo : Operand} {t ty : TypeId} {pos : String} {aft : Array Edge} {rest : List Oper} {s : List (Nat × AV)} {c cr : List Ch} {h : Value} {el : Nat} {row : Nat → List AV} {cells : List AV} {x : AV} {by_ : Nat} {sz0 b0 : Nat} {ag0 ag1 : Bool} {z0 z1 : List Value} {d1 : TD}
    (hTs : T t = some ⟨sz0, b0, ag0, z0, .slice el⟩) (hTe : T el = some ⟨1, by_, ag1, z1, d1⟩)
    (hso : opd s so_ = some (.v h)) (hp : nthA q c = some (slO h el 1 cells, cr)) (hxo : opd s xo = some (.sl 1 1 row)) (hrow : row 0 = [x])
    (hd : Nat.blt dst n = true) (hlen : (cells.length + 1) * by_ ≤ 140737488355328) (hlen2 : cells.length + 1 ≤ maxLen)
    (k : ∀ v', (∃ g o m cc, v' = HO g o m cc) → SymO X n ops rest ⟨(dst, .v v') :: s, .abs (slO v' el 1 (cells ++ [x])) :: cr⟩ K) :
    SymO X n ops (⟨some dst, .call ⟨.builtin .append, #[so_, xo], #[t, t]⟩, ty, pos, aft, none⟩ :: rest) ⟨s, c⟩ K := by
  intro e a w Q r hq
  obtain ⟨pi, z, i1, i2, i3, i4, i5, i6, i7⟩ := (X.ok _ _ hTe).info
  obtain ⟨dd, e1, _, e3⟩ := (X.ok _ _ hTs).desc
  simp only [TDOK] at e3
  subst e3
  have hso' := opd_sound r hso
  simp only [Rep] at hso'
  have hxo' := opd_sound r hxo
  simp only [Rep, RepI] at hxo'
  have hzs : z.cells.size = 1 := by
    have : z.cells.toList.length = 1 := by rw [i5]; exact i7
    simpa using this
  obtain ⟨ax, cx, hx1, hx2, hx3⟩ := hxo'
  rcases hx3 with hx3 | ⟨bx, ox, rfl, hx3⟩
  · cases hx3
  have hc0 := hx3 0 (by omega)
  rw [hrow, Nat.zero_mul, Nat.add_zero] at hc0
  obtain ⟨⟨u, hu1, hu2, hu3⟩, _⟩ := hc0
  have hcell := r.im _ _ _ hu1
  have hnews : ∀ (j : Nat) (u' : Value), ([u] : List Value)[j]? = some u' → w.cell? ((⟨bx, ox, none⟩ : Addr).add j) = some u' := by
    intro j u' hj
    cases j with
    | zero => simp at hj; subst hj; rw [add_addr]; simpa using hcell
    | succ j => simp at hj
  obtain ⟨hok, hgood, hnd⟩ := r.heap.nth hp
  have hperm : c.Perm ([slO h el 1 cells].map Ch.abs ++ cr) := by simpa using nthA_perm hp
  have hbl : ∀ B : Abs, blocks [B] = B.bs := fun B => by simp [blocks]
  have fin : ∀ (v' : Value) (w' : World), (Builtin.append_ #[t, t] ty #[h, .slice (some ⟨bx, ox, none⟩) 1 cx]).run P w = .ok v' w' → (slO v' el 1 (cells ++ [x])).ok e.G w' → (∃ g o m cc, v' = HO g o m cc) →
      (∀ b, b < w.heap.size → b ∉ (slO h el 1 cells).bs → w'.heap[b]? = w.heap[b]?) → (∀ b ∈ (slO v' el 1 (cells ++ [x])).bs, b < w'.heap.size ∧ (w.heap.size ≤ b ∨ b ∈ (slO h el 1 cells).bs)) →
      w'.os = w.os ∧ w'.tape = w.tape ∧ w'.output = w.output → w.heap.size ≤ w'.heap.size → wpList P ops Q (⟨some dst, .call ⟨.builtin .append, #[so_, xo], #[t, t]⟩, ty, pos, aft, none⟩ :: rest) a w := by
    intro v' w' hrun0 hok' hsh hoth hbs' ho hsz
    unfold wpList
    rw [if_pos (by simp [Region.wanted])]
    refine .inl ?_
    unfold Oper.wp
    have hrun : (execOp a.eval ⟨some dst, .call ⟨.builtin .append, #[so_, xo], #[t, t]⟩, ty, pos, aft, none⟩).run P w = .ok (.value v') w' := by
      simp only [execOp, resolve, invoke, builtin, Sem.run_bind, Sem.run_pure, Result.andThen_ok, List.map_toArray, List.map_cons, List.map_nil, hso', hx1, hrun0]
    rw [hrun]
    have hfree : ∀ b ∈ (slO v' el 1 (cells ++ [x])).bs, e.G.free b := fun b hb => by
      rcases (hbs' b hb).2 with h1 | h1
      · exact r.free h1
      · exact (hgood b h1).2.2
    have r2 := r.swapAbs (st := ⟨s, c⟩) (As := [slO h el 1 cells]) (As' := [slO v' el 1 (cells ++ [x])]) (G' := e.G) (w' := w') hperm (IM.le_refl _) ⟨?_, ?_⟩ ⟨fun b o v h => .inl h, fun b x h => .inl h⟩ ⟨?_, ?_, ?_⟩ ?_ ho hsz ?_
    · exact k v' hsh _ _ _ Q (r2.put (x := .v v') (v := v') hd (by simp only [Rep])) hq
    · intro b o v hv
      have h1 := r.im b o v hv
      simp only [World.cell?] at h1 ⊢
      rw [hoth b (r.glt0 _ _ _ hv) (fun hin => by rw [(hgood b hin).2.2.1 o] at hv; cases hv)]
      exact h1
    · exact r.mzKeep (fun b hb hf => hoth b hb (fun hin => hf (hgood b hin).2.2))
    · intro B hB
      simp only [List.mem_singleton] at hB
      subst hB; exact hok'
    · rw [hbl]
      obtain ⟨g, o, m, cc, rfl⟩ := hsh
      simp [slO, Value.ownBlock]
    · intro b hb
      rw [hbl] at hb
      exact ⟨(hbs' b hb).1, hfree b hb⟩
    · intro b hb
      rw [hbl] at hb ⊢
      exact (hbs' b hb).2
    · intro b hb hnin _
      rw [hbl] at hnin
      exact hoth b hb hnin
  have hone : ∀ u' ∈ ([u] : List Value), u'.oneCell' = true := fun u' hu' => by simp at hu'; subst hu'; exact hu3
  have hrep1 : RepIL e.G [x] [u] := by simp only [RepIL]; exact ⟨u, [], rfl, hu2, hu3, rfl⟩
  rcases slO_shape hok with ⟨hh, hcs⟩ | ⟨g, o, m, cc, hh, k2, k3, k4⟩
  · subst hh hcs
    have hown0 : w.ownsRow 0 el 1 (.slice none 0 0) 0 [] := ⟨rfl, .inl ⟨rfl, rfl⟩⟩
    obtain ⟨v', w', hr, q2, q3, q4⟩ := run_append_own (P := P) w 0 t ty el pi z 1 by_ e1 i1 i4 i2 i3 hzs (by omega) (.slice none 0 0) 0 [] hown0 ⟨bx, ox, none⟩ 1 cx [u] rfl hnews hone (by simpa using hlen2) (by simpa using hlen) (Nat.zero_le _)
    have hsh : ∃ g o m cc, v' = HO g o m cc := by
      rcases q2.2 with ⟨_, h0⟩ | ⟨g, cap, cur, h1, _⟩
      · omega
      · exact ⟨g, 0, _, cap, h1⟩
    refine fin v' w' hr (ownsRow_slO q2 (by simpa using hrep1)) hsh (fun b hb _ => q3.block b hb (by simp [Value.ownBlock])) (fun b hb => ?_) ⟨q3.os, q3.tape, q3.output⟩ q3.size
    have hb' : v'.ownBlock = some b := by simpa [slO] using hb
    refine ⟨(q2.lt b hb').2, .inl ?_⟩
    have := append_block t ty el pi z e1 i1 i4 (.slice none 0 0) 0 [] (by rw [i2]; exact hown0) ⟨bx, ox, none⟩ 1 cx [u] (by rw [i2]; rfl) hnews hone (by simpa using hlen2) (by rw [i3]; simpa using hlen) hr b hb'
    simpa [Value.ownBlock] using this
  · subst hh
    obtain ⟨h1, h2, h3, cur, h5, h6, h7⟩ := slO_ho hok
    rw [Nat.mul_one] at h1 h6 h7
    by_cases hroom : m + 1 ≤ cc
    · have hin : o + m < cur.size := by omega
      have hcell2 : w.cell? ⟨g, o + m, none⟩ = some cur[o + m] := by
        rw [cell_of_row w g _ cur el (0, 0) h5]; simp [hin]
      have hrun := run_append_room_cells (P := P) w t ty el pi e1 i1 g o m cc ⟨bx, ox, none⟩ 1 cx [u] (by rw [i2]; rfl) hnews hone hroom
        (fun j hj => by simp at hj; subst hj; rw [i2]; simp only [Nat.mul_one, Nat.add_zero]; rw [hcell2]; rfl)
        (fun j hj => by simp [World.frozen?, h5])
      rw [i2, Nat.mul_one] at hrun
      refine fin _ _ hrun ?_ ⟨g, o, m + 1, cc, rfl⟩ ?_ ?_ ?_ ?_
      · refine ⟨m + 1, by simp [h1], .inr ⟨g, o, cc, cur.setIfInBounds (o + m) u, rfl, hroom, h3, ?_, by simpa using h6, ?_⟩⟩
        · simp only [World.setCells]; rw [setCell_heap h5]
        · refine RepIL.mk ?_ (fun i y hy => ?_)
          · simp only [List.length_take, List.length_drop, Array.length_toList, List.length_append, List.length_cons, List.length_nil, Array.size_setIfInBounds, h1, Nat.mul_one]; omega
          · rw [Nat.mul_one, List.getElem?_take, List.getElem?_drop, Array.toList_setIfInBounds, List.getElem?_set]
            have hil : i < m + 1 := by
              rcases Nat.lt_or_ge i (m + 1) with h | h
              · exact h
              · rw [List.getElem?_eq_none (by simp [h1]; omega)] at hy; cases hy
            rw [if_pos hil]
            by_cases him : i = m
            · subst him
              rw [List.getElem?_append_right (by omega), h1] at hy
              simp at hy
              subst hy
              rw [if_pos rfl, if_pos (by simpa using hin)]
              exact ⟨u, rfl, hu2, hu3⟩
            · rw [List.getElem?_append_left (by omega)] at hy
              rw [if_neg (by omega)]
              obtain ⟨zz, z1, z2, z3⟩ := h7.get i y hy
              rw [List.getElem?_take, if_pos (by omega), List.getElem?_drop] at z1
              exact ⟨zz, z1, z2, z3⟩
      · intro b hb hnin
        simp only [World.setCells]
        rw [setCell_other (fun he => hnin (by subst he; simp [slO, Value.ownBlock]))]
      · intro b hb
        have hb' : b = g := by simpa [slO, Value.ownBlock] using hb
        subst hb'
        refine ⟨?_, .inr (by simp [slO, Value.ownBlock])⟩
        simp only [World.setCells]
        rw [setCell_size]
        exact (hgood b (by simp [slO, Value.ownBlock])).1
      · exact ⟨rfl, rfl, rfl⟩
      · simp only [World.setCells]; rw [setCell_size]; exact Nat.le_refl _
    · have holds : ∀ j u', ((cur.toList.drop o).take m)[j]? = some u' → w.cell? ((⟨g, o, none⟩ : Addr).add j) = some u' := by
        intro j u' hj
        rw [add_addr, cell_of_row w g _ cur el (0, 0) h5]
        have hjm : j < m := by
          rcases Nat.lt_or_ge j m with h | h
          · exact h
          · rw [List.getElem?_take, if_neg (by omega)] at hj; cases hj
        rw [List.getElem?_take, if_pos hjm, List.getElem?_drop] at hj
        simpa using hj
      have hlm : ((cur.toList.drop o).take m).length = m * 1 := by
        have := h7.len; omega
      obtain ⟨v', w', hrun, q2, q3⟩ := run_append_arg_grows (P := P) w t ty el pi z 1 by_ e1 i1 i4 i2 i3 hzs (by omega) ⟨g, o, none⟩ m cc ((cur.toList.drop o).take m) hlm holds ⟨bx, ox, none⟩ 1 cx [u] rfl hnews (by omega) (by omega) (by rw [← h1]; exact hlen)
      have hsh : ∃ g o m cc, v' = HO g o m cc := by
        rcases q2.2 with ⟨_, h0⟩ | ⟨g, cap, cur, h1, _⟩
        · omega
        · exact ⟨g, 0, _, cap, h1⟩
      refine fin v' w' hrun (ownsRow_slO q2 (RepIL.app h7 hrep1)) hsh (fun b hb _ => q3.block b hb (by simp)) (fun b hb => ?_) ⟨q3.os, q3.tape, q3.output⟩ q3.size
      have hb' : v'.ownBlock = some b := by simpa [slO] using hb
      exact ⟨(q2.lt b hb').2, .inl (q2.lt b hb').1⟩
end
end Go.Sy
