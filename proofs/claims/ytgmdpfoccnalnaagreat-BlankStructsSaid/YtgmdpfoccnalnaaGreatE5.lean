/- The symbolic walk, part 42: drawn regions whose tail may begin ahead of one move that comes late. -/
import Derived.Test.YtgmdpfoccnalnaaGreatE4
import Derived.Laws.MakeOwn
import Derived.Laws.LoneSync
import Derived.Defers
import Derived.Test.YtgmdpfoccnalnaaGreatE2
import Derived.Test.YtgmdpfoccnalnaaGreatE3
set_option linter.unusedSimpArgs false
set_option linter.unusedVariables false
namespace Go.Sy
open Go.RowKit

section
variable {P : Program} {T : Tab} {X : Ctx P T} {n : Nat} {e : Env} {st : St} {a : Act} {w : World} {ops : Array Oper} {K : St → Prop}

def seqB (ops : Array Oper) : List Nat → Bool
  | [] => true
  | i :: r => r.all (fun j => (predsB ops j).any (fun q => (i :: r).contains q)) && Nat.blt i ops.toList.length && seqB ops r
def opsAt (ops : Array Oper) (L : List Nat) : List Oper := L.filterMap fun i => ops.toList[i]?

theorem any_seq {Q : Exit → Act → World → Prop} : ∀ (L : List Nat) (listed : Array Bool) (a : Act) (w : World), seqB ops L = true → L.Nodup → listed.size = ops.size →
    (∀ j, j < ops.size → (listed.getD j false = true ↔ j ∉ L)) → (∀ i o, ops[i]? = some o → ∀ e ∈ o.after, Region.binds .any e = true → e.on < i) → (∀ i o r1 r2, L = r1 ++ i :: r2 → ops[i]? = some o → ∀ e ∈ o.after, Region.binds .any e = true → e.on ∉ r2 ∧ e.on ≠ i) →
    wpList P ops Q (opsAt ops L) a w → wpAny P .any ops Q L.length listed a w
  | [], listed, a, w, hs, hn, hsz, hl, hedge, ho, hw => by
    refine ⟨?_, ?_⟩
    · cases hr : Region.ready .any ops listed with
      | nil => rfl
      | cons j js =>
        exfalso
        have hmem : j ∈ Region.ready .any ops listed := by rw [hr]; simp
        rw [mem_ready] at hmem
        obtain ⟨h0, o, ho, _⟩ := hmem
        have hlt : j < ops.size := (Array.getElem?_eq_some_iff.1 ho).1
        have := (hl j hlt).2 (by simp)
        have hls : j < listed.size := by omega
        simp [hls] at h0 this
        rw [h0] at this; cases this
    · simpa [opsAt, wpList] using hw
  | i :: r, listed, a, w, hs, hn, hsz, hl, hedge, ho, hw => by
    simp only [seqB, Bool.and_eq_true, List.all_eq_true, List.any_eq_true] at hs
    obtain ⟨⟨hs1, hs2⟩, hs3⟩ := hs
    have hil : i < ops.size := by simp [Nat.blt] at hs2; omega
    have hls : i < listed.size := by omega
    have hoi : ops[i]? = some (ops.toList[i]'(by simpa using hil)) := by simp [hil]
    have hready : ∀ j ∈ Region.ready .any ops listed, j = i := by
      intro j hj
      rw [mem_ready] at hj
      obtain ⟨h0, o, ho', hp⟩ := hj
      have hlt : j < ops.size := (Array.getElem?_eq_some_iff.1 ho').1
      have hjl : j < listed.size := by omega
      have hin : j ∈ i :: r := by
        apply Classical.byContradiction
        intro hn'
        have := (hl j hlt).2 hn'
        simp [hjl] at h0 this
        rw [h0] at this; cases this
      rcases List.mem_cons.1 hin with h | h
      · exact h
      · exfalso
        obtain ⟨q, hq1, hq2⟩ := hs1 j h
        obtain ⟨o', ho2, e, he, hb, hon⟩ := mem_preds hq1
        rw [ho'] at ho2
        cases ho2
        have h3 := hp e he hb
        rw [hon] at h3
        have hqlt : q < ops.size := by
          have := hedge j o ho' e he hb
          omega
        exact (hl q hqlt).1 h3 (by simpa using hq2)
    refine ⟨fun hr => ?_, fun j hj => ?_⟩
    · exfalso
      have hmem : i ∈ Region.ready .any ops listed := by
        rw [mem_ready]
        refine ⟨?_, _, hoi, fun e he hb => ?_⟩
        · cases h : listed.getD i false with
          | true => exact absurd (List.mem_cons_self ..) ((hl i hil).1 h)
          | false => simp [hls] at h ⊢; exact h
        · have h1 := hedge i _ hoi e he hb
          obtain ⟨h2, h3⟩ := ho i _ [] r rfl hoi e he hb
          exact (hl e.on (by omega)).2 (by simp [h2, h3])
      rw [hr] at hmem; cases hmem
    · obtain rfl := hready j hj
      have hnext : ∀ a w, wpList P ops Q (opsAt ops r) a w → wpAny P .any ops Q r.length (listed.setIfInBounds j true) a w := fun a w hw => by
        refine any_seq r _ a w hs3 (List.nodup_cons.1 hn).2 (by simpa using hsz) (fun k hk => ?_) hedge (fun i' o' r1 r2 he hoi' ed hed hb => ho i' o' (j :: r1) r2 (by rw [he]; rfl) hoi' ed hed hb) hw
        by_cases hkj : k = j
        · subst hkj
          have hls : k < listed.size := by omega
          simp [hls]
          exact (List.nodup_cons.1 hn).1
        · rw [getD_set_ne false (Ne.symm hkj), hl k hk]
          simp [hkj]
      have hw2 : wpList P ops Q (ops.toList[j]'(by simpa using hil) :: opsAt ops r) a w := by
        have : opsAt ops (j :: r) = ops.toList[j]'(by simpa using hil) :: opsAt ops r := by
          simp [opsAt, hil]
        rw [← this]; exact hw
      unfold wpOp
      rw [hoi]
      simp only [wpList] at hw2 ⊢
      split
      · rename_i hwt
        rw [if_pos hwt] at hw2
        exact hw2.imp (Oper.wp_mono hnext) id
      · rename_i hwt
        rw [if_neg hwt] at hw2
        exact hnext _ _ hw2

theorem any_seqS {Q : Exit → Act → World → Prop} (L : List Nat) (listed : Array Bool) (a : Act) (w : World) (hs : seqB ops L = true) (hn : L.Pairwise (· < ·)) (hsz : listed.size = ops.size)
    (hl : ∀ j, j < ops.size → (listed.getD j false = true ↔ j ∉ L)) (hedge : ∀ i o, ops[i]? = some o → ∀ e ∈ o.after, Region.binds .any e = true → e.on < i)
    (hw : wpList P ops Q (opsAt ops L) a w) : wpAny P .any ops Q L.length listed a w := by
  refine any_seq L listed a w hs (hn.imp (fun h => Nat.ne_of_lt h)) hsz hl hedge (fun i o r1 r2 he ho ed hed hb => ?_) hw
  have h1 := hedge i o ho ed hed hb
  subst he
  have h2 := List.pairwise_cons.1 (List.pairwise_append.1 hn).2.1
  refine ⟨fun hin => ?_, by omega⟩
  have := h2.1 _ hin
  omega

def tailV (ops : Array Oper) (f m l : Nat) : Bool :=
  Nat.blt m ops.toList.length && Nat.blt l m && (List.range m).all (fun j => Nat.beq j l || (ancsB ops f m).contains j) && !((ancsB ops f m).contains l) && seqB ops (rng m ops.toList.length) && seqB ops (l :: rng (m + 1) ops.toList.length)
where rng (a b : Nat) : List Nat := (List.range (b - a)).map (· + a)

theorem mem_rng {a b j : Nat} : j ∈ tailV.rng a b ↔ a ≤ j ∧ j < b := by
  simp only [tailV.rng, List.mem_map, List.mem_range]
  constructor
  · rintro ⟨i, h1, rfl⟩; omega
  · rintro ⟨h1, h2⟩; exact ⟨j - a, by omega, by omega⟩
theorem sorted_rng (a b : Nat) : (tailV.rng a b).Pairwise (· < ·) := by
  simp only [tailV.rng]
  exact List.pairwise_map.2 ((List.pairwise_lt_range).imp (fun h => by omega))
theorem len_rng (a b : Nat) : (tailV.rng a b).length = b - a := by simp [tailV.rng]
theorem rng_cons {a b : Nat} (h : a < b) : tailV.rng a b = a :: tailV.rng (a + 1) b := by
  simp only [tailV.rng]
  rw [show b - a = (b - (a + 1)) + 1 by omega, List.range_succ_eq_map]
  simp [Function.comp_def, Nat.add_assoc, Nat.add_comm 1 a]
theorem opsAt_rng : ∀ (k m : Nat), m + k = ops.size → opsAt ops (tailV.rng m ops.size) = ops.toList.drop m
  | 0, m, h => by
    have : tailV.rng m ops.size = [] := by simp [tailV.rng, show ops.size - m = 0 by omega]
    rw [this, List.drop_eq_nil_of_le (by simp; omega)]; rfl
  | k + 1, m, h => by
    have hm : m < ops.toList.length := by simp; omega
    rw [rng_cons (by omega), List.drop_eq_getElem_cons hm]
    have ih := opsAt_rng k (m + 1) (by omega)
    simp only [opsAt] at ih ⊢
    rw [List.filterMap_cons, List.getElem?_eq_getElem hm]
    simp only [ih]

def lessS (d : Nat) (s : St) : St := ⟨s.s.filter (fun q => !Nat.beq q.1 d), s.c⟩
theorem get_less {d : Nat} : ∀ {l : List (Nat × AV)} {k : Nat} {y : AV}, get (l.filter (fun q => !Nat.beq q.1 d)) k = some y → k ≠ d ∧ get l k = some y
  | [], k, y, h => by simp [get] at h
  | (j, x) :: l, k, y, h => by
    rw [List.filter_cons] at h
    by_cases hj : j = d
    · subst hj
      simp at h
      obtain ⟨h1, h2⟩ := get_less (d := j) (l := l) (by simpa using h)
      refine ⟨h1, ?_⟩
      rw [get_cons, if_neg (Ne.symm h1)]; exact h2
    · have : (!Nat.beq j d) = true := by rw [Bool.not_eq_true', ← Bool.not_eq_true]; exact fun h => hj (Nat.eq_of_beq_eq_true h)
      simp only [this, if_true] at h
      rw [get_cons] at h ⊢
      by_cases hk : j = k
      · rw [if_pos hk] at h ⊢; exact ⟨by omega, h⟩
      · rw [if_neg hk] at h ⊢
        exact get_less h

theorem any_of_DV {base : List (Nat × AV)} {c : List Ch} {D : Done} {Q : QX X} {m f l dl : Nat} (ht : tailV ops f m l = true) (hD : D.length = m)
    (hstep : ∀ i o, i < m → ops[i]? = some o → ∃ x, D[i]? = some (o.dst, x) ∧ StepD X n ops (availL (D.take i) o.after.toList base) c o x)
    (hedge : ∀ i o, ops[i]? = some o → ∀ e ∈ o.after, Region.binds .any e = true → e.on < i)
    (hdist : ∀ (i j : Nat) o o' d, i < m → j < m → ops[i]? = some o → ops[j]? = some o' → o.dst = some d → o'.dst = some d → i = j)
    (hbase : ∀ (i : Nat) o d, i < m → ops[i]? = some o → o.dst = some d → get base d = none)
    (hfin : ∀ e a w, Rel X n e ⟨finS base D, c⟩ a w → wpList P ops Q (ops.toList.drop m) a w)
    (hdl : ∀ o, ops[l]? = some o → o.dst = some dl) (hfin2 : ∀ e a w, Rel X n e (lessS dl ⟨finS base D, c⟩) a w → wpList P ops Q (opsAt ops (m :: l :: tailV.rng (m + 1) ops.size)) a w) :
    ∀ (fuel : Nat) (listed : Array Bool) (a : Act) (w : World) (e : Env) (S : List (Nat × AV)), listed.size = ops.size → listed.toList.count false = fuel → Rel X n e ⟨S, c⟩ a w →
      (∀ j, m ≤ j → listed.getD j false = false) → ClosedL ops listed →
      (∀ k y, get base k = some y → get S k = some y) → (∀ (i : Nat) d x, listed.getD i false = true → D[i]? = some (some d, x) → get S d = some x) →
      wpAny P .any ops Q fuel listed a w := by
  have ht' := ht
  unfold tailV at ht'
  simp only [Bool.and_eq_true, List.all_eq_true, List.mem_range, Array.length_toList, Bool.or_eq_true] at ht'
  obtain ⟨⟨⟨⟨⟨hm, hlm⟩, hcov⟩, hnl⟩, hch⟩, hch2⟩ := ht'
  have hlm' : l < m := by have h := hlm; simp [Nat.blt] at h; omega
  have hm' : m < ops.size := by have h := hm; simp [Nat.blt] at h; omega
  have cnt : ∀ (l : List Bool) (k : Nat), k ≤ l.length → (∀ j, j < l.length → (l[j]? = some true ↔ j < k)) → l.count false + k = l.length := by
    intro l
    induction l with
    | nil => intro k hk _; simp at hk; simp [hk]
    | cons b l ih =>
      intro k hk h
      cases k with
      | zero =>
        have hb : b = false := by
          have := h 0 (by simp)
          cases b
          · rfl
          · simp at this
        subst hb
        have := ih 0 (Nat.zero_le _) (fun j hj => by have := h (j + 1) (by simpa using hj); simpa using this)
        simp at this ⊢; omega
      | succ k =>
        have hb : b = true := by
          have := h 0 (by simp)
          simpa using this
        subst hb
        have := ih k (by simpa using hk) (fun j hj => by have := h (j + 1) (by simpa using hj); simpa using this)
        simp at this ⊢; omega
  intro fuel
  induction fuel with
  | zero =>
    intro listed a w e S hsz hc r hge hcl hb hs
    exfalso
    have h1 := hge m (Nat.le_refl _)
    have hls : m < listed.size := by omega
    have : false ∈ listed.toList := by
      simp [hls] at h1
      exact List.mem_iff_getElem.2 ⟨m, by simpa using hls, by simpa using h1⟩
    have := List.count_pos_iff.2 this
    omega
  | succ fuel ih =>
    intro listed a w e S hsz hc r hge hcl hb hs
    by_cases hall : ∀ j, j < m → listed.getD j false = true
    · -- all that is drawn is done
      have hlt : ∀ j, j < ops.size → (listed.getD j false = true ↔ j < m) := fun j hj => by
        constructor
        · intro h
          rcases Nat.lt_or_ge j m with h1 | h1
          · exact h1
          · rw [hge j h1] at h; cases h
        · exact hall j
      have hcount : listed.toList.count false + m = ops.size := by
        have := cnt listed.toList m (by simp; omega) (fun j hj => by
          have hjl : j < listed.size := by simpa using hj
          have := hlt j (by omega)
          simp [hjl] at this ⊢
          exact this)
        simpa [hsz] using this
      have hfu : fuel + 1 = (tailV.rng m ops.size).length := by rw [len_rng]; omega
      rw [hfu]
      refine any_seqS _ listed a w hch (sorted_rng _ _) hsz (fun j hj => by rw [hlt j hj, mem_rng]; omega) hedge ?_
      rw [opsAt_rng (ops.size - m) m (by omega)]
      refine hfin e a w (r.less (fun k y hk => ?_) id)
      rcases finS_get hk with ⟨i, hi⟩ | h
      · have hil : i < D.length := by
          rcases Nat.lt_or_ge i D.length with h | h
          · exact h
          · rw [List.getElem?_eq_none h] at hi; cases hi
        exact hs i k y (hall i (by omega)) hi
      · exact hb k y h
    -- what may come up now is drawn
    have hgt : ∀ i, m < i → i < ops.size → ∀ o, ops[i]? = some o → (∀ e ∈ o.after, Region.binds .any e = true → listed.getD e.on false = true) → False := by
      intro i h hlt o ho hpre
      rw [rng_cons hm'] at hch
      simp only [seqB, Bool.and_eq_true, List.all_eq_true, List.any_eq_true] at hch
      obtain ⟨q, hq1, hq2⟩ := hch.1.1 i (mem_rng.2 ⟨h, hlt⟩)
      obtain ⟨o', ho', ed, he, hbb, hon⟩ := mem_preds hq1
      rw [ho] at ho'; cases ho'
      have h5 := hpre ed he hbb
      rw [hon] at h5
      have : m ≤ q := by
        have hq3 := hq2
        simp only [List.contains_iff_mem, List.mem_cons, mem_rng] at hq3
        omega
      rw [hge q this] at h5; cases h5
    have hlow : ∀ i ∈ Region.ready .any ops listed, ¬ (i = m ∧ ∀ j, j < m → j ≠ l → listed.getD j false = true) → i < m := by
      intro i hi hne
      rw [mem_ready] at hi
      obtain ⟨h0, o, ho, hpre⟩ := hi
      rcases Nat.lt_or_ge i m with h | h
      · exact h
      · exfalso
        have hlt : i < ops.size := (Array.getElem?_eq_some_iff.1 ho).1
        rcases Nat.eq_or_lt_of_le h with h | h
        · subst h
          refine hne ⟨rfl, fun j hj hjl => ?_⟩
          have hc := hcov j hj
          rcases hc with hc | hc
          · exact absurd (Nat.eq_of_beq_eq_true hc) hjl
          rw [List.contains_iff_mem] at hc
          refine ancs_listed hcl f m (fun q hq => ?_) j hc
          obtain ⟨o', ho', ed, he, hbb, rfl⟩ := mem_preds hq
          rw [ho] at ho'; cases ho'
          exact hpre ed he hbb
        · exact hgt i h hlt o ho hpre
    refine ⟨fun hr => ?_, fun i hi => ?_⟩
    · exfalso
      refine hall (fun j => ?_)
      induction j using Nat.strongRecOn with
      | ind j ihj =>
        intro hj
        cases hl : listed.getD j true with
        | true =>
          have : j < listed.size := by omega
          simp [this] at hl ⊢
          exact hl
        | false =>
          exfalso
          have hmem : j ∈ Region.ready .any ops listed := by
            rw [mem_ready]
            refine ⟨hl, ops[j], by simp [show j < ops.size by omega], fun e he hbb => ?_⟩
            have h1 := hedge j ops[j] (by simp [show j < ops.size by omega]) e he hbb
            exact ihj e.on h1 (by omega)
          rw [hr] at hmem; cases hmem
    · by_cases hcase : i = m ∧ ∀ j, j < m → j ≠ l → listed.getD j false = true
      · -- the tail begins, that move is still to come
        obtain ⟨rfl, hothers⟩ := hcase
        have hln : listed.getD l false = false := by
          cases h : listed.getD l false with
          | false => rfl
          | true => exact absurd (fun j hj => by
            by_cases hjl : j = l
            · rw [hjl]; exact h
            · exact hothers j hj hjl) hall
        have hw2 := hfin2 e a w (r.less (fun k y hk => by
          obtain ⟨hkd, hk⟩ := get_less hk
          rcases finS_get hk with ⟨q, hq⟩ | h
          · have hql : q < D.length := by
              rcases Nat.lt_or_ge q D.length with h | h
              · exact h
              · rw [List.getElem?_eq_none h] at hq; cases hq
            refine hs q k y (hothers q (by omega) (fun hh => ?_)) hq
            subst hh
            have hqs : q < ops.size := by omega
            obtain ⟨x, hx, _⟩ := hstep q ops[q] hlm' (by simp [hqs])
            rw [hq] at hx
            simp only [Option.some.injEq, Prod.mk.injEq] at hx
            have := hdl ops[q] (by simp [hqs])
            rw [this] at hx
            simp only [Option.some.injEq] at hx
            exact hkd hx.1
          · exact hb k y h) id)
        have hil : i < ops.size := hm'
        have hls : l < ops.size := by omega
        have hoi : ops[i]? = some (ops.toList[i]'(by simpa using hil)) := by simp [hil]
        have hcf : fuel = (l :: tailV.rng (i + 1) ops.size).length := by
          have hls' : l < (listed.setIfInBounds l true).toList.length := by simp; omega
          have h1 := cnt (listed.setIfInBounds l true).toList i (by simp; omega) (fun j hj => by
            have hjl : j < listed.size := by simpa using hj
            by_cases hjj : l = j
            · subst hjj; simp [hjl]; omega
            · simp only [Array.toList_setIfInBounds, List.getElem?_set_ne hjj]
              constructor
              · intro h
                rcases Nat.lt_or_ge j i with h1 | h1
                · exact h1
                · have := hge j h1
                  simp [hjl] at h this; rw [h] at this; cases this
              · intro h
                have := hothers j h (Ne.symm hjj)
                simp [hjl] at this ⊢; exact this)
          rw [Array.toList_setIfInBounds, List.count_set (by simp; omega)] at h1
          have hg : listed.toList[l]'(by simp; omega) = false := by
            simp [show l < listed.size by omega] at hln; simpa using hln
          have hpos : 0 < listed.toList.count false := List.count_pos_iff.2 (hg ▸ List.getElem_mem _)
          simp [hg] at h1 hc
          simp only [List.length_cons, len_rng]
          omega
        have hnext : ∀ a w, wpList P ops Q (opsAt ops (l :: tailV.rng (i + 1) ops.size)) a w → wpAny P .any ops Q fuel (listed.setIfInBounds i true) a w := fun a w hw => by
          rw [hcf]
          refine any_seqS _ _ a w hch2 (List.pairwise_cons.2 ⟨fun j hj => by rw [mem_rng] at hj; omega, sorted_rng _ _⟩) (by simpa using hsz) (fun j hj => ?_) hedge hw
          by_cases hji : i = j
          · subst hji
            have : i < listed.size := by omega
            simp only [List.mem_cons, mem_rng]
            simp [this]; omega
          · rw [getD_set_ne false hji]
            simp only [List.mem_cons, mem_rng]
            constructor
            · intro h
              rcases Nat.lt_or_ge j i with h1 | h1
              · rintro (h2 | h2)
                · subst h2; rw [hln] at h; cases h
                · omega
              · rw [hge j h1] at h; cases h
            · intro h
              exact hothers j (by omega) (fun hh => h (.inl hh))
        have hw3 : wpList P ops Q (ops.toList[i]'(by simpa using hil) :: opsAt ops (l :: tailV.rng (i + 1) ops.size)) a w := by
          have : opsAt ops (i :: l :: tailV.rng (i + 1) ops.size) = ops.toList[i]'(by simpa using hil) :: opsAt ops (l :: tailV.rng (i + 1) ops.size) := by
            simp [opsAt, hil]
          rw [← this]; exact hw2
        unfold wpOp
        rw [hoi]
        simp only [wpList] at hw3 ⊢
        split
        · rename_i hwt
          rw [if_pos hwt] at hw3
          exact hw3.imp (Oper.wp_mono hnext) id
        · rename_i hwt
          rw [if_neg hwt] at hw3
          exact hnext _ _ hw3
      have him := hlow i hi hcase
      rw [mem_ready] at hi
      obtain ⟨h0, o, ho, hpre⟩ := hi
      have hlt : i < ops.size := (Array.getElem?_eq_some_iff.1 ho).1
      have hlf : listed.toList[i]? = some false := by
        have : i < listed.size := by omega
        simp [this] at h0 ⊢
        exact h0
      obtain ⟨x, hx, hst⟩ := hstep i o him ho
      unfold wpOp
      simp only [ho]
      refine hst e a w S _ Q r (fun k y hk => ?_) (fun e' a' w' r' => ?_)
      · rcases availL_get hk with ⟨ed, h1, h2, h3⟩ | h
        · have h4 : D[ed.on]? = some (some k, y) := by
            rw [List.getElem?_take] at h3
            split at h3
            · exact h3
            · cases h3
          exact hs ed.on k y (hpre ed (by simpa using h1) h2) h4
        · exact hb k y h
      · refine ih (listed.setIfInBounds i true) a' w' e' _ (by simpa using hsz) ?_ r' (fun j hj => ?_) (fun j oj hj hoj ed he hbb => ?_) (fun k y hk => ?_) (fun j d y hj hy => ?_)
        · rw [Array.toList_setIfInBounds]
          have hlt' : i < listed.toList.length := by simpa using (by omega : i < listed.size)
          have hg : listed.toList[i] = false := by
            have := List.getElem?_eq_getElem hlt'
            rw [hlf] at this
            simpa using this.symm
          rw [List.count_set hlt', hg, hc]
          simp
        · rw [getD_set_ne false (by omega : i ≠ j)]
          exact hge j hj
        · by_cases hei : ed.on = i
          · have hls : i < listed.size := by omega
            rw [hei]; simp [hls]
          · rw [getD_set_ne false (Ne.symm hei)]
            by_cases hji : j = i
            · subst hji
              rw [ho] at hoj; cases hoj
              exact hpre ed he hbb
            · rw [getD_set_ne false (Ne.symm hji)] at hj
              exact hcl j oj hj hoj ed he hbb
        · cases hd : o.dst with
          | none => exact hb k y hk
          | some d =>
            simp only [putS]
            rw [get_cons]
            by_cases h : d = k
            · subst h
              rw [hbase i o d him ho hd] at hk
              cases hk
            · rw [if_neg h]; exact hb k y hk
        · by_cases hji : j = i
          · subst hji
            rw [hx] at hy
            simp only [Option.some.injEq, Prod.mk.injEq] at hy
            rw [hy.1, hy.2]
            simp only [putS]
            rw [get_cons, if_pos rfl]
          · rw [getD_set_ne false (Ne.symm hji)] at hj
            have hold := hs j d y hj hy
            cases hd : o.dst with
            | none => exact hold
            | some d' =>
              simp only [putS]
              rw [get_cons]
              by_cases h : d' = d
              · exfalso
                subst h
                have hjl : j < m := by
                  rw [← hD]
                  rcases Nat.lt_or_ge j D.length with h | h
                  · exact h
                  · rw [List.getElem?_eq_none h] at hy; cases hy
                obtain ⟨x', hx', _⟩ := hstep j ops[j] hjl (by simp [show j < ops.size by omega])
                rw [hx'] at hy
                simp only [Option.some.injEq, Prod.mk.injEq] at hy
                exact hji (hdist j i ops[j] o d' hjl him (by simp [show j < ops.size by omega]) ho hy.1 hd)
              · rw [if_neg h]; exact hold

def dstB (ops : Array Oper) (l dl : Nat) : Bool := match ops.toList[l]? with
  | some o => (match o.dst with
    | some d => Nat.beq d dl
    | none => false)
  | none => false
theorem C_drawV (f m l dl : Nat) {id : Nat} {Q : Exit → St → Prop} {s base : List (Nat × AV)} {c : List Ch} (hb : eraseD (ops.toList.take m) s = some base) (hchk : chkD base 0 [] (ops.toList.take m) = true) (hed : edgesB ops = true)
    (ht : tailV ops f m l = true) (hdl : dstB ops l dl = true) (h : SymD X n ops base c (fun s => SymO X n ops (ops.toList.drop m) s (fun s => Q .normal s) ∧ SymO X n ops (opsAt ops (m :: l :: tailV.rng (m + 1) ops.size)) (lessS dl s) (fun s => Q .normal s)) (ops.toList.take m) []) : SymC X n (.region id ops true) ⟨s, c⟩ Q := by
  intro e a w r
  have hbs : ∀ k y, get base k = some y → get s k = some y := fun k y hk => eraseD_get hb hk
  obtain ⟨D, _, hl, hK, hs⟩ := h.plan
  obtain ⟨c1, c2⟩ := chkD_spec hchk
  have hbel : Below w.heap.size w { w with drawn := w.drawn + 1 } := ⟨rfl, rfl, rfl, Nat.le_refl _, fun _ _ => rfl⟩
  have hm : m < ops.size := by
    unfold tailV at ht
    simp only [Bool.and_eq_true] at ht
    have h1 := ht.1.1.1.1.1
    simp [Nat.blt] at h1; omega
  have htk : ∀ (i : Nat) (o : Oper), i < m → ops[i]? = some o → (ops.toList.take m)[i]? = some o := fun i o him ho => by rw [List.getElem?_take, if_pos him]; simpa using ho
  refine wp_region_any X.wide ?_
  refine any_of_DV (X := X) (Q := concX X n Q) (n := n) (base := base) (c := c) (D := D) (f := f) (m := m) (l := l) (dl := dl) ht (by simp at hl; omega) (fun i o him ho => ?_) (fun i o ho => ?_) (fun i j o o' d him hjm hi hj => c2 i j o o' d (htk i o him hi) (htk j o' hjm hj)) (fun i o d him ho hd => ((c1 i o (htk i o him ho)).2 d hd).1)
    (fun e a w r => hK.1 e a w (concX X n Q) r fun e' st' _ _ hk hr => ⟨e', st', hr, hk⟩) (fun o ho => ?_) (fun e a w r => hK.2 e a w (concX X n Q) r fun e' st' _ _ hk hr => ⟨e', st', hr, hk⟩) _ _ a _ e base (by simp) (by simp) ((r.below hbel).less hbs (fun h => h)) (fun j hj => ?_) (fun j o hj => ?_) (fun k y hk => hk) (fun i d x hi => ?_)
  · have := hs i o (htk i o him ho)
    simpa using this
  · intro ed he hb'
    have hi : i < ops.toList.length := by
      have := (Array.getElem?_eq_some_iff.1 ho).1
      simpa using this
    have h1 := List.all_eq_true.1 hed i (List.mem_range.2 hi)
    have h2 := List.all_eq_true.1 h1 ed.on (by
      unfold predsB
      rw [show ops.toList[i]? = some o by simpa using ho]
      exact List.mem_map.2 ⟨ed, List.mem_filter.2 ⟨by simpa using he, hb'⟩, rfl⟩)
    simp [Nat.blt] at h2; omega
  · unfold dstB at hdl
    rw [show ops.toList[l]? = some o by simpa using ho] at hdl
    split at hdl
    · rename_i o' ho'
      cases ho'
      split at hdl
      · rename_i d hd; rw [hd, Nat.eq_of_beq_eq_true hdl]
      · cases hdl
    · cases hdl
  · rcases Nat.lt_or_ge j ops.size with h | h
    · simp [h]
    · simp [Nat.not_lt.2 h]
  · rcases Nat.lt_or_ge j ops.size with h | h
    · simp [h] at hj
    · simp [Nat.not_lt.2 h] at hj
  · rcases Nat.lt_or_ge i ops.size with h | h
    · simp [h] at hi
    · simp [Nat.not_lt.2 h] at hi
end
end Go.Sy

namespace Go.Sy
open Go.RowKit Go.MapKept

section
variable {P : Program} {T : Tab} {X : Ctx P T} {n : Nat} {e : Env} {st : St} {a : Act} {w : World} {ops : Array Oper} {K : St → Prop}

def repA (x : AV) (v : Value) : Abs := ⟨[], fun G _ => RepI G x v, fun hG _ h => RepI.mono hG x h⟩

theorem Le.fr (q : Nat) {A A' : Abs} {s : List (Nat × AV)} {c cr : List Ch} (hp : nthA q c = some (A, cr)) (hbs : A'.bs = [])
    (h : ∀ (G : IM) (w : World), A.ok G w → (∀ b ∈ A.bs, b < w.heap.size ∧ G.free b) → ∃ G' : IM, IM.le G G' ∧ (∀ b o v, G' b o = some v → G b o = some v ∨ (b ∈ A.bs ∧ w.cell? ⟨b, o, none⟩ = some v)) ∧ (∀ b x, G'.m b = some x → G.m b = some x ∨ (b ∈ A.bs ∧ MzOK G' w b x)) ∧ A'.ok G' w) :
    Le X n ⟨s, c⟩ ⟨s, .abs A' :: cr⟩ := fun e a w r => by
  have hh := (r.heap.perm (by simpa using nthA_perm hp : c.Perm ([A].map Ch.abs ++ cr))).absOK
  have hb1 : blocks [A] = A.bs := by simp [blocks]
  have hb2 : blocks [A'] = [] := by simp [blocks, hbs]
  obtain ⟨⟨k1, k2, k3⟩, k4⟩ := hh
  rw [hb1] at k2 k3 k4
  obtain ⟨G', g1, g2, g3, g4⟩ := h e.G w (k1 A (by simp)) k3
  refine ⟨⟨G', e.μ, e.hd⟩, r.swapAbs (st := ⟨s, c⟩) (As := [A]) (As' := [A']) (G' := G') (w' := w) (by simpa using nthA_perm hp) g1 ⟨?_, ?_⟩ ⟨?_, ?_⟩ ⟨?_, by rw [hb2]; simp, by rw [hb2]; simp⟩ (by rw [hb2]; simp) ⟨rfl, rfl, rfl⟩ (Nat.le_refl _) (fun _ _ _ _ => rfl)⟩
  · intro b o v hv
    rcases g2 b o v hv with h | h
    · exact r.im b o v h
    · exact h.2
  · intro b x hx
    rcases g3 b x hx with h | h
    · refine (r.mz b x h).keep g1 rfl (fun o v hv => ?_)
      rcases g2 b o v hv with k | k
      · exact ⟨v, k⟩
      · have := (k3 b k.1).2.2; rw [this] at h; cases h
    · exact h.2
  · intro b o v hv
    rcases g2 b o v hv with h | h
    · exact .inl h
    · exact .inr (.inr (by rw [hb1]; exact h.1))
  · intro b x hx
    rcases g3 b x hx with h | h
    · exact .inl h
    · exact .inr (.inr (by rw [hb1]; exact h.1))
  · intro B hB
    simp only [List.mem_singleton] at hB
    subst hB; exact g4

theorem Le.frBox (q : Nat) {b : Nat} {t : TypeId} {cells : List AV} {s : List (Nat × AV)} {c cr : List Ch} (hp : nthA q c = some (boxA b t cells, cr)) :
    Le X n ⟨s, c⟩ ⟨s, .abs (repA (.cp cells) (.pointer (some ⟨b, 0, none⟩))) :: cr⟩ := by
  refine Le.fr q hp rfl ?_
  rintro G w ⟨arr, h1, h2⟩ hb
  have hf := hb b (by simp [boxA])
  let G' : IM := ⟨fun b' o => if b' = b then arr.toList[o]? else G b' o, G.m⟩
  have hle : IM.le G G' := by
    refine ⟨?_, fun _ _ h => h⟩
    intro b' o v hv
    show (if b' = b then arr.toList[o]? else G b' o) = some v
    rw [if_neg]
    · exact hv
    · rintro rfl; rw [hf.2.1 o] at hv; cases hv
  refine ⟨G', hle, ?_, fun _ _ h => .inl h, ?_⟩
  · intro b' o v hv
    have hv' : (if b' = b then arr.toList[o]? else G b' o) = some v := hv
    split at hv'
    · rename_i hbb; subst hbb
      refine .inr ⟨by simp [boxA], ?_⟩
      rw [cell_of_row w b' o arr t (0, 0) h1]; simpa using hv'
    · exact .inl hv'
  · simp only [repA, RepI]
    refine ⟨b, 0, rfl, CellsAt.mk (fun j c hc => ?_)⟩
    obtain ⟨z, z1, z2, z3⟩ := h2.get j c hc
    refine ⟨z, ?_, RepI.mono hle _ z2, z3⟩
    show (if b = b then arr.toList[0 + j]? else G b (0 + j)) = some z
    rw [if_pos rfl, Nat.zero_add]; exact z1

theorem Le.frMap (q : Nat) {α : Type} {kv : α → Value} {b : Nat} {es : List (α × AV)} {s : List (Nat × AV)} {c cr : List Ch} (hp : nthA q c = some (mapA kv (some b) es, cr)) :
    Le X n ⟨s, c⟩ ⟨s, .abs (repA (.mapI (es.map (fun q => kv q.1)) (es.map (·.2))) (.map (some b))) :: cr⟩ := by
  refine Le.fr q hp rfl ?_
  rintro G w ⟨arr, cl, h1, h2, h3, h4, h5⟩ hb
  have hf := hb b (by simp [mapA])
  let G' : IM := ⟨G.c, fun b' => if b' = b then some (.map (arr.toList.map (fun e => (e.key, e.val)))) else G.m b'⟩
  have hle : IM.le G G' := by
    refine ⟨fun _ _ _ h => h, ?_⟩
    intro b' x hx
    show (if b' = b then _ else G.m b') = some x
    rw [if_neg]
    · exact hx
    · rintro rfl; rw [hf.2.2] at hx; cases hx
  refine ⟨G', hle, fun _ _ _ h => .inl h, ?_, ?_⟩
  · intro b' x hx
    have hx' : (if b' = b then some (MZ.map (arr.toList.map (fun e => (e.key, e.val)))) else G.m b') = some x := hx
    split at hx'
    · rename_i hbb; subst hbb
      cases hx'
      exact .inr ⟨by simp [mapA], arr, cl, h1, rfl⟩
    · exact .inl hx'
  · simp only [repA, RepI]
    refine ⟨b, arr.toList.map (·.val), rfl, ?_, ?_, RepIT.mono hle _ h3⟩
    · show (if b = b then some (MZ.map (arr.toList.map (fun e => (e.key, e.val)))) else G.m b) = _
      rw [if_pos rfl, ← h2]
      congr 2
      rw [List.zip_map']
    · rw [← h2]; simp

theorem Le.frSlO (q : Nat) {h : Value} {t : TypeId} {esz m : Nat} {cells : List AV} {s : List (Nat × AV)} {c cr : List Ch} (row : Nat → List AV) (hp : nthA q c = some (slO h t esz cells, cr)) (hlen : cells.length = m * esz) (hpos : 0 < esz)
    (hrow : ∀ i, i < m → row i = (cells.drop (i * esz)).take esz) : Le X n ⟨s, c⟩ ⟨s, .abs (repA (.sl m esz row) h) :: cr⟩ := by
  refine Le.fr q hp rfl ?_
  rintro G w ⟨m', h1, h2⟩ hb
  obtain rfl : m' = m := by
    rw [h1] at hlen
    exact Nat.eq_of_mul_eq_mul_right hpos hlen
  rcases h2 with ⟨rfl, rfl⟩ | ⟨g, o, cc, cur, rfl, k1, k2, k3, k4, k5⟩
  · refine ⟨G, IM.le_refl _, fun _ _ _ h => .inl h, fun _ _ h => .inl h, ?_⟩
    simp only [repA, RepI]
    exact ⟨none, 0, rfl, Nat.le_refl _, .inl trivial⟩
  · have hf := hb g (by simp [slO, Value.ownBlock])
    let G' : IM := ⟨fun b' o' => if b' = g then cur[o']? else G b' o', G.m⟩
    have hle : IM.le G G' := by
      refine ⟨?_, fun _ _ h => h⟩
      intro b' o' v hv
      show (if b' = g then cur[o']? else G b' o') = some v
      rw [if_neg]
      · exact hv
      · rintro rfl; rw [hf.2.1 o'] at hv; cases hv
    refine ⟨G', hle, ?_, fun _ _ h => .inl h, ?_⟩
    · intro b' o' v hv
      have hv' : (if b' = g then cur[o']? else G b' o') = some v := hv
      split at hv'
      · rename_i hbb; subst hbb
        refine .inr ⟨by simp [slO, Value.ownBlock], ?_⟩
        rw [cell_of_row w b' o' cur t (0, 0) k3]; exact hv'
      · exact .inl hv'
    · simp only [repA, RepI]
      refine ⟨some ⟨g, o, none⟩, cc, rfl, k1, .inr ⟨g, o, rfl, fun i hi => CellsAt.mk (fun j c hc => ?_)⟩⟩
      rw [hrow i hi] at hc
      have hj : j < esz := by
        rcases Nat.lt_or_ge j esz with h | h
        · exact h
        · rw [List.getElem?_eq_none (by simp; omega)] at hc; cases hc
      rw [List.getElem?_take, if_pos hj, List.getElem?_drop] at hc
      obtain ⟨z, z1, z2, z3⟩ := k5.get _ c hc
      have hlt : i * esz + j < m' * esz := by
        have : (i + 1) * esz ≤ m' * esz := Nat.mul_le_mul_right _ hi
        rw [Nat.add_mul] at this; omega
      rw [List.getElem?_take, if_pos hlt, List.getElem?_drop] at z1
      refine ⟨z, ?_, RepI.mono hle _ z2, z3⟩
      show (if g = g then cur[o + i * esz + j]? else G g (o + i * esz + j)) = some z
      rw [if_pos rfl, Nat.add_assoc]; simpa using z1

theorem Le.slotA (q i : Nat) {x : AV} {v : Value} {s : List (Nat × AV)} {c cr : List Ch} (hi : get s i = some (.v v)) (hp : nthA q c = some (repA x v, cr)) : Le X n ⟨s, c⟩ ⟨(i, x) :: s, c⟩ := fun e a w r => by
  obtain ⟨hok, _⟩ := r.heap.nth hp
  obtain ⟨u, h1, h2⟩ := r.slots i _ hi
  simp only [Rep] at h2
  subst h2
  refine ⟨e, { r with slots := fun j y hy => ?_ }⟩
  rw [get_cons] at hy
  by_cases hj : i = j
  · subst hj
    rw [if_pos rfl] at hy; cases hy
    exact ⟨_, h1, RepI.toRep x hok⟩
  · rw [if_neg hj] at hy
    exact r.slots j y hy

theorem repIL_set {G : IM} : ∀ {cs : List AV} {vs : List Value} (j : Nat) {x : AV} {v : Value}, RepIL G cs vs → cs[j]? = some (.v v) → RepI G x v → RepIL G (cs.set j x) vs
  | [], vs, j, x, v, h, hj, hx => by simp at hj
  | c :: cs, vs, j, x, v, h, hj, hx => by
    simp only [RepIL] at h
    obtain ⟨z, zs, rfl, h1, h2, h3⟩ := h
    cases j with
    | zero =>
      simp only [List.getElem?_cons_zero, Option.some.injEq] at hj
      subst hj
      simp only [RepI] at h1
      subst h1
      simp only [List.set_cons_zero, RepIL]
      exact ⟨z, zs, rfl, hx, h2, h3⟩
    | succ j =>
      simp only [List.set_cons_succ, RepIL]
      exact ⟨z, zs, rfl, h1, h2, repIL_set j h3 (by simpa using hj) hx⟩
theorem Le.cellA (q1 q2 j : Nat) {b : Nat} {t : TypeId} {cells : List AV} {x : AV} {v : Value} {s : List (Nat × AV)} {c cr : List Ch} (hp : pickA [q1, q2] c = some ([boxA b t cells, repA x v], cr)) (hj : cells[j]? = some (.v v)) :
    Le X n ⟨s, c⟩ ⟨s, .abs (boxA b t (cells.set j x)) :: cr⟩ := by
  refine Le.absPerm (As := [boxA b t cells, repA x v]) (As' := [boxA b t (cells.set j x)]) (by simpa using pickA_perm hp) (by simp [blocks, boxA, repA]) ?_
  intro G w h B hB
  simp only [List.mem_singleton] at hB
  subst hB
  obtain ⟨arr, h1, h2⟩ := h (boxA b t cells) (by simp)
  exact ⟨arr, h1, repIL_set j h2 hj (h (repA x v) (by simp))⟩

abbrev mapE {α : Type} (kv : α → Value) (es : List (α × AV)) : AV := .mapI (es.map fun q => kv q.1) (es.map (·.2))

theorem X_lookS (q : Nat) {α : Type} [DecidableEq α] {kt et mt : TypeId} (K : Key P kt α) {p : Pl} {mo : Option Nat} {es : List (α × AV)} {m x : Operand} {d : Option Nat} {k : α} {zv : Value} {z : AV} {commaOk : Bool} {pi : TypeInfo} {ty : TypeId} {pos : String} {aft : Array Edge} {gd : Option (Nat × Bool)} {j : Nat} {Si : List (Nat × AV)} {c cr : List Ch}
    (hm : P.underlying mt = some (.map kt et)) (hpi : P.info? et = some pi) (hz : pi.zero = some zv) (hzr : ∀ e : Env, Rep e z zv) (hzi : z.imm = true)
    {kx : AV} (hkx : ∀ (e : Env) (v : Value), Rep e kx v → v = K.kv k)
    (hg : guardA ops ⟨Si, c⟩ ⟨d, .lookup mt m x commaOk, ty, pos, aft, gd⟩ = some true) (hmo : opd Si m = some (.v (.map mo))) (hx : opd Si x = some kx) (hp : nthA q c = some (mapA K.kv mo es, cr)) (hd : dstOK n d = true) :
    StepX X n ops p Si c c j ⟨d, .lookup mt m x commaOk, ty, pos, aft, gd⟩ (lookAV commaOk (lookE k es) z) :=
  StepX.val hg hd (fun e a w S r r' => by
    have h1 := opd_sound r' hmo
    have h2 := hkx _ _ (opd_sound r' hx)
    simp only [Rep] at h1
    obtain ⟨hok, _⟩ := r.heap.nth hp
    have hzero : (zeroValue et).run P w = .ok zv w := by simp [zeroValue, typeInfo, hpi, hz]
    have key : ∃ v, Rep e ((lookE k es).getD z) v ∧ (Instr.lookup mt (.map mo) (K.kv k) commaOk).run P w = .ok (if commaOk then .tuple #[v, .bool (lookE k es).isSome] else v) w := by
      cases mo with
      | none =>
        have hes : es = [] := hok
        subst hes
        have hf : (Instr.findKey kt (K.kv k) []).run P w = .ok none w := run_findKey K.hd rfl
        refine ⟨zv, hzr e, ?_⟩
        simp [Instr.lookup, run_underlying hm, run_checkKey K.hd (K.ik k), hf, hzero, lookE]
      | some b =>
        obtain ⟨arr, cl, g1, g2, g3, g4⟩ := hok
        rcases find_map K e.G k arr.toList es 0 g2 g3 with ⟨f1, f2⟩ | ⟨jj, en, xx, f1, f2, f3, f4, f5, _⟩
        · have hf := run_findKey (w := w) K.hd f1
          refine ⟨zv, by rw [f2]; exact hzr e, ?_⟩
          simp [Instr.lookup, run_underlying hm, MapKept.run_getObj_map g1, run_checkKey K.hd (K.ik k), hf, hzero, f2]
        · have hf := run_findKey (w := w) K.hd f1
          refine ⟨en.val, by rw [f4]; exact RepI.toRep xx f5, ?_⟩
          simp [Instr.lookup, run_underlying hm, MapKept.run_getObj_map g1, run_checkKey K.hd (K.ik k), hf, f4]
    obtain ⟨v, k1, k2⟩ := key
    refine ⟨if commaOk then .tuple #[v, .bool (lookE k es).isSome] else v, w, e, by simp only [execOp, h1, h2, Sem.run_bind, k2, Result.andThen_ok, Sem.run_pure], r, ?_⟩
    cases commaOk with
    | false => simpa [lookAV] using k1
    | true => simp only [lookAV, cond_true, if_true, Rep, RepT]; exact ⟨_, rfl, _, _, rfl, k1, _, _, rfl, rfl, rfl⟩)

theorem X_updS (q : Nat) {α : Type} [DecidableEq α] {kt et mt : TypeId} (K : Key P kt α) {p : Pl} {b : Nat} {es : List (α × AV)} {m x y : Operand} {k : α} {av : AV} {ty : TypeId} {pos : String} {aft : Array Edge} {gd : Option (Nat × Bool)} {j : Nat} {Si : List (Nat × AV)} {c cr : List Ch}
    (hm : P.underlying mt = some (.map kt et)) (hsb : ∀ k, Instr.sameBits 10000 (K.kv k) (K.kv k) = true)
    {kx : AV} (hkx : ∀ (e : Env) (v : Value), Rep e kx v → v = K.kv k)
    (hg : guardA ops ⟨Si, c⟩ ⟨none, .mapUpdate mt m x y, ty, pos, aft, gd⟩ = some true) (hmo : opd Si m = some (.v (.map (some b)))) (hx : opd Si x = some kx) (hy : opd Si y = some av) (himm : av.imm = true) (hp : nthA q c = some (mapA K.kv (some b) es, cr)) :
    StepX X n ops p Si c (.abs (mapA K.kv (some b) (updE k av es)) :: cr) j ⟨none, .mapUpdate mt m x y, ty, pos, aft, gd⟩ .bad :=
  StepX.skip hg rfl (fun e a w S r r' => by
    have h1 := opd_sound r' hmo
    have h2 := hkx _ _ (opd_sound r' hx)
    have h3 := opd_sound r' hy
    simp only [Rep] at h1
    obtain ⟨⟨arr, cl, g1, g2, g3, g4, g5⟩, _⟩ := r.heap.nth hp
    have hlt : b < w.heap.size := (Array.getElem?_eq_some_iff.1 g1).1
    have fin : ∀ (arr' : Array MapEntry) (cl' : Nat), (Instr.mapUpdate mt (.map (some b)) (K.kv k) (a.eval y)).run P w = .ok () { w with heap := w.heap.setIfInBounds b (.map arr' cl') } →
        arr'.toList.map (·.key) = (updE k av es).map (fun q => K.kv q.1) → RepIT e.G ((updE k av es).map (·.2)) (arr'.toList.map (·.val)) → (arr'.toList.map (·.born)).Nodup → (∀ x ∈ arr'.toList, x.born < cl') →
        ∃ w' e', (execOp a.eval ⟨none, .mapUpdate mt m x y, ty, pos, aft, gd⟩).run P w = .ok .skip w' ∧ Rel X n e' ⟨S, .abs (mapA K.kv (some b) (updE k av es)) :: cr⟩ a w' := by
      intro arr' cl' hrun k1 k2 k3 k4
      refine ⟨{ w with heap := w.heap.setIfInBounds b (.map arr' cl') }, e, by simp only [execOp, h1, h2, Sem.run_bind, hrun, Result.andThen_ok, Sem.run_pure], r.absTurn (st := ⟨S, c⟩) hp rfl ⟨arr', cl', by simp [hlt], k1, k2, k3, k4⟩ (fun b' hb' => ?_) ⟨rfl, rfl, rfl⟩ (by simp)⟩
      have hne : b ≠ b' := fun hh => hb' (by subst hh; simp [mapA])
      simp [hne]
    rcases find_map K e.G k arr.toList es 0 g2 g3 with ⟨f1, f2⟩ | ⟨jj, en, xx, f1, f2, f3, f4, f5, f6⟩
    · have hf := run_findKey (w := w) K.hd f1
      refine fin (arr.push ⟨K.kv k, a.eval y, cl⟩) (cl + 1) ?_ ?_ ?_ ?_ ?_
      · simp [Instr.mapUpdate, run_underlying hm, MapKept.run_getObj_map g1, run_checkKey K.hd (K.ik k), hf, MapKept.run_setObj_map _ g1]
      · rw [updE_new f2]; simp [g2]
      · rw [updE_new f2]
        simp only [Array.toList_push, List.map_append, List.map_cons, List.map_nil]
        exact RepIT.app g3 (by simp only [RepIT]; exact ⟨_, [], rfl, Rep.toI av himm h3, rfl⟩)
      · simp only [Array.toList_push, List.map_append, List.map_cons, List.map_nil]
        refine List.nodup_append.2 ⟨g4, by simp, ?_⟩
        intro u hu v hv
        simp only [List.mem_singleton] at hv
        subst hv
        obtain ⟨xx, hxx, rfl⟩ := List.mem_map.1 hu
        exact Nat.ne_of_lt (g5 xx hxx)
      · intro xx hxx
        simp only [Array.toList_push, List.mem_append, List.mem_singleton] at hxx
        rcases hxx with hxx | rfl
        · exact Nat.lt_succ_of_lt (g5 xx hxx)
        · exact Nat.lt_succ_self _
    · rw [Nat.zero_add] at f1
      have hf := run_findKey (w := w) K.hd f1
      have f2' : arr[jj]? = some en := by simpa using f2
      obtain ⟨u1, u2⟩ := f6 av
      refine fin (arr.modify jj fun e => { e with key := K.kv k, val := a.eval y }) cl ?_ ?_ ?_ ?_ ?_
      · have hks : (Instr.keyThatStays (K.kv k) (K.kv k)).run P w = .ok (K.kv k) w := by simp [Instr.keyThatStays, hsb k]
        simp [Instr.mapUpdate, run_underlying hm, MapKept.run_getObj_map g1, run_checkKey K.hd (K.ik k), hf, f2', f3, hks, MapKept.run_setObj_map _ g1]
      · rw [u1, ← g2]; exact map_modify_key f2' f3.symm
      · rw [u2, map_modify_val f2']
        exact repIT_set jj g3 (Rep.toI av himm h3)
      · rw [map_modify_born (f := fun e => { e with key := K.kv k, val := a.eval y }) (fun e => rfl)]; exact g4
      · intro xx hxx
        have : xx.born ∈ (arr.modify jj fun e => { e with key := K.kv k, val := a.eval y }).toList.map (·.born) := List.mem_map.2 ⟨xx, hxx, rfl⟩
        rw [map_modify_born (f := fun e => { e with key := K.kv k, val := a.eval y }) (fun e => rfl)] at this
        obtain ⟨y', hy', e'⟩ := List.mem_map.1 this
        rw [← e']; exact g5 y' hy')

theorem X_lookIS {α : Type} [DecidableEq α] {kt et mt : TypeId} (K : Key P kt α) {p : Pl} {es : List (α × AV)} {m x : Operand} {d : Option Nat} {k : α} {zv : Value} {z : AV} {commaOk : Bool} {pi : TypeInfo} {ty : TypeId} {pos : String} {aft : Array Edge} {gd : Option (Nat × Bool)} {j : Nat} {Si : List (Nat × AV)} {c : List Ch}
    (hm : P.underlying mt = some (.map kt et)) (hpi : P.info? et = some pi) (hz : pi.zero = some zv) (hzr : ∀ e : Env, Rep e z zv) (hzi : z.imm = true)
    {kx : AV} (hkx : ∀ (e : Env) (v : Value), Rep e kx v → v = K.kv k)
    (hg : guardA ops ⟨Si, c⟩ ⟨d, .lookup mt m x commaOk, ty, pos, aft, gd⟩ = some true) (hmo : opd Si m = some (mapE K.kv es)) (hx : opd Si x = some kx) (hd : dstOK n d = true) :
    StepX X n ops p Si c c j ⟨d, .lookup mt m x commaOk, ty, pos, aft, gd⟩ (lookAV commaOk (lookE k es) z) :=
  StepX.val hg hd (fun e a w S r r' => by
    have h1 := opd_sound r' hmo
    have h2 := hkx _ _ (opd_sound r' hx)
    simp only [Rep, RepI] at h1
    obtain ⟨b, vs, e1, e2, e3, e4⟩ := h1
    obtain ⟨arr, cl, g1, g0⟩ := r.mz _ _ e2
    have g2 : arr.toList.map (·.key) = es.map (fun q => K.kv q.1) := by
      have := congrArg (List.map Prod.fst) g0
      rw [List.map_map, List.map_fst_zip (by rw [e3]; exact Nat.le_refl _)] at this
      simpa [Function.comp_def] using this
    have g3 : RepIT e.G (es.map (·.2)) (arr.toList.map (·.val)) := by
      have := congrArg (List.map Prod.snd) g0
      rw [List.map_map, List.map_snd_zip (by rw [e3]; exact Nat.le_refl _)] at this
      rw [show arr.toList.map (·.val) = vs by simpa [Function.comp_def] using this]
      exact e4
    have hzero : (zeroValue et).run P w = .ok zv w := by simp [zeroValue, typeInfo, hpi, hz]
    have key : ∃ v, Rep e ((lookE k es).getD z) v ∧ (Instr.lookup mt (.map (some b)) (K.kv k) commaOk).run P w = .ok (if commaOk then .tuple #[v, .bool (lookE k es).isSome] else v) w := by
      rcases find_map K e.G k arr.toList es 0 g2 g3 with ⟨f1, f2⟩ | ⟨jj, en, xx, f1, f2, f3, f4, f5, _⟩
      · have hf := run_findKey (w := w) K.hd f1
        refine ⟨zv, by rw [f2]; exact hzr e, ?_⟩
        simp [Instr.lookup, run_underlying hm, MapKept.run_getObj_map g1, run_checkKey K.hd (K.ik k), hf, hzero, f2]
      · have hf := run_findKey (w := w) K.hd f1
        refine ⟨en.val, by rw [f4]; exact RepI.toRep xx f5, ?_⟩
        simp [Instr.lookup, run_underlying hm, MapKept.run_getObj_map g1, run_checkKey K.hd (K.ik k), hf, f4]
    obtain ⟨v, k1, k2⟩ := key
    refine ⟨if commaOk then .tuple #[v, .bool (lookE k es).isSome] else v, w, e, by simp only [execOp, e1, h2, Sem.run_bind, k2, Result.andThen_ok, Sem.run_pure], r, ?_⟩
    cases commaOk with
    | false => simpa [lookAV] using k1
    | true => simp only [lookAV, cond_true, if_true, Rep, RepT]; exact ⟨_, rfl, _, _, rfl, k1, _, _, rfl, rfl, rfl⟩)

theorem kS {l : List UInt8} {v : Value} : ∀ (e : Env), Rep e (.s l) v → v = S l := fun e h => by simpa only [Rep] using h
theorem X_cpnil {p : Pl} {t el : TypeId} {x : Operand} {cells : List AV} {d : Option Nat} {uy ty : TypeId} {pos : String} {aft : Array Edge} {gd : Option (Nat × Bool)} {j : Nat} {Si : List (Nat × AV)} {c : List Ch} (hm : P.underlying t = some (.pointer el))
    (hg : guardA ops ⟨Si, c⟩ ⟨d, .binOp .eql t x (.const (.pointer none)) uy, ty, pos, aft, gd⟩ = some true) (hx : opd Si x = some (.cp cells)) (hd : dstOK n d = true) :
    StepX X n ops p Si c c j ⟨d, .binOp .eql t x (.const (.pointer none)) uy, ty, pos, aft, gd⟩ (B false) :=
  StepX.val hg hd (fun e a w S r r' => by
    have h1 := opd_sound r' hx
    simp only [Rep, RepI] at h1
    obtain ⟨b, o, e1, _⟩ := h1
    refine ⟨.bool false, w, e, ?_, r, by simp [Rep]⟩
    have hgd : (eqGuard .eql t x (.const (.pointer none)) (.pointer (some ⟨b, o, none⟩)) (.pointer none)).run P w = .ok () w := rfl
    have h2 : a.eval (.const (.pointer none)) = .pointer none := rfl
    simp only [execOp, e1, h2, Sem.run_bind, hgd, Result.andThen_ok, binOp_eq_ptr, run_equal_ptr0 hm, Sem.run_pure, eqB, Option.isNone_some])
end
end Go.Sy

namespace Go.Sy
open Go.RowKit

section
variable {P : Program} {T : Tab} {X : Ctx P T} {n : Nat} {e : Env} {st : St} {a : Act} {w : World} {ops : Array Oper} {K : St → Prop}

theorem O_makeN {t el : TypeId} {by_ sz0 b0 : Nat} {ag0 ag1 : Bool} {z0 : List Value} {zc : Value} {d1 : TD} {lo co : Operand} {d m : Nat} {ty : TypeId} {pos : String} {aft : Array Edge} {rest : List Oper} {s : List (Nat × AV)} {c : List Ch}
    (hTs : T t = some ⟨sz0, b0, ag0, z0, .slice el⟩) (hTe : T el = some ⟨1, by_, ag1, [zc], d1⟩) (hlo : opd s lo = some (I64 (m : Nat))) (hco : opd s co = some (I64 (m : Nat))) (hd : Nat.blt d n = true)
    (hb : by_ * m ≤ 281474976710656) (hm : m ≤ maxLen)
    (k : ∀ b, SymO X n ops rest ⟨(d, .v (HO b 0 m m)) :: s, .abs (slO (HO b 0 m m) el 1 (List.replicate m (.v zc))) :: c⟩ K) : SymO X n ops (⟨some d, .makeSlice t lo co, ty, pos, aft, none⟩ :: rest) ⟨s, c⟩ K := by
  intro e a w Q r hq
  unfold wpList
  rw [if_pos (guardA_sound r (o := ⟨some d, .makeSlice t lo co, ty, pos, aft, none⟩) (b := true) rfl)]
  refine .inl ?_
  have h1 := opd_sound r hlo
  have h2 := opd_sound r hco
  simp only [Rep] at h1 h2
  obtain ⟨pi, z, i1, i2, i3, i4, i5, i6, i7⟩ := (X.ok _ _ hTe).info
  obtain ⟨dd, e1, _, e3⟩ := (X.ok _ _ hTs).desc
  simp only [TDOK] at e3
  subst e3
  have hm63 : (m : Int) ≤ 9223372036854775807 := by simp [maxLen] at hm; omega
  have hbb : (pi.bytes : Int) * (m : Int) ≤ 281474976710656 := by
    have h : ((by_ * m : Nat) : Int) ≤ 281474976710656 := by omega
    rw [i3]; rwa [Int.natCast_mul] at h
  have hrun := run_make (P := P) w t el pi z e1 i1 i4 .i64 .i64 m m (by omega) (Int.le_refl _) hbb hm63
  simp only [Int.toNat_natCast] at hrun
  unfold Oper.wp
  have hrun2 : (execOp a.eval ⟨some d, .makeSlice t lo co, ty, pos, aft, none⟩).run P w = .ok (.value (HO w.heap.size 0 m m)) (w.alloc (.cells (madeCells z.cells (m * pi.size)) el)) := by
    simp only [execOp, h1, h2, Sem.run_bind, hrun, Result.andThen_ok, Sem.run_pure]
  rw [hrun2]
  have hz : z.cells = #[zc] := by apply Array.ext'; simpa using i5
  have hzc : zc.oneCell' = true := by simpa using i6
  have hmc : madeCells z.cells (m * pi.size) = Array.replicate m zc := by
    rw [hz, i2, Nat.mul_one]
    apply Array.ext
    · simp [madeCells]
    · intro i hi1 hi2
      simp [madeCells, Nat.mod_one]
  rw [hmc]
  have r2 := r.allocAbs (A := slO (HO w.heap.size 0 m m) el 1 (List.replicate m (.v zc))) (o := .cells (Array.replicate m zc) el) rfl (by
    refine ⟨m, by simp, .inr ⟨w.heap.size, 0, m, Array.replicate m zc, rfl, Nat.le_refl _, hm, Go.heap_alloc_new w _, by simp, ?_⟩⟩
    refine RepIL.mk (by simp) (fun j cc hcc => ?_)
    rw [List.getElem?_replicate] at hcc
    split at hcc
    · rename_i hj
      simp only [Option.some.injEq] at hcc
      subst hcc
      exact ⟨zc, by simp [List.getElem?_replicate, hj], by simp only [RepI], hzc⟩
    · cases hcc)
  exact k w.heap.size _ _ _ Q (r2.put (x := .v (HO w.heap.size 0 m m)) hd (by simp only [Rep])) hq

theorem D_callAV (is : List Nat) {base : List (Nat × AV)} {c : List Ch} {done : Done} {f : FuncId} {xo : Operand} {fv : AV} {caps : List AV} {dst : Nat} {args : Array Operand} {tys : Array TypeId} {ty : TypeId} {pos : String} {aft : Array Edge} {gd : Option (Nat × Bool)} {rest : List Oper} {avs : List AV} {x : AV} {cs : List Abs} {cr : List Ch}
    (hclo : IsClo fv f caps) (hfi : fv.imm = true) (hf : FnA P f (avs ++ caps) cs (fun r cs' => r = x ∧ cs' = cs)) (hxo : opd (availL done aft.toList base) xo = some fv)
    (hg : guardA ops ⟨availL done aft.toList base, c⟩ ⟨some dst, .call ⟨.value xo, args, tys⟩, ty, pos, aft, gd⟩ = some true) (ha : opds (availL done aft.toList base) args.toList = some avs) (himm : AV.imm.immL avs = true) (hp : pickA is c = some (cs, cr)) (hd : Nat.blt dst n = true)
    (k : SymD X n ops base c K rest (done ++ [(some dst, x)])) :
    SymD X n ops base c K (⟨some dst, .call ⟨.value xo, args, tys⟩, ty, pos, aft, gd⟩ :: rest) done := by
  refine ⟨x, fun e a w S K' Q r hS hk => ?_, k⟩
  have r' : Rel X n e ⟨availL done aft.toList base, c⟩ a w := r.less hS (fun h => h)
  rw [if_pos (guardA_sound r' hg)]
  refine .inl ?_
  unfold Oper.wp
  obtain ⟨vs, hfv, hvs⟩ := hclo e.G _ (Rep.toI fv hfi (opd_sound r' hxo))
  rw [run_callV hf.1 a.eval hfv w, Oper.upon_enter]
  have h1 := RepIT.app (RepT.toI avs himm (opds_sound r' ha)) hvs
  have harr : args.map a.eval ++ vs = (args.toList.map a.eval ++ vs.toList).toArray := by
    apply Array.ext'; simp
  rw [harr]
  have hpp := pickA_perm hp
  have hd2 := (r.heap.perm hpp).absOK
  refine (hf.2 e.G w _ ⟨r.im, r.mz⟩ h1 hd2.1).mono ?_
  rintro en w' ⟨rv, cv, cs', G', ⟨rfl, rfl⟩, rfl, g1, g2, g3, g4, g5, g6, o1, o2, o3, o4, o5⟩
  have r2 := r.swapAbs (st := ⟨S, c⟩) hpp g2 g4 g3 g5 g6 ⟨o1, o2, o3⟩ o4 o5
  have r3 : Rel X n ⟨G', e.μ, e.hd⟩ ⟨S, c⟩ a w' := { r2 with heap := r2.heap.perm hpp.symm }
  exact hk _ _ _ (r3.put hd (RepI.toRep (e := ⟨G', e.μ, e.hd⟩) rv g1))
end
end Go.Sy

namespace Go.Sy
open Go.RowKit

section
variable {P : Program} {T : Tab} {X : Ctx P T} {n : Nat} {e : Env} {st : St} {a : Act} {w : World} {ops : Array Oper} {K : St → Prop}

theorem O_appendV (q : Nat) {dst : Nat} {so_ xo : Operand} {t ty : TypeId} {pos : String} {aft : Array Edge} {rest : List Oper} {s : List (Nat × AV)} {c cr : List Ch} {h : Value} {el esz m m2 m3 : Nat} {row row2 row3 : Nat → List AV} {by_ : Nat} {sz0 b0 : Nat} {ag0 ag1 : Bool} {z0 z1 : List Value} {d1 : TD}
    (hTs : T t = some ⟨sz0, b0, ag0, z0, .slice el⟩) (hTe : T el = some ⟨esz, by_, ag1, z1, d1⟩) (hpos : Nat.blt 0 esz = true)
    (hso : opd s so_ = some (.v h)) (hp : nthA q c = some (vecA h el esz m row, cr)) (hxo : opd s xo = some (.sl m2 esz row2)) (hr2 : ∀ i, i < m2 → (row2 i).length = esz)
    (hd : Nat.blt dst n = true) (hlen : (m + m2) * by_ ≤ 140737488355328) (hlen2 : m + m2 ≤ maxLen)
    (hm3 : m3 = m + m2) (hrow3 : ∀ i, i < m3 → appRow m row row2 i = row3 i)
    (k : ∀ v', (m3 = 0 ∧ v' = .slice none 0 0) ∨ (∃ g cc, v' = HD g m3 cc) → SymO X n ops rest ⟨(dst, .v v') :: s, .abs (vecA v' el esz m3 row3) :: cr⟩ K) :
    SymO X n ops (⟨some dst, .call ⟨.builtin .append, #[so_, xo], #[t, t]⟩, ty, pos, aft, none⟩ :: rest) ⟨s, c⟩ K := by
  subst hm3
  intro e a w Q r hq
  obtain ⟨pi, z, i1, i2, i3, i4, i5, i6, i7⟩ := (X.ok _ _ hTe).info
  obtain ⟨dd, e1, _, e3⟩ := (X.ok _ _ hTs).desc
  simp only [TDOK] at e3
  subst e3
  have hso' := opd_sound r hso
  simp only [Rep] at hso'
  have hzs : z.cells.size = esz := by
    have : z.cells.toList.length = esz := by rw [i5]; exact i7
    simpa using this
  have hpos' : 0 < esz := by have := hpos; simp [Nat.blt] at this; omega
  obtain ⟨⟨xs, g1, g2⟩, hgood, hnd⟩ := r.heap.nth hp
  have hperm : c.Perm ([vecA h el esz m row].map Ch.abs ++ cr) := by simpa using nthA_perm hp
  have hbl : ∀ B : Abs, blocks [B] = B.bs := fun B => by simp [blocks]
  have fin : ∀ (v' : Value) (w' : World) (xs' : List Value), (execOp a.eval ⟨some dst, .call ⟨.builtin .append, #[so_, xo], #[t, t]⟩, ty, pos, aft, none⟩).run P w = .ok (.value v') w' →
      w'.ownsRow 0 el esz v' (m + m2) xs' → RowsL e.G esz (m + m2) row3 xs' →
      (∀ b, b < w.heap.size → b ∉ (vecA h el esz m row).bs → w'.heap[b]? = w.heap[b]?) → (∀ b, v'.ownBlock = some b → b < w'.heap.size ∧ (some b = h.ownBlock ∨ w.heap.size ≤ b)) →
      w'.os = w.os ∧ w'.tape = w.tape ∧ w'.output = w.output → w.heap.size ≤ w'.heap.size → wpList P ops Q (⟨some dst, .call ⟨.builtin .append, #[so_, xo], #[t, t]⟩, ty, pos, aft, none⟩ :: rest) a w := by
    intro v' w' xs' hrun hown hrows hoth hbs' ho hsz
    unfold wpList
    rw [if_pos (by simp [Region.wanted])]
    refine .inl ?_
    unfold Oper.wp
    rw [hrun]
    have hmem : ∀ b ∈ (vecA v' el esz (m + m2) row3).bs, v'.ownBlock = some b := fun b hb => by simpa [vecA] using hb
    have hin : ∀ b, some b = h.ownBlock → b ∈ (vecA h el esz m row).bs := fun b hb => by simp [vecA, ← hb]
    have r2 := r.swapAbs (st := ⟨s, c⟩) (As := [vecA h el esz m row]) (As' := [vecA v' el esz (m + m2) row3]) (G' := e.G) (w' := w') hperm (IM.le_refl _) ⟨?_, ?_⟩ ⟨fun b o v h => .inl h, fun b x h => .inl h⟩ ⟨?_, ?_, ?_⟩ ?_ ho hsz ?_
    · have hsh : (m + m2 = 0 ∧ v' = .slice none 0 0) ∨ (∃ g cc, v' = HD g (m + m2) cc) := by
        rcases hown.2 with ⟨h1, h2⟩ | ⟨g, cap, cur, h1, _⟩
        · exact .inl ⟨h2, h1⟩
        · exact .inr ⟨g, cap, h1⟩
      exact k v' hsh _ _ _ Q (r2.put (x := .v v') (v := v') hd (by simp only [Rep])) hq
    · intro b o v hv
      have h1 := r.im b o v hv
      simp only [World.cell?] at h1 ⊢
      rw [hoth b (r.glt0 _ _ _ hv) (fun hin => by rw [(hgood b hin).2.2.1 o] at hv; cases hv)]
      exact h1
    · exact r.mzKeep (fun b hb hf => hoth b hb (fun hin => hf (hgood b hin).2.2))
    · intro B hB
      simp only [List.mem_singleton] at hB
      subst hB; exact ⟨xs', hown, hrows⟩
    · rw [hbl]
      show (v'.ownBlock.toList).Nodup
      cases v'.ownBlock <;> simp
    · intro b hb
      rw [hbl] at hb
      obtain ⟨h1, h2⟩ := hbs' b (hmem b hb)
      refine ⟨h1, ?_⟩
      rcases h2 with h2 | h2
      · exact (hgood b (hin b h2)).2.2
      · exact r.free h2
    · intro b hb
      rw [hbl] at hb ⊢
      rcases (hbs' b (hmem b hb)).2 with h2 | h2
      · exact .inr (hin b h2)
      · exact .inl h2
    · intro b hb hnin _
      rw [hbl] at hnin
      exact hoth b hb hnin
  have hrowsOut : ∀ {news : List Value}, RowsL e.G esz m2 row2 news → RowsL e.G esz (m + m2) row3 (xs ++ news) := fun hn i hi => by
    rw [← hrow3 i hi]; exact rows_app g1.1 g2 hn i hi
  have hno : ∀ b, b ∉ (vecA h el esz m row).bs → some b ≠ h.ownBlock := fun b hb he => hb (by simp [vecA, ← he])
  rcases src_sl hxo hr2 e a w r with ⟨ad, cc, news, hx, hl, hnews, h1, hrn⟩ | ⟨hm2, cc, hx⟩
  · obtain ⟨v', w', hr, q2, q3, q4⟩ := run_append_own (P := P) w 0 t ty el pi z esz by_ e1 i1 i4 i2 i3 hzs hpos' h m xs g1 ad m2 cc news hl hnews h1 hlen2 hlen (Nat.zero_le _)
    have hrun : (execOp a.eval ⟨some dst, .call ⟨.builtin .append, #[so_, xo], #[t, t]⟩, ty, pos, aft, none⟩).run P w = .ok (.value v') w' := by
      simp only [execOp, resolve, invoke, builtin, Sem.run_bind, Sem.run_pure, Result.andThen_ok, List.map_toArray, List.map_cons, List.map_nil, hso', hx, hr]
    refine fin v' w' (xs ++ news) hrun q2 (hrowsOut hrn) (fun b hb hn => q3.block b hb (fun he => hno b hn he)) (fun b hb => ?_) ⟨q3.os, q3.tape, q3.output⟩ q3.size
    refine ⟨(q2.lt b hb).2, ?_⟩
    simp only at i2 i3
    subst i2 i3
    exact append_block t ty el pi z e1 i1 i4 h m xs g1 ad m2 cc news hl hnews h1 hlen2 hlen hr b hb
  · subst hm2
    have hrun0 := append_none t ty el pi e1 i1 h m xs g1 cc
    have hrun : (execOp a.eval ⟨some dst, .call ⟨.builtin .append, #[so_, xo], #[t, t]⟩, ty, pos, aft, none⟩).run P w = .ok (.value h) w := by
      simp only [execOp, resolve, invoke, builtin, Sem.run_bind, Sem.run_pure, Result.andThen_ok, List.map_toArray, List.map_cons, List.map_nil, hso', hx, hrun0]
    have hrn : RowsL e.G esz 0 row2 ([] : List Value) := fun i hi => by omega
    refine fin h w (xs ++ []) hrun (by simpa using g1) (hrowsOut hrn) (fun _ _ _ => rfl) (fun b hb => ⟨(hgood b (by simp [vecA, hb])).1, .inl hb.symm⟩) ⟨rfl, rfl, rfl⟩ (Nat.le_refl _)

theorem Le.frVec (q : Nat) {h : Value} {t : TypeId} {esz m : Nat} {row : Nat → List AV} {s : List (Nat × AV)} {c cr : List Ch} (row' : Nat → List AV) (hp : nthA q c = some (vecA h t esz m row, cr)) (hrow : ∀ i, i < m → row' i = row i) :
    Le X n ⟨s, c⟩ ⟨s, .abs (repA (.sl m esz row') h) :: cr⟩ := by
  refine Le.fr q hp rfl ?_
  rintro G w ⟨xs, g1, g2⟩ hb
  rcases g1.2 with ⟨rfl, rfl⟩ | ⟨g, cap, cur, rfl, _, hg, hcap, hmax, hcs, htake⟩
  · refine ⟨G, IM.le_refl _, fun _ _ _ h => .inl h, fun _ _ h => .inl h, ?_⟩
    simp only [repA, RepI]
    exact ⟨none, 0, rfl, Nat.le_refl _, .inl trivial⟩
  · have hf := hb g (by simp [vecA, Value.ownBlock])
    let G' : IM := ⟨fun b' o' => if b' = g then cur[o']? else G b' o', G.m⟩
    have hle : IM.le G G' := by
      refine ⟨?_, fun _ _ h => h⟩
      intro b' o' v hv
      show (if b' = g then cur[o']? else G b' o') = some v
      rw [if_neg]
      · exact hv
      · rintro rfl; rw [hf.2.1 o'] at hv; cases hv
    refine ⟨G', hle, ?_, fun _ _ h => .inl h, ?_⟩
    · intro b' o' v hv
      have hv' : (if b' = g then cur[o']? else G b' o') = some v := hv
      split at hv'
      · rename_i hbb; subst hbb
        refine .inr ⟨by simp [vecA, Value.ownBlock], ?_⟩
        rw [cell_of_row w b' o' cur t (0, 0) hg]; exact hv'
      · exact .inl hv'
    · simp only [repA, RepI]
      refine ⟨some ⟨g, 0, none⟩, cap, rfl, hcap, .inr ⟨g, 0, rfl, fun i hi => CellsAt.mk (fun j c hc => ?_)⟩⟩
      rw [hrow i hi] at hc
      obtain ⟨z, z1, z2, z3⟩ := (g2 i hi).get j c hc
      have hj : j < esz := by
        rcases Nat.lt_or_ge j esz with h | h
        · exact h
        · rw [List.getElem?_eq_none (by simp; omega)] at z1; cases z1
      have hlt : i * esz + j < m * esz := by
        have : (i + 1) * esz ≤ m * esz := Nat.mul_le_mul_right _ hi
        rw [Nat.add_mul] at this; omega
      rw [List.getElem?_take, if_pos hj, List.getElem?_drop, ← htake, List.getElem?_take, if_pos hlt] at z1
      refine ⟨z, ?_, RepI.mono hle _ z2, z3⟩
      show (if g = g then cur[0 + i * esz + j]? else G g (0 + i * esz + j)) = some z
      rw [if_pos rfl, Nat.zero_add]; simpa using z1
theorem Le.addVec (t : TypeId) (esz : Nat) (row : Nat → List AV) {s : List (Nat × AV)} {c : List Ch} : Le X n ⟨s, c⟩ ⟨s, .abs (vecA (.slice none 0 0) t esz 0 row) :: c⟩ :=
  Le.addAbs _ rfl (fun _ _ => ⟨[], ⟨by simp, .inl ⟨rfl, rfl⟩⟩, fun i hi => absurd hi (Nat.not_lt_zero _)⟩)
end
end Go.Sy

namespace Go.Sy
open Go.RowKit

section
variable {P : Program} {T : Tab} {X : Ctx P T} {n : Nat} {e : Env} {st : St} {a : Act} {w : World} {ops : Array Oper} {K : St → Prop}

theorem X_storeV (q i : Nat) {p : Pl} {g o m cc : Nat} {t tt : TypeId} {esz by_ : Nat} {z : List Value} {dd : TD} {row row' : Nat → List AV} {ad xo : Operand} {cells : List AV} {ty : TypeId} {pos : String} {aft : Array Edge} {gd : Option (Nat × Bool)} {jj : Nat} {Si : List (Nat × AV)} {c cr : List Ch}
    (hT : T t = some ⟨esz, by_, true, z, dd⟩) (hg : guardA ops ⟨Si, c⟩ ⟨none, .store t ad xo, ty, pos, aft, gd⟩ = some true) (had : opd Si ad = some (PT g o)) (ho : o = i * esz) (hx : opd Si xo = some (.agg cells)) (hlen : cells.length = esz) (himm : AV.imm.immL cells = true)
    (hi : i < m) (hp : nthA q c = some (vecA (HD g m cc) tt esz m row, cr)) (hrow : ∀ j, j < m → row' j = if j = i then cells else row j) :
    StepX X n ops p Si c (.abs (vecA (HD g m cc) tt esz m row') :: cr) jj ⟨none, .store t ad xo, ty, pos, aft, gd⟩ .bad :=
  StepX.skip hg rfl (fun e a w S r r' => by
    have h1 := opd_sound r' had
    have h2 := opd_sound r' hx
    simp only [Rep] at h1 h2
    obtain ⟨ys, h2, h3⟩ := h2
    obtain ⟨⟨xs, g1, g2⟩, hgood, _⟩ := r.heap.nth hp
    rcases g1.2 with ⟨hnil, _⟩ | ⟨g', cap, cur, hsl, _, hgc, hcap, hmax, hcs, htake⟩
    · cases hnil
    simp only [HD, Value.slice.injEq, Option.some.injEq, Addr.mk.injEq, and_true, true_and] at hsl
    obtain ⟨rfl, rfl⟩ := hsl
    have hyl : ys.toList.length = esz := by rw [← hlen]; exact RepIL.len (RepL.toI cells himm h3)
    have hle : (i + 1) * esz ≤ m * esz := Nat.mul_le_mul_right _ hi
    have hle2 : m * esz ≤ cc * esz := Nat.mul_le_mul_right _ hcap
    rw [Nat.add_mul] at hle
    have hfit : o + ys.toList.length ≤ cur.size := by rw [hyl, hcs, ho]; omega
    have hone : ∀ v ∈ ys.toList, v.oneCell' = true := RepL.one h3
    have hrun0 := run_storeCells_cells (P := P) g o ys.toList 0 w (fun j hj => by
        rw [Nat.add_zero, cell_of_row w g _ cur tt (0, 0) hgc]
        rw [Array.getElem?_eq_getElem (by omega)]; rfl) (fun j hj => by simp [World.frozen?, hgc]) hone
    rw [Nat.add_zero] at hrun0
    have hsz : ys.size = esz := by simpa using hyl
    have hrun : (execOp a.eval ⟨none, .store t ad xo, ty, pos, aft, gd⟩).run P w = .ok .skip (w.setCells g o ys.toList) := by
      simp only [execOp, Instr.storeAt, h1, h2, Instr.sureAddr, Sem.run_bind, Sem.run_pure, Result.andThen_ok, storeVar, X.ok.size hT]
      have hc : (Value.agg ys).cells = ys := rfl
      simp [hc, hsz, hrun0]
    refine ⟨_, e, hrun, r.absTurn (st := ⟨S, c⟩) hp rfl ?_ (fun b hb => ?_) ?_ ?_⟩
    · have hh := setCells_heap ys.toList g o w cur tt (0, 0) hgc
      refine ⟨(writeAt cur o ys.toList).toList.take (m * esz), ⟨?_, .inr ⟨g, cc, _, rfl, Nat.zero_le _, hh, hcap, hmax, by rw [writeAt_size]; exact hcs, rfl⟩⟩, ?_⟩
      · simp only [List.length_take, Array.length_toList, writeAt_size]; omega
      · intro j hj
        rw [hrow j hj]
        have hjle : (j + 1) * esz ≤ m * esz := Nat.mul_le_mul_right _ hj
        rw [Nat.add_mul] at hjle
        refine RepIL.mk ?_ (fun k y hy => ?_)
        · simp only [List.length_take, List.length_drop, Array.length_toList, writeAt_size]
          have hrl := (g2 j hj).len
          simp only [List.length_take, List.length_drop] at hrl
          have hxl := g1.1
          split
          · rw [hlen]; omega
          · rw [← hrl, hxl]; omega
        · have hk : k < esz := by
            have hrl := (g2 j hj).len
            simp only [List.length_take, List.length_drop] at hrl
            rcases Nat.lt_or_ge k esz with h | h
            · exact h
            · rw [List.getElem?_eq_none] at hy
              · cases hy
              · split
                · omega
                · rw [← hrl]; omega
          rw [List.getElem?_take, if_pos hk, List.getElem?_drop, List.getElem?_take, if_pos (by omega), Array.getElem?_toList, writeAt_get _ _ _ _ hfit]
          by_cases hji : j = i
          · subst hji
            rw [if_pos rfl] at hy
            rw [if_pos (by rw [hyl]; omega)]
            obtain ⟨zz, z1, z2, z3⟩ := (RepL.toI cells himm h3).get k y hy
            exact ⟨zz, by rw [show j * esz + k - o = k by omega]; exact z1, z2, z3⟩
          · rw [if_neg hji] at hy
            rw [if_neg (by
              rw [hyl, ho]
              rcases Nat.lt_or_gt_of_ne hji with h | h
              · have : (j + 1) * esz ≤ i * esz := Nat.mul_le_mul_right _ h
                rw [Nat.add_mul] at this; omega
              · have : (i + 1) * esz ≤ j * esz := Nat.mul_le_mul_right _ h
                rw [Nat.add_mul] at this; omega)]
            obtain ⟨zz, z1, z2, z3⟩ := (g2 j hj).get k y hy
            rw [List.getElem?_take, if_pos hk, List.getElem?_drop, ← htake, List.getElem?_take, if_pos (by omega)] at z1
            exact ⟨zz, by simpa using z1, z2, z3⟩
    · exact setCells_other ys.toList g o b w (fun he => hb (by subst he; simp [vecA, HD, Value.ownBlock]))
    · exact (setCells_misc ys.toList g o w).2
    · exact (setCells_misc ys.toList g o w).1)
end
end Go.Sy

namespace Go.Sy
open Go.RowKit

section
variable {P : Program} {T : Tab} {X : Ctx P T} {n : Nat} {e : Env} {st : St} {a : Act} {w : World} {ops : Array Oper} {K : St → Prop}

theorem run_ext {f : FuncId} {dst : Option Tmp} {args : Array Operand} {tys : Array TypeId} {ty : TypeId} {pos : String} {aft : Array Edge} {gd : Option (Nat × Bool)} (ρ : Operand → Value) (hρ : ρ (.func f) = .func (.func f) #[] #[]) (w w' : World) {v : Value}
    (h : (callFunc f (args.map ρ)).run P w = .ok (.value v) w') : (execOp ρ ⟨dst, .call ⟨.value (.func f), args, tys⟩, ty, pos, aft, gd⟩).run P w = .ok (.value v) w' := by
  simp only [execOp, resolve, hρ, Deferred.ofValue, Sem.run_bind, Sem.run_pure, Result.andThen_ok, invoke]
  simp [h]

theorem box_cell {G : IM} {b o : Nat} {t : TypeId} {cells : List AV} {v : Value} (hok : (boxA b t cells).ok G w) (hj : cells[o]? = some (.v v)) : w.cell? ⟨b, o, none⟩ = some v ∧ w.frozen? ⟨b, o, none⟩ = false := by
  obtain ⟨arr, h1, h2⟩ := hok
  obtain ⟨z, z1, z2, z3⟩ := h2.get o _ hj
  simp only [RepI] at z2
  subst z2
  exact ⟨by rw [cell_of_row w b o arr t (0, 0) h1]; simpa using z1, by simp [World.frozen?, h1]⟩

theorem X_mark0 {p : Pl} {f : FuncId} {fn : Func} (hf : P.funcs[f]? = some fn) (hname : (fn.name == "runtime.NumGoroutine") = false) (hb : fn.body.isNone = true) (hn : Extern.findNext fn = none) (m : Mark)
    (he : Extern.find fn = some (fun _ => do mark m; pure Extern.Race.none_)) {d : Option Nat} {tys : Array TypeId} {ty : TypeId} {pos : String} {aft : Array Edge} {gd : Option (Nat × Bool)} {j : Nat} {Si : List (Nat × AV)} {c : List Ch}
    (hg : guardA ops ⟨Si, c⟩ ⟨d, .call ⟨.value (.func f), #[], tys⟩, ty, pos, aft, gd⟩ = some true) (hd : dstOK n d = true) :
    StepX X n ops p Si c c j ⟨d, .call ⟨.value (.func f), #[], tys⟩, ty, pos, aft, gd⟩ (.tup []) :=
  StepX.val hg hd (fun e a w S r r' => ⟨.tuple #[], w, e, run_ext a.eval rfl w w (by simpa using run_call_mark0 hf hname hb hn m he w), r, by simp only [Rep, RepT]; exact ⟨_, rfl, rfl⟩⟩)
theorem X_marked {p : Pl} {f : FuncId} {fn : Func} (hf : P.funcs[f]? = some fn) (hname : (fn.name == "runtime.NumGoroutine") = false) (hb : fn.body.isNone = true) (hn : Extern.findNext fn = none) (m : Addr → Mark)
    (he : Extern.find fn = some (Extern.Race.marked m)) {x : Operand} {b o : Nat} {d : Option Nat} {tys : Array TypeId} {ty : TypeId} {pos : String} {aft : Array Edge} {gd : Option (Nat × Bool)} {j : Nat} {Si : List (Nat × AV)} {c : List Ch}
    (hg : guardA ops ⟨Si, c⟩ ⟨d, .call ⟨.value (.func f), #[x], tys⟩, ty, pos, aft, gd⟩ = some true) (hx : opd Si x = some (PT b o)) (hd : dstOK n d = true) :
    StepX X n ops p Si c c j ⟨d, .call ⟨.value (.func f), #[x], tys⟩, ty, pos, aft, gd⟩ (.tup []) :=
  StepX.val hg hd (fun e a w S r r' => by
    have h1 := opd_sound r' hx
    simp only [Rep] at h1
    refine ⟨.tuple #[], w, e, run_ext a.eval rfl w w ?_, r, by simp only [Rep, RepT]; exact ⟨_, rfl, rfl⟩⟩
    have := run_call_marked (P := P) hf hname hb hn m he ⟨b, o, none⟩ w
    simpa [h1] using this)
theorem X_unsafe (q : Nat) {p : Pl} {src dst' t : TypeId} (hs : P.underlying src = some (.pointer t)) (hdd : P.underlying dst' = some .unsafePointer) (hsz : (P.info? t).map (fun i => decide (i.size = 0)) = some false)
    {x : Operand} {b o : Nat} {T' : TypeId} {cells : List AV} {v : Value} {d : Option Nat} {ty : TypeId} {pos : String} {aft : Array Edge} {gd : Option (Nat × Bool)} {j : Nat} {Si : List (Nat × AV)} {c cr : List Ch}
    (hg : guardA ops ⟨Si, c⟩ ⟨d, .convert src dst' x, ty, pos, aft, gd⟩ = some true) (hx : opd Si x = some (PT b o)) (hp : nthA q c = some (boxA b T' cells, cr)) (hj : cells[o]? = some (.v v)) (hd : dstOK n d = true) :
    StepX X n ops p Si c c j ⟨d, .convert src dst' x, ty, pos, aft, gd⟩ (PT b o) :=
  StepX.val hg hd (fun e a w S r r' => by
    have h1 := opd_sound r' hx
    simp only [Rep] at h1
    have hc := box_cell (r.heap.nth hp).1 hj
    refine ⟨.pointer (some ⟨b, o, none⟩), w, e, ?_, r, by simp only [Rep]⟩
    have := run_convert_to_unsafe (P := P) hs hdd hsz hc.1
    simp only [execOp, h1, Sem.run_bind, this, Result.andThen_ok, Sem.run_pure])
theorem X_aload (q : Nat) {p : Pl} {f : FuncId} {fn : Func} (hf : P.funcs[f]? = some fn) (hname : (fn.name == "runtime.NumGoroutine") = false) (hb : fn.body.isNone = true) (hn : Extern.findNext fn = none) (k : IntKind)
    (he : Extern.find fn = some (Extern.Atomic.loadT (.int k))) {x : Operand} {b o : Nat} {T' : TypeId} {cells : List AV} {y : Int} {d : Option Nat} {tys : Array TypeId} {ty : TypeId} {pos : String} {aft : Array Edge} {gd : Option (Nat × Bool)} {j : Nat} {Si : List (Nat × AV)} {c cr : List Ch}
    (hg : guardA ops ⟨Si, c⟩ ⟨d, .call ⟨.value (.func f), #[x], tys⟩, ty, pos, aft, gd⟩ = some true) (hx : opd Si x = some (PT b o)) (hp : nthA q c = some (boxA b T' cells, cr)) (hj : cells[o]? = some (.v (.int k y))) (hd : dstOK n d = true) :
    StepX X n ops p Si c c j ⟨d, .call ⟨.value (.func f), #[x], tys⟩, ty, pos, aft, gd⟩ (.v (.int k y)) :=
  StepX.val hg hd (fun e a w S r r' => by
    have h1 := opd_sound r' hx
    simp only [Rep] at h1
    have hc := box_cell (r.heap.nth hp).1 hj
    refine ⟨.int k y, w, e, run_ext a.eval rfl w w ?_, r, by simp only [Rep]⟩
    have := run_call_load (P := P) hf hname hb hn k he hc.1
    simpa [h1] using this)
theorem box_write (r : Rel X n e ⟨st.s, st.c⟩ a w) {q b o : Nat} {T' : TypeId} {cells : List AV} {u v : Value} {cr : List Ch} (hp : nthA q st.c = some (boxA b T' cells, cr)) (hj : cells[o]? = some (.v u)) (hv : v.oneCell' = true) :
    Rel X n e ⟨st.s, .abs (boxA b T' (cells.set o (.v v))) :: cr⟩ a (w.setCell ⟨b, o, none⟩ v) := by
  have hlt : o < cells.length := by
    rcases Nat.lt_or_ge o cells.length with h | h
    · exact h
    · rw [List.getElem?_eq_none h] at hj; cases hj
  have hW := writes_box (b := b) (t := T') (cells := cells) (o := o) (x := .v v) hlt
  exact r.absWrite (st := st) hp hW.1 hW.2.1 (hW.2.2 _ _ _ (r.heap.nth hp).1 (by simp only [RepI]) hv).2.2
theorem X_acas (q : Nat) {p : Pl} {f : FuncId} {fn : Func} (hf : P.funcs[f]? = some fn) (hname : (fn.name == "runtime.NumGoroutine") = false) (hb : fn.body.isNone = true) (hn : Extern.findNext fn = none) (k : IntKind)
    (he : Extern.find fn = some (Extern.Atomic.casT (.int k))) {x xo xn : Operand} {b o : Nat} {T' : TypeId} {cells : List AV} {y z : Int} {d : Option Nat} {tys : Array TypeId} {ty : TypeId} {pos : String} {aft : Array Edge} {gd : Option (Nat × Bool)} {j : Nat} {Si : List (Nat × AV)} {c cr : List Ch}
    (hg : guardA ops ⟨Si, c⟩ ⟨d, .call ⟨.value (.func f), #[x, xo, xn], tys⟩, ty, pos, aft, gd⟩ = some true) (hx : opd Si x = some (PT b o)) (hxo : opd Si xo = some (.v (.int k y))) (hxn : opd Si xn = some (.v (.int k z))) (hp : nthA q c = some (boxA b T' cells, cr)) (hj : cells[o]? = some (.v (.int k y))) (hd : dstOK n d = true) :
    StepX X n ops p Si c (.abs (boxA b T' (cells.set o (.v (.int k z)))) :: cr) j ⟨d, .call ⟨.value (.func f), #[x, xo, xn], tys⟩, ty, pos, aft, gd⟩ (B true) :=
  StepX.val hg hd (fun e a w S r r' => by
    have h1 := opd_sound r' hx
    have h2 := opd_sound r' hxo
    have h3 := opd_sound r' hxn
    simp only [Rep] at h1 h2 h3
    have hc := box_cell (r.heap.nth hp).1 hj
    refine ⟨.bool true, _, e, run_ext a.eval rfl w _ ?_, box_write (st := ⟨S, c⟩) r hp hj rfl, by simp only [Rep]⟩
    have := run_call_cas_hit (P := P) hf hname hb hn k he (y := z) hc.1 hc.2
    simpa [h1, h2, h3] using this)
theorem X_astore (q : Nat) {p : Pl} {f : FuncId} {fn : Func} (hf : P.funcs[f]? = some fn) (hname : (fn.name == "runtime.NumGoroutine") = false) (hb : fn.body.isNone = true) (hn : Extern.findNext fn = none)
    (he : Extern.find fn = some Extern.Atomic.storeT) {x xn : Operand} {b o : Nat} {T' : TypeId} {cells : List AV} {k : IntKind} {z : Int} {u : Value} {d : Option Nat} {tys : Array TypeId} {ty : TypeId} {pos : String} {aft : Array Edge} {gd : Option (Nat × Bool)} {j : Nat} {Si : List (Nat × AV)} {c cr : List Ch}
    (hg : guardA ops ⟨Si, c⟩ ⟨d, .call ⟨.value (.func f), #[x, xn], tys⟩, ty, pos, aft, gd⟩ = some true) (hx : opd Si x = some (PT b o)) (hxn : opd Si xn = some (.v (.int k z))) (hp : nthA q c = some (boxA b T' cells, cr)) (hj : cells[o]? = some (.v u)) (hd : dstOK n d = true) :
    StepX X n ops p Si c (.abs (boxA b T' (cells.set o (.v (.int k z)))) :: cr) j ⟨d, .call ⟨.value (.func f), #[x, xn], tys⟩, ty, pos, aft, gd⟩ (.tup []) :=
  StepX.val hg hd (fun e a w S r r' => by
    have h1 := opd_sound r' hx
    have h3 := opd_sound r' hxn
    simp only [Rep] at h1 h3
    have hc := box_cell (r.heap.nth hp).1 hj
    refine ⟨.tuple #[], _, e, run_ext a.eval rfl w _ ?_, box_write (st := ⟨S, c⟩) r hp hj rfl, by simp only [Rep, RepT]; exact ⟨_, rfl, rfl⟩⟩
    have := run_call_store (P := P) hf hname hb hn he (k := k) (y := z) hc.1 hc.2
    simpa [h1, h3] using this)
theorem X_aadd (q : Nat) {p : Pl} {f : FuncId} {fn : Func} (hf : P.funcs[f]? = some fn) (hname : (fn.name == "runtime.NumGoroutine") = false) (hb : fn.body.isNone = true) (hn : Extern.findNext fn = none) (k : IntKind)
    (he : Extern.find fn = some (Extern.Atomic.update (Op.intArith .add) k true)) {x xn : Operand} {b o : Nat} {T' : TypeId} {cells : List AV} {y z s : Int} (hs : ∀ w, (Op.intArith .add k y z).run P w = .ok (.int k s) w) {d : Option Nat} {tys : Array TypeId} {ty : TypeId} {pos : String} {aft : Array Edge} {gd : Option (Nat × Bool)} {j : Nat} {Si : List (Nat × AV)} {c cr : List Ch}
    (hg : guardA ops ⟨Si, c⟩ ⟨d, .call ⟨.value (.func f), #[x, xn], tys⟩, ty, pos, aft, gd⟩ = some true) (hx : opd Si x = some (PT b o)) (hxn : opd Si xn = some (.v (.int k z))) (hp : nthA q c = some (boxA b T' cells, cr)) (hj : cells[o]? = some (.v (.int k y))) (hd : dstOK n d = true) :
    StepX X n ops p Si c (.abs (boxA b T' (cells.set o (.v (.int k s)))) :: cr) j ⟨d, .call ⟨.value (.func f), #[x, xn], tys⟩, ty, pos, aft, gd⟩ (.v (.int k s)) :=
  StepX.val hg hd (fun e a w S r r' => by
    have h1 := opd_sound r' hx
    have h3 := opd_sound r' hxn
    simp only [Rep] at h1 h3
    have hc := box_cell (r.heap.nth hp).1 hj
    refine ⟨.int k s, _, e, run_ext a.eval rfl w _ ?_, box_write (st := ⟨S, c⟩) r hp hj rfl, by simp only [Rep]⟩
    have := run_call_add (P := P) hf hname hb hn k he (y := z) hc.1 hc.2 (hs w)
    simpa [h1, h3] using this)

def FnD (P : Program) (f : FuncId) (args : List AV) (cs : List Abs) (post : AV → List Abs → Prop) : Prop :=
  Callable P f ∧ ∀ (u : FrameMode) (G : IM) (w : World) (cargs : List Value), ImOK G w → RepIT G args cargs → AbsOK G w cs →
    CallsD P f cargs.toArray u w fun en u' w' => u' = u ∧ ∃ r cr cs' G', post r cs' ∧ en = .returned cr ∧ RepI G' r cr ∧ IM.le G G' ∧
      NewAt G G' w.heap.size (blocks cs) ∧ ImOK G' w' ∧ AbsOK G' w' cs' ∧
      (∀ b ∈ blocks cs', w.heap.size ≤ b ∨ b ∈ blocks cs) ∧
      w'.os = w.os ∧ w'.tape = w.tape ∧ w'.output = w.output ∧ w.heap.size ≤ w'.heap.size ∧ ∀ k, k < w.heap.size → k ∉ blocks cs → G.still k → w'.heap[k]? = w.heap[k]?

theorem FnD.intro (ok : TabOK P T) (wide : P.follows .mixedOrders = true) {f : FuncId} {fn : Func} {c : Code} {args : List AV} {cs : List Abs} {post : AV → List Abs → Prop} (hf : P.funcs[f]? = some fn) (hb : fn.body = some c)
    (hn : (fn.name == "runtime.NumGoroutine") = false) (hargs : Nat.ble args.length fn.ntmps = true)
    (h : ∀ X : Ctx P T, SymC X fn.ntmps c ⟨enumA 0 args, cs.map Ch.abs⟩ (EndsX T fn.results post)) : FnD P f args cs post := by
  refine ⟨⟨fn, hf, by simp [hb], hn⟩, ?_⟩
  intro u G w cargs him hrep hcs
  have hargs := Nat.le_of_ble_eq_true hargs
  refine callsD_of_wp hf hb ?_
  let X : Ctx P T := ⟨ok, wide, w, G, blocks cs, fun _ => 0, fun _ _ => False⟩
  let e : Env := ⟨G, fun _ => 0, fun _ => undef⟩
  have hheap : HeapOK X e w (cs.map Ch.abs) := by
    refine ⟨cs.map (fun A => (Ch.abs A, A.bs)), by simp [Function.comp_def], ?_, by rw [flat_abs]; exact hcs.2.1, ?_⟩
    · intro p hp
      obtain ⟨A, hA, rfl⟩ := List.mem_map.1 hp
      exact ⟨rfl, hcs.1 A hA⟩
    · rw [flat_abs]
      intro b hb
      exact ⟨(hcs.2.2 b hb).1, .inr hb, (hcs.2.2 b hb).2⟩
  have r : Rel X fn.ntmps e ⟨enumA 0 args, cs.map Ch.abs⟩ { tmps := cargs.toArray ++ Array.replicate (fn.ntmps - cargs.toArray.size) undef, defers := [] } w :=
    Rel.enter rfl rfl him (RepIT.toRep (e := e) args hrep) hargs hheap rfl
  refine Code.wp_mono (fun ex a' w' hc => ?_) (h X e _ w r)
  have fin : ∀ (e' : Env) (st' : St), Rel X fn.ntmps e' st' a' w' → (∃ r cs rest, resA T st' fn.results.toList = some r ∧ st'.c.Perm (cs.map Ch.abs ++ rest) ∧ r.imm = true ∧ post r cs) →
      a'.defers = [] ∧ ∃ v, (results fn a'.tmps).run P w' = .ok v w' ∧ (∃ r cr cs' G', post r cs' ∧ Ending.returned v = .returned cr ∧ RepI G' r cr ∧ IM.le G G' ∧
      NewAt G G' w.heap.size (blocks cs) ∧ ImOK G' w' ∧ AbsOK G' w' cs' ∧
      (∀ b ∈ blocks cs', w.heap.size ≤ b ∨ b ∈ blocks cs) ∧
      w'.os = w.os ∧ w'.tape = w.tape ∧ w'.output = w.output ∧ w.heap.size ≤ w'.heap.size ∧ ∀ k, k < w.heap.size → k ∉ blocks cs → G.still k → w'.heap[k]? = w.heap[k]?) := by
    intro e' st' hr ⟨x, cs', rest, h1, hk, h2, h3⟩
    obtain ⟨v, h5, h6⟩ := resA_sound hr h1
    obtain ⟨q1, q2⟩ := (hr.heap.perm hk).absOK
    refine ⟨hr.defers, v, h5, x, v, cs', e'.G, h3, rfl, Rep.toI x h2 h6, hr.le, ⟨hr.new, hr.newm⟩, ⟨hr.im, hr.mz⟩, q1, q2, hr.os, hr.tape, hr.output, hr.sz, fun k hk hnin hs => hr.keep k hk hnin hs⟩
  cases ex with
  | normal => obtain ⟨e', st', h1, h2⟩ := hc; exact fin e' st' h1 h2
  | ret => obtain ⟨e', st', h1, h2⟩ := hc; exact fin e' st' h1 h2
  | exit id => obtain ⟨e', st', h1, h2⟩ := hc; exact h2.elim
  | goto l => obtain ⟨e', st', h1, h2⟩ := hc; exact h2.elim
  | panic ch => exact hc.2.elim
  | outgrown => exact hc.elim

end
end Go.Sy

namespace Go.Sy
open Go.RowKit

def TrA (G : IM) (w : World) (cs : List Abs) (G' : IM) (w' : World) (cs' : List Abs) : Prop :=
  IM.le G G' ∧ NewAt G G' w.heap.size (blocks cs) ∧ ImOK G' w' ∧ AbsOK G' w' cs' ∧ (∀ b ∈ blocks cs', w.heap.size ≤ b ∨ b ∈ blocks cs) ∧
    w'.os = w.os ∧ w'.tape = w.tape ∧ w'.output = w.output ∧ w.heap.size ≤ w'.heap.size ∧ ∀ k, k < w.heap.size → k ∉ blocks cs → G.still k → w'.heap[k]? = w.heap[k]?

theorem TrA.trans {G G1 G2 : IM} {w w1 w2 : World} {cs cs1 cs2 : List Abs} (h1 : TrA G w cs G1 w1 cs1) (h2 : TrA G1 w1 cs1 G2 w2 cs2) : TrA G w cs G2 w2 cs2 := by
  obtain ⟨a1, a2, a3, a4, a5, a6, a7, a8, a9, a10⟩ := h1
  obtain ⟨b1, b2, b3, b4, b5, b6, b7, b8, b9, b10⟩ := h2
  refine ⟨IM.le_trans a1 b1, ⟨fun b o v hv => ?_, fun b x hx => ?_⟩, b3, b4, fun b hb => ?_, by rw [b6, a6], by rw [b7, a7], by rw [b8, a8], by omega, fun k hk hn hs => ?_⟩
  · rcases b2.1 b o v hv with h | h | h
    · exact a2.1 b o v h
    · exact .inr (.inl (by omega))
    · exact .inr (a5 b h)
  · rcases b2.2 b x hx with h | h | h
    · exact a2.2 b x h
    · exact .inr (.inl (by omega))
    · exact .inr (a5 b h)
  · rcases b5 b hb with h | h
    · exact .inl (by omega)
    · exact a5 b h
  · rw [b10 k (by omega) (fun hin => ?_) (fun L hL => ?_), a10 k hk hn hs]
    · rcases a5 k hin with h | h
      · omega
      · exact hn h
    · rcases a2.2 k _ hL with h | h | h
      · exact hs L h
      · omega
      · exact hn h
end Go.Sy

namespace Go.Sy
open Go.RowKit

section
variable {P : Program} {T : Tab} {X : Ctx P T} {n : Nat} {e : Env} {st : St} {a : Act} {w : World} {ops : Array Oper} {K : St → Prop}

end
end Go.Sy

namespace Go.Sy
open Go.RowKit

def OpensB (N : Nat) (P : Program) (t : Nat) {α : Type} (cells : α → List AV) (ok : α → Prop) : Prop :=
  ∀ (H : Type) (enc : TypeId × Value → H) (W : World) (fuel : Nat) (cs : List Value) (d : DataW H) (ps : List MemPlace), fuel ≤ N →
    DataW.trod enc P W 0 (fun _ => true) true fuel t cs = some (d, ps) → ∃ x : α, ok x ∧ RepIL (memG W) (cells x) cs
theorem OpensT.toB {P : Program} {t : Nat} {α : Type} {cells : α → List AV} {ok : α → Prop} (h : OpensT P t cells ok) (N : Nat) : OpensB N P t cells ok := fun H enc W fuel cs d ps _ hr => h H enc W fuel cs d ps hr
theorem OpensT.ofB {P : Program} {t : Nat} {α : Type} {cells : α → List AV} {ok : α → Prop} (h : ∀ N, OpensB N P t cells ok) : OpensT P t cells ok := fun H enc W fuel cs d ps hr => h fuel H enc W fuel cs d ps (Nat.le_refl _) hr
theorem OpensB.mono {N M : Nat} {P : Program} {t : Nat} {α : Type} {cells : α → List AV} {ok : α → Prop} (h : OpensB N P t cells ok) (hM : M ≤ N) : OpensB M P t cells ok := fun H enc W fuel cs d ps h0 hr => h H enc W fuel cs d ps (by omega) hr
theorem OpensB.zero {P : Program} {t : Nat} {α : Type} {cells : α → List AV} {ok : α → Prop} : OpensB 0 P t cells ok := fun H enc W fuel cs d ps h0 hr => by
  have : fuel = 0 := by omega
  subst this
  simp [DataW.trod] at hr

theorem opensB_slice {N : Nat} {P : Program} {t e : Nat} {α : Type} [Inhabited α] {cells : α → List AV} {ok : α → Prop} {esz : Nat} (h : P.underlying t = some (.slice e)) (hsz : P.cellsOf e = esz) (hpos : 0 < esz)
    (hlen : ∀ x, (cells x).length = esz) (he : OpensB N P e cells ok) :
    OpensB (N + 1) P t (fun l : List α => [SL esz cells l]) (fun l => l.length ≤ maxLen ∧ ∀ i, i < l.length → ok (l.getD i default)) := by
  intro H enc W fuel cs d ps hN hr
  cases fuel with
  | zero => simp [DataW.trod] at hr
  | succ fuel =>
    unfold DataW.trod at hr
    rw [h] at hr
    simp only at hr
    split at hr <;> try (simp_all; done)
    · refine ⟨[], ⟨by simp, by simp⟩, ?_⟩
      simp only [RepIL, RepI]
      exact ⟨_, [], rfl, ⟨none, 0, rfl, Nat.le_refl _, .inl rfl⟩, rfl, rfl⟩
    · rename_i e' a len cap heq
      cases heq
      split at hr
      · rename_i hc
        obtain ⟨_, hlc, hcm⟩ := hc
        cases hm : (List.range len).mapM (fun i => (W.cells? 0 (a.add (i * P.cellsOf e)) (P.cellsOf e)).bind (DataW.trod enc P W 0 (fun _ => true) true fuel e)) with
        | none => rw [hm] at hr; simp at hr
        | some xs =>
          have key : ∀ i, i < len → ∃ x : α, ok x ∧ ∃ row : List Value, W.cells? 0 (a.add (i * esz)) esz = some row ∧ RepIL (memG W) (cells x) row := by
            intro i hi
            obtain ⟨x, hx, _⟩ := mapM_get hm i i (List.getElem?_range hi)
            rw [hsz] at hx
            cases hrow : W.cells? 0 (a.add (i * esz)) esz with
            | none => rw [hrow] at hx; simp at hx
            | some row =>
              rw [hrow] at hx
              simp only [Option.bind_some] at hx
              obtain ⟨y, hy, hyr⟩ := he H enc W fuel row x.1 x.2 (by omega) hx
              exact ⟨y, hy, row, rfl, hyr⟩
          obtain ⟨l, hl, hq⟩ := choose_list (Q := fun i x => ok x ∧ ∃ row : List Value, W.cells? 0 (a.add (i * esz)) esz = some row ∧ RepIL (memG W) (cells x) row) len key
          have cellsq : ∀ (ad : Addr) (row : List Value), W.cells? 0 ad esz = some row → ∀ (j : Nat) (z : Value), row[j]? = some z → W.cell? (ad.add j) = some z := by
            intro ad row hrow j z hz
            unfold World.cells? at hrow
            rw [if_pos (Nat.zero_le _)] at hrow
            have hjl : j < esz := by
              have := mapM_len hrow
              rcases Nat.lt_or_ge j esz with h | h
              · exact h
              · rw [List.getElem?_eq_none (by rw [this]; simpa using h)] at hz; cases hz
            obtain ⟨x, hx, hx2⟩ := mapM_get hrow j j (List.getElem?_range hjl)
            rw [hx2] at hz; cases hz
            exact hx
          refine ⟨l, ⟨by omega, fun i hi => (hq i (by omega)).1⟩, ?_⟩
          simp only [RepIL]
          refine ⟨_, [], rfl, ?_, rfl, rfl⟩
          simp only [RepI]
          refine ⟨some a, cap, by rw [hl], by omega, ?_⟩
          rcases Nat.eq_zero_or_pos len with h0 | h0
          · exact .inl (by omega)
          · refine .inr ?_
            have hspot : a.spot = none := by
              obtain ⟨_, row, hrow, hrep⟩ := hq 0 h0
              have hrl := RepIL.len hrep
              rw [hlen] at hrl
              have h1 := cellsq _ row hrow 0 (row[0]'(by omega)) (by simp)
              simp only [Nat.zero_mul] at h1
              have : ((a.add 0).add 0) = a := by simp [Addr.add]
              rw [this] at h1
              exact World.cell?_spot h1
            obtain ⟨b, o, sp⟩ := a
            simp only at hspot
            subst hspot
            refine ⟨b, o, rfl, fun i hi => CellsAt.mk (fun j c hc => ?_)⟩
            obtain ⟨_, row, hrow, hrep⟩ := hq i (by omega)
            obtain ⟨z, z1, z2, z3⟩ := hrep.get j c hc
            refine ⟨z, ?_, z2, z3⟩
            have := cellsq _ row hrow j z z1
            rw [add_addr, add_addr] at this
            show W.cell? ⟨b, o + i * esz + j, none⟩ = some z
            exact this
      · cases hr

def OpensFB (N : Nat) (P : Program) (l : List Field) (start total : Nat) {α : Type} (cells : α → List AV) (ok : α → Prop) : Prop :=
  ∀ (H : Type) (enc : TypeId × Value → H) (W : World) (fuel : Nat) (cs : List Value) (xs : List (DataW H × List MemPlace)), fuel ≤ N → cs.length = total →
    l.mapM (fun f => DataW.trod enc P W 0 (fun _ => true) true fuel f.type ((cs.drop f.offset).take (P.cellsOf f.type))) = some xs → ∃ x : α, ok x ∧ RepIL (memG W) (cells x) (cs.drop start)

theorem opensFB_nil {N : Nat} {P : Program} {total : Nat} : OpensFB N P [] total total (fun _ : Unit => []) (fun _ => True) := by
  intro H enc W fuel cs xs _ hl _
  exact ⟨(), trivial, by simp only [RepIL]; exact List.drop_eq_nil_of_le (by omega)⟩

theorem opensFB_cons {N : Nat} {P : Program} {f : Field} {l : List Field} {start total sz : Nat} {α β : Type} {cells : α → List AV} {ok : α → Prop} {cells2 : β → List AV} {ok2 : β → Prop}
    (hoff : f.offset = start) (hsz : P.cellsOf f.type = sz) (h1 : OpensB N P f.type cells ok) (h2 : OpensFB N P l (start + sz) total cells2 ok2) :
    OpensFB N P (f :: l) start total (fun p : α × β => cells p.1 ++ cells2 p.2) (fun p => ok p.1 ∧ ok2 p.2) := by
  intro H enc W fuel cs xs hN hl hm
  rw [List.mapM_cons] at hm
  cases hb : DataW.trod enc P W 0 (fun _ => true) true fuel f.type ((cs.drop f.offset).take (P.cellsOf f.type)) with
  | none => simp [hb] at hm
  | some y =>
    cases hr : l.mapM (fun f => DataW.trod enc P W 0 (fun _ => true) true fuel f.type ((cs.drop f.offset).take (P.cellsOf f.type))) with
    | none => simp [hb, hr] at hm
    | some ys =>
      obtain ⟨x, hx, hxr⟩ := h1 H enc W fuel _ y.1 y.2 hN hb
      obtain ⟨x2, hx2, hxr2⟩ := h2 H enc W fuel cs ys hN hl hr
      refine ⟨(x, x2), ⟨hx, hx2⟩, ?_⟩
      rw [hoff, hsz] at hxr
      have := hxr.app hxr2
      rwa [← List.drop_drop, List.take_append_drop] at this

theorem opensB_struct {N : Nat} {P : Program} {t total : Nat} {fs : Array Field} {α β : Type} {cells : α → List AV} {ok : α → Prop} {cells2 : β → List AV} (g : α → β) (h : P.underlying t = some (.struct fs)) (hsz : P.cellsOf t = total)
    (hf : OpensFB N P fs.toList 0 total cells ok) (hg : ∀ x G ys, RepIL G (cells x) ys → RepIL G (cells2 (g x)) ys) {ok2 : β → Prop} (hok : ∀ x, ok x → ok2 (g x)) : OpensB (N + 1) P t cells2 ok2 := by
  intro H enc W fuel cs d ps hN hr
  cases fuel with
  | zero => simp [DataW.trod] at hr
  | succ fuel =>
    unfold DataW.trod at hr
    rw [h] at hr
    simp only at hr
    split at hr <;> try (simp_all; done)
    rename_i hc
    cases hm : fs.toList.mapM (fun f => DataW.trod enc P W 0 (fun _ => true) true fuel f.type ((cs.drop f.offset).take (P.cellsOf f.type))) with
    | none => rw [hm] at hr; simp at hr
    | some xs =>
      obtain ⟨x, hx, hxr⟩ := hf H enc W fuel cs xs (by omega) (by rw [hc, hsz]) hm
      exact ⟨g x, hok x hx, hg _ _ _ (by simpa using hxr)⟩

theorem repI_rows {G : IM} {n esz : Nat} {row row' : Nat → List AV} {y : Value} (hr : ∀ i, i < n → row i = row' i) (h : RepI G (.sl n esz row) y) : RepI G (.sl n esz row') y := by
  simp only [RepI] at h ⊢
  obtain ⟨a, c, e, hc, r⟩ := h
  refine ⟨a, c, e, hc, ?_⟩
  rcases r with r | ⟨b, o, ea, r⟩
  · exact .inl r
  · exact .inr ⟨b, o, ea, fun i hi => by rw [← hr i hi]; exact r i hi⟩
end Go.Sy

namespace Go.Sy
open Go.RowKit Go.WideShapes Go.ChangeShapes

theorem FnA.law0 {P : Program} {f : FuncId} {avs : List AV} {cs : List Abs} {post : AV → List Abs → Prop} (h : FnA P f avs cs post) (hp : ∀ r c, post r c → r = B true) (hb : blocks cs = []) {W : World} {args : Array Value}
    (hok : ∀ A ∈ cs, A.ok (memG W) W) (hr : RepIT (memG W) avs args.toList) :
    Calls P f args W fun e w' => e = .returned (.bool true) ∧ Below W.heap.size W w' := by
  have h1 := h.2 (memG W) W args.toList (memG_ok W) hr ⟨hok, by rw [hb]; exact List.nodup_nil, by rw [hb]; intro b hb'; cases hb'⟩
  rw [Array.toArray_toList] at h1
  refine h1.mono ?_
  rintro e w' ⟨r, cr, cs', G', hpo, rfl, g1, g2, g3, g4, g5, g6, o1, o2, o3, o4, o5⟩
  rw [hp r cs' hpo] at g1
  simp only [RepI] at g1
  refine ⟨by rw [g1], o1, o2, o3, o4, fun k hk => o5 k hk (by rw [hb]; intro h; cases h) (fun L hL => by simp [memG] at hL)⟩

theorem law_callK {P : Program} {fn : Func} {f : FuncId} {s : ChangeSpec} {tb : Nat} {ts : List Nat} {α : Type} {avs : α → List AV} {ok : α → Prop} {cs : List Abs} (W : World)
    (hts : fn.params.toList = ts) (hrt : fn.resultTypes = #[tb]) (htb : P.underlying tb = some .bool) (hvars : s.vars = [])
    (hfn : ∀ (H : Type) (ds : List (DataW H)), ds.length = ts.length → s.fn H ds = { results := [.lit (.bool true)], args := ds })
    (ho : OpensA P ts avs ok) (hl : laidOutB P = true) (hk : ∀ t ∈ ts, P.readableRec t = true ∧ t < P.types.size)
    (hb : blocks cs = []) (hok : ∀ A ∈ cs, A.ok (memG W) W)
    (hc : ∀ x, ok x → FnA P f (avs x) cs (fun r cs' => r = B true ∧ cs' = cs)) {H : Type} (enc : TypeId × Value → H) :
    ∀ (base : Nat) (args : Array Value) (ds gs : List (DataW H)) (before : List MemPlace),
      (∀ (j : Nat) t v, fn.params[j]? = some t → args[j]? = some v → Value.okWide P W .any base t v) →
      DataW.Whole enc P fn.params.toList s.vars false W args.toList ds gs before →
      Calls P f args W fun e W' => ∃ v, e = .returned v ∧ s.post enc P fn false true false false W args v W' := by
  intro base args ds gs before hval hW
  have hW' := hW
  obtain ⟨p, q, hA, hV, rfl, hfz, hnd⟩ := hW
  rw [hvars] at hV
  obtain ⟨rfl, rfl⟩ := trodVars_none hV
  rw [hts] at hA
  obtain ⟨x, hx, hxr⟩ := ho H enc W base args.toList ds p (fun j t v h1 h2 => hval j t v (by rw [← hts] at h1; simpa using h1) (by simpa using h2)) hA
  refine ((hc x hx).law0 (fun r c h => h.1) hb hok hxr).mono fun e W' ⟨he, bel⟩ => ?_
  subst he
  have hlen := trodAll_count hA
  refine ⟨_, rfl, ds, [], p ++ [], [], p, [], hW', ?_, ?_, ?_, bel.frame _, fun h => by cases h⟩
  · rw [List.append_nil, hfn H ds hlen, hrt]
    exact trodAll_mk1 (shut_bool htb _)
  · rw [List.append_nil, hfn H ds hlen, hts]
    exact trodAll_below hl bel hk hA
  · rw [List.append_nil, hfn H ds hlen, hvars]
    rfl
end Go.Sy

namespace Go.Sy
open Go.RowKit

section
variable {P : Program} {T : Tab} {X : Ctx P T} {n : Nat} {e : Env} {st : St} {a : Act} {w : World} {ops : Array Oper} {K : St → Prop}

end
end Go.Sy
