/- The symbolic walk, part 2: states, what they say of frame and memory, types' table, and the operations that leave memory alone. -/
import Derived.Test.YtgdlhcaidfokkaaSy1
set_option linter.unusedSimpArgs false
set_option linter.unusedVariables false
namespace Go.Sy
open Go.RowKit

structure St where
  s : List (Nat × AV)
  c : List Ch

def get : List (Nat × AV) → Nat → Option AV
  | [], _ => none
  | (j, x) :: r, i => match Nat.beq j i with
    | true => some x
    | false => get r i

structure Ctx (P : Program) (T : Tab) where
  ok : TabOK P T
  wide : P.follows .mixedOrders = true
  w0 : World
  G0 : IM
  bs : List Nat
  μ0 : Nat → Nat

def HeapOK {P : Program} {T : Tab} (X : Ctx P T) (e : Env) (w : World) (cs : List Ch) : Prop :=
  ∃ pl : List (Ch × List Nat), pl.map (·.1) = cs ∧ (∀ p ∈ pl, ChOK e w p.1 p.2) ∧ (pl.flatMap (·.2)).Nodup ∧
    ∀ b ∈ pl.flatMap (·.2), b < w.heap.size ∧ (X.w0.heap.size ≤ b ∨ b ∈ X.bs) ∧ ∀ o, e.G b o = none

structure Rel {P : Program} {T : Tab} (X : Ctx P T) (n : Nat) (e : Env) (st : St) (a : Act) (w : World) : Prop where
  defers : a.defers = []
  size : a.tmps.size = n
  slots : ∀ i x, get st.s i = some x → ∃ v, a.tmps[i]? = some v ∧ Rep e x v
  im : ∀ b o v, e.G b o = some v → w.cell? ⟨b, o, none⟩ = some v
  heap : HeapOK X e w st.c
  le : IM.le X.G0 e.G
  new : ∀ b o v, e.G b o = some v → X.G0 b o = some v ∨ X.w0.heap.size ≤ b ∨ b ∈ X.bs
  os : w.os = X.w0.os
  tape : w.tape = X.w0.tape
  output : w.output = X.w0.output
  sz : X.w0.heap.size ≤ w.heap.size
  keep : ∀ b, b < X.w0.heap.size → b ∉ X.bs → w.heap[b]? = X.w0.heap[b]?
  fix : ∀ k, n ≤ k → e.μ k = X.μ0 k

theorem perm_map {α β : Type} {f : α → β} {cs cs' : List β} (h : cs.Perm cs') : ∀ pl : List α, pl.map f = cs → ∃ pl', pl.Perm pl' ∧ pl'.map f = cs' := by
  induction h with
  | nil => intro pl h; exact ⟨pl, .refl _, h⟩
  | cons x _ ih =>
    intro pl h
    cases pl with
    | nil => simp at h
    | cons p pl =>
      simp only [List.map_cons, List.cons.injEq] at h
      obtain ⟨pl', h1, h2⟩ := ih pl h.2
      exact ⟨p :: pl', .cons _ h1, by simp [h.1, h2]⟩
  | swap x y l =>
    intro pl h
    match pl, h with
    | p :: q :: pl, h =>
      simp only [List.map_cons, List.cons.injEq] at h
      exact ⟨q :: p :: pl, .swap _ _ _, by simp [h.1, h.2.1, h.2.2]⟩
  | trans _ _ ih1 ih2 =>
    intro pl h
    obtain ⟨p1, h1, h2⟩ := ih1 pl h
    obtain ⟨p2, h3, h4⟩ := ih2 p1 h2
    exact ⟨p2, h1.trans h3, h4⟩

theorem HeapOK.perm {P : Program} {T : Tab} {X : Ctx P T} {e : Env} {w : World} {cs cs' : List Ch} (hp : cs.Perm cs') (h : HeapOK X e w cs) : HeapOK X e w cs' := by
  obtain ⟨pl, h1, h2, h3, h4⟩ := h
  obtain ⟨pl', hp', h1'⟩ := perm_map hp pl h1
  have hf : (pl.flatMap (·.2)).Perm (pl'.flatMap (·.2)) := List.Perm.flatMap_right _ hp'
  exact ⟨pl', h1', fun p hm => h2 p (hp'.mem_iff.2 hm), hf.nodup_iff.1 h3, fun b hb => h4 b (hf.mem_iff.2 hb)⟩

def takeCh (k : Nat) : List Ch → Option (Ch × List Ch)
  | [] => none
  | c :: r => match Nat.beq c.id k with
    | true => some (c, r)
    | false => match takeCh k r with
      | some (d, r') => some (d, c :: r')
      | none => none

theorem takeCh_perm {k : Nat} : ∀ {cs : List Ch} {c : Ch} {r : List Ch}, takeCh k cs = some (c, r) → cs.Perm (c :: r)
  | [], c, r, h => by simp [takeCh] at h
  | d :: cs, c, r, h => by
    simp only [takeCh] at h
    split at h
    · simp only [Option.some.injEq, Prod.mk.injEq] at h
      obtain ⟨rfl, rfl⟩ := h
      exact .refl _
    · split at h
      · rename_i d' r' hh
        simp only [Option.some.injEq, Prod.mk.injEq] at h
        obtain ⟨rfl, rfl⟩ := h
        exact ((takeCh_perm hh).cons d).trans (.swap _ _ _)
      · cases h

theorem HeapOK.drop {P : Program} {T : Tab} {X : Ctx P T} {e : Env} {w : World} {c : Ch} {cs : List Ch} (h : HeapOK X e w (c :: cs)) : HeapOK X e w cs := by
  obtain ⟨pl, h1, h2, h3, h4⟩ := h
  cases pl with
  | nil => simp at h1
  | cons p pl =>
    simp only [List.map_cons, List.cons.injEq] at h1
    simp only [List.flatMap_cons] at h3 h4
    exact ⟨pl, h1.2, fun q hq => h2 q (List.mem_cons_of_mem _ hq), (List.nodup_append.1 h3).2.1, fun b hb => h4 b (List.mem_append.2 (.inr hb))⟩

theorem HeapOK.update {P : Program} {T : Tab} {X : Ctx P T} {e f : Env} {w w' : World} {c c' : Ch} {r : List Ch} (h : HeapOK X e w (c :: r)) (hG : IM.le e.G f.G)
    (hid : ∀ d ∈ r, ∀ j, d.no j = false → f.μ j = e.μ j ∧ f.hd j = e.hd j)
    (upd : ∀ bs, ChOK e w c bs → bs.Nodup → (∀ b ∈ bs, b < w.heap.size ∧ (X.w0.heap.size ≤ b ∨ b ∈ X.bs) ∧ ∀ o, e.G b o = none) →
      (∀ b, b < w.heap.size → b ∉ bs → w'.heap[b]? = w.heap[b]?) ∧
      ∃ bs', ChOK f w' c' bs' ∧ bs'.Nodup ∧ (∀ b ∈ bs', b ∈ bs ∨ w.heap.size ≤ b) ∧
        ∀ b ∈ bs', b < w'.heap.size ∧ (X.w0.heap.size ≤ b ∨ b ∈ X.bs) ∧ ∀ o, f.G b o = none)
    (hsz : w.heap.size ≤ w'.heap.size) (hGn : ∀ b o, b < w.heap.size → (∀ bs, ChOK e w c bs → b ∉ bs) → e.G b o = none → f.G b o = none) : HeapOK X f w' (c' :: r) := by
  obtain ⟨pl, h1, h2, h3, h4⟩ := h
  cases pl with
  | nil => simp at h1
  | cons p pl =>
    simp only [List.map_cons, List.cons.injEq] at h1
    obtain ⟨rfl, rfl⟩ := h1
    simp only [List.flatMap_cons] at h3 h4
    obtain ⟨n1, n2, n3⟩ := List.nodup_append.1 h3
    have hp := h2 p (List.mem_cons_self ..)
    obtain ⟨hk, bs', g1, g2, g3, g4⟩ := upd p.2 hp n1 (fun b hb => h4 b (List.mem_append.2 (.inl hb)))
    have huniq : ∀ bs, ChOK e w p.1 bs → bs = p.2 := by
      intro bs hbs
      cases hc : p.1 with
      | box k T cells => rw [hc] at hbs hp; rw [hbs.1, hp.1]
      | vec k T esz n row => rw [hc] at hbs hp; rw [hbs.1, hp.1]
      | obj k o => rw [hc] at hbs hp; rw [hbs.1, hp.1]
      | abs A => rw [hc] at hbs hp; rw [hbs.1, hp.1]
    refine ⟨(c', bs') :: pl, rfl, ?_, ?_, ?_⟩
    · intro q hq
      rcases List.mem_cons.1 hq with rfl | hq
      · exact g1
      · refine ChOK.keep hG q.1 (hid q.1 (List.mem_map.2 ⟨q, hq, rfl⟩)) ?_ (h2 q (List.mem_cons_of_mem _ hq))
        intro b hb
        have hbf : b ∈ pl.flatMap (·.2) := List.mem_flatMap.2 ⟨q, hq, hb⟩
        exact hk b (h4 b (List.mem_append.2 (.inr hbf))).1 (fun hin => n3 b hin b hbf rfl)
    · simp only [List.flatMap_cons]
      refine List.nodup_append.2 ⟨g2, n2, ?_⟩
      rintro b hb b' hbf rfl
      rcases g3 b hb with h | h
      · exact n3 b h b hbf rfl
      · exact absurd (h4 b (List.mem_append.2 (.inr hbf))).1 (by omega)
    · intro b hb
      simp only [List.flatMap_cons] at hb
      rcases List.mem_append.1 hb with hb | hb
      · exact g4 b hb
      · obtain ⟨q1, q2, q3⟩ := h4 b (List.mem_append.2 (.inr hb))
        refine ⟨by omega, q2, fun o => hGn b o q1 ?_ (q3 o)⟩
        intro bs hbs hin
        rw [huniq bs hbs] at hin
        exact n3 b hin b hb rfl

/-- A new chunk. -/
theorem HeapOK.push {P : Program} {T : Tab} {X : Ctx P T} {e f : Env} {w w' : World} {c' : Ch} {r : List Ch} (h : HeapOK X e w r) (hG : IM.le e.G f.G)
    (hid : ∀ d ∈ r, ∀ j, d.no j = false → f.μ j = e.μ j ∧ f.hd j = e.hd j)
    (hk : ∀ b, b < w.heap.size → w'.heap[b]? = w.heap[b]?) {bs' : List Nat} (g1 : ChOK f w' c' bs') (g2 : bs'.Nodup) (g3 : ∀ b ∈ bs', w.heap.size ≤ b)
    (g4 : ∀ b ∈ bs', b < w'.heap.size ∧ (X.w0.heap.size ≤ b ∨ b ∈ X.bs) ∧ ∀ o, f.G b o = none)
    (hsz : w.heap.size ≤ w'.heap.size) (hGn : ∀ b o, b < w.heap.size → e.G b o = none → f.G b o = none) : HeapOK X f w' (c' :: r) := by
  obtain ⟨pl, h1, h2, h3, h4⟩ := h
  subst h1
  refine ⟨(c', bs') :: pl, rfl, ?_, ?_, ?_⟩
  · intro q hq
    rcases List.mem_cons.1 hq with rfl | hq
    · exact g1
    · refine ChOK.keep hG q.1 (hid q.1 (List.mem_map.2 ⟨q, hq, rfl⟩)) ?_ (h2 q hq)
      intro b hb
      exact hk b (h4 b (List.mem_flatMap.2 ⟨q, hq, hb⟩)).1
  · simp only [List.flatMap_cons]
    refine List.nodup_append.2 ⟨g2, h3, ?_⟩
    rintro b hb b' hbf rfl
    exact absurd (h4 b hbf).1 (by have := g3 b hb; omega)
  · intro b hb
    simp only [List.flatMap_cons] at hb
    rcases List.mem_append.1 hb with hb | hb
    · exact g4 b hb
    · obtain ⟨q1, q2, q3⟩ := h4 b hb
      exact ⟨by omega, q2, fun o => hGn b o q1 (q3 o)⟩

/-- The world grows; nothing that was is changed. -/
theorem HeapOK.grow {P : Program} {T : Tab} {X : Ctx P T} {e f : Env} {w w' : World} {r : List Ch} (h : HeapOK X e w r) (hG : IM.le e.G f.G)
    (hid : ∀ d ∈ r, ∀ j, d.no j = false → f.μ j = e.μ j ∧ f.hd j = e.hd j)
    (hk : ∀ b, b < w.heap.size → w'.heap[b]? = w.heap[b]?)
    (hsz : w.heap.size ≤ w'.heap.size) (hGn : ∀ b o, b < w.heap.size → e.G b o = none → f.G b o = none) : HeapOK X f w' r := by
  obtain ⟨pl, h1, h2, h3, h4⟩ := h
  subst h1
  refine ⟨pl, rfl, ?_, h3, ?_⟩
  · intro q hq
    refine ChOK.keep hG q.1 (hid q.1 (List.mem_map.2 ⟨q, hq, rfl⟩)) ?_ (h2 q hq)
    intro b hb
    exact hk b (h4 b (List.mem_flatMap.2 ⟨q, hq, hb⟩)).1
  · intro b hb
    obtain ⟨q1, q2, q3⟩ := h4 b hb
    exact ⟨by omega, q2, fun o => hGn b o q1 (q3 o)⟩

/-! ### Walking -/
def conc {P : Program} {T : Tab} (X : Ctx P T) (n : Nat) (Q : Exit → St → Prop) : Exit → Act → World → Prop
  | .panic _, _, _ => False
  | .outgrown, _, _ => False
  | ex, a, w => ∃ e st, Rel X n e st a w ∧ Q ex st

/-- From any frame and memory as 'st' says, the code comes to an end of which Q holds. -/
def SymC {P : Program} {T : Tab} (X : Ctx P T) (n : Nat) (c : Code) (st : St) (Q : Exit → St → Prop) : Prop :=
  ∀ e a w, Rel X n e st a w → c.wp P (conc X n Q) a w

def SymO {P : Program} {T : Tab} (X : Ctx P T) (n : Nat) (ops : Array Oper) (l : List Oper) (st : St) (K : St → Prop) : Prop :=
  ∀ e a w (Q : Exit → Act → World → Prop), Rel X n e st a w → (∀ e' st' a' w', K st' → Rel X n e' st' a' w' → Q .normal a' w') → wpList P ops Q l a w

section
variable {P : Program} {T : Tab} {X : Ctx P T} {n : Nat} {st : St} {Q : Exit → St → Prop}

theorem SymC.mono {c : Code} {Q' : Exit → St → Prop} (h : SymC X n c st Q) (hq : ∀ ex s, Q ex s → Q' ex s) : SymC X n c st Q' := by
  intro e a w r
  refine Code.wp_mono (fun ex a' w' hc => ?_) (h e a w r)
  cases ex <;> first | exact hc | (obtain ⟨e', st', h1, h2⟩ := hc; exact ⟨e', st', h1, hq _ _ h2⟩)

theorem C_skip (h : Q .normal st) : SymC X n .skip st Q := fun e _ _ r => wp_skip ⟨e, st, r, h⟩
theorem C_label {l : Nat} (h : Q .normal st) : SymC X n (.label l) st Q := fun e _ _ r => wp_label ⟨e, st, r, h⟩
theorem C_exit {id : Nat} (h : Q (.exit id) st) : SymC X n (.exit id) st Q := fun e _ _ r => wp_exit ⟨e, st, r, h⟩
theorem C_ret (h : Q .ret st) : SymC X n .ret st Q := fun e _ _ r => wp_ret ⟨e, st, r, h⟩

theorem C_seq {x y : Code} (h : SymC X n x st (fun ex s => match ex with
    | .normal => SymC X n y s Q
    | ex => Q ex s)) : SymC X n (.seq x y) st Q := by
  intro e a w r
  refine wp_seq (Code.wp_mono (fun ex a' w' hc => ?_) (h e a w r))
  cases ex with
  | normal => obtain ⟨e', st', h1, h2⟩ := hc; exact h2 e' a' w' h1
  | exit id => exact hc
  | goto l => exact hc
  | ret => exact hc
  | panic ch => exact hc
  | outgrown => exact hc

theorem C_block {id : Nat} {c : Code} (h : SymC X n c st (fun ex s => match ex with
    | .exit j => (match Nat.beq j id with
      | true => Q .normal s
      | false => Q (.exit j) s)
    | ex => Q ex s)) : SymC X n (.block id c) st Q := by
  intro e a w r
  refine wp_block (Code.wp_mono (fun ex a' w' hc => ?_) (h e a w r))
  cases ex with
  | exit j =>
    obtain ⟨e', st', h1, h2⟩ := hc
    simp only [Exit.inBlock]
    by_cases hj : j = id
    · subst hj
      simp only [Nat.beq_refl] at h2
      rw [if_pos rfl]
      exact ⟨e', st', h1, h2⟩
    · rw [if_neg hj]
      have : Nat.beq j id = false := by
        cases hb : Nat.beq j id
        · rfl
        · exact absurd (Nat.eq_of_beq_eq_true hb) hj
      simp only [this] at h2
      exact ⟨e', st', h1, h2⟩
  | normal => exact hc
  | goto l => exact hc
  | ret => exact hc
  | panic ch => exact hc
  | outgrown => exact hc

theorem C_region {id : Nat} {l : List Oper} (h : SymO X n l.toArray l st (fun s => Q .normal s)) : SymC X n (.region id l.toArray false) st Q :=
  fun e a w r => wp_region_lit (h e a w _ r fun e' st' _ _ hk hr => ⟨e', st', hr, hk⟩)

theorem O_nil {ops : Array Oper} {K : St → Prop} (h : K st) : SymO X n ops [] st K :=
  fun e a w _ r hq => wpList_nil (hq e st a w h r)
end

/-! ### Operands and types -/
def opd (s : List (Nat × AV)) : Operand → Option AV
  | .tmp t => get s t
  | .const (.string ⟨⟨l⟩⟩) => some (.s l)
  | .const (.agg _) => none
  | .const c => some (.v c)
  | .func f => some (.v (.func (.func f) #[] #[]))
  | .global g => some (.v (.pointer (some ⟨g, 0, none⟩)))

theorem opd_sound {P : Program} {T : Tab} {X : Ctx P T} {n : Nat} {e : Env} {st : St} {a : Act} {w : World} (r : Rel X n e st a w) {o : Operand} {x : AV} (h : opd st.s o = some x) : Rep e x (a.eval o) := by
  cases o with
  | tmp t =>
    obtain ⟨v, h1, h2⟩ := r.slots t x h
    simp only [Act.eval, Array.getD_eq_getD_getElem?, h1, Option.getD_some]
    exact h2
  | const c =>
    cases c <;> simp [opd] at h <;> subst h <;> simp [Act.eval, Rep, S]
  | func f => simp [opd] at h; subst h; simp [Act.eval, Rep]
  | global g => simp [opd] at h; subst h; simp [Act.eval, Rep]

/-- Putting a value into a temporary. -/
theorem get_cons (d : Nat) (x : AV) (s : List (Nat × AV)) (i : Nat) : get ((d, x) :: s) i = if d = i then some x else get s i := by
  simp only [get]
  by_cases h : d = i
  · subst h; simp [Nat.beq_refl]
  · have : Nat.beq d i = false := by
      cases hb : Nat.beq d i
      · rfl
      · exact absurd (Nat.eq_of_beq_eq_true hb) h
    rw [this, if_neg h]

theorem Rel.put {P : Program} {T : Tab} {X : Ctx P T} {n : Nat} {e : Env} {st : St} {a : Act} {w : World} (r : Rel X n e st a w) {d : Nat} {x : AV} {v : Value} (hd : Nat.blt d n = true) (hv : Rep e x v) :
    Rel X n e ⟨(d, x) :: st.s, st.c⟩ (a.put (some d) v) w := by
  have hd' : d < n := by have := hd; simp [Nat.blt] at this; omega
  refine { r with defers := r.defers, size := by simp [Act.put, r.size], slots := ?_ }
  intro i y hy
  rw [get_cons] at hy
  by_cases h : d = i
  · subst h
    simp only [if_true, Option.some.injEq] at hy
    subst hy
    exact ⟨v, by simp [Act.put, r.size, hd'], hv⟩
  · rw [if_neg h] at hy
    obtain ⟨u, h1, h2⟩ := r.slots i y hy
    exact ⟨u, by simp only [Act.put]; rw [Array.getElem?_setIfInBounds_ne h]; exact h1, h2⟩

end Go.Sy
