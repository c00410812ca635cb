/- The symbolic walk, part 7: steps of lists of operations and of code; contracts of functions; loops. -/
import Derived.Test.YtgdlhcaidfokkaaSy6
set_option linter.unusedSimpArgs false
set_option linter.unusedVariables false
namespace Go.Sy
open Go.RowKit

def opK (T : Tab) (n : Nat) (dst : Option Tmp) (op : Op) (st : St) (k : St → Prop) : Option Prop :=
  match still T st op with
  | some av => putK n dst av st k
  | none => match still1 T st op with
    | some (vc, av) => (match putK n dst av st k with
      | some p => some (vc ∧ p)
      | none => none)
    | none => memOp T n dst op st k

/-- Is the operation's guard known? -/
def guardA (ops : Array Oper) (st : St) (o : Oper) : Option Bool :=
  match o.guard with
  | none => some true
  | some (j, want) => match ops.toList[j]? with
    | none => none
    | some oj => match oj.dst with
      | none => none
      | some d => match get st.s d with
        | some (.v (.bool true)) => some want
        | some (.v (.bool false)) => some (!want)
        | some (.tup []) => some false
        | _ => none

def stepO {P : Program} {T : Tab} (X : Ctx P T) (n : Nat) (ops : Array Oper) (K : St → Prop) : List Oper → St → Option Prop
  | [], st => some (K st)
  | o :: rest, st => match guardA ops st o with
    | some true => opK T n o.dst o.op st (fun s => SymO X n ops rest s K)
    | some false => putK n o.dst (.tup []) st (fun s => SymO X n ops rest s K)
    | none => none

section
variable {P : Program} {T : Tab} {X : Ctx P T} {n : Nat} {e : Env} {st : St} {a : Act} {w : World} {ops : Array Oper} {K : St → Prop}

theorem opK_sound {o : Oper} {k : St → Prop} {p : Prop} (r : Rel X n e st a w) (h : opK T n o.dst o.op st k = some p) (hp : p) {K : Act → World → Prop} {Q : Exit → Act → World → Prop}
    (hk : ∀ e' st' a' w', k st' → Rel X n e' st' a' w' → K a' w') : o.wp P a w K Q := by
  unfold opK at h
  split at h
  · rename_i av hs
    obtain ⟨v, h2, h1⟩ := still_sound r hs
    obtain ⟨st', s1, s2⟩ := putK_sound r h hp h2
    unfold Oper.wp
    rw [h1 w (SameAs.refl w)]
    exact hk _ _ _ _ s1 s2
  · split at h
    · rename_i vc av hs
      split at h
      · rename_i q hq
        simp only [Option.some.injEq] at h
        subst h
        obtain ⟨v, h2, h1⟩ := still1_sound r hs hp.1
        obtain ⟨st', s1, s2⟩ := putK_sound r hq hp.2 h2
        unfold Oper.wp
        rw [h1 w (SameAs.refl w)]
        exact hk _ _ _ _ s1 s2
      · cases h
    · exact memOp_sound r h hp hk

theorem guardA_sound (r : Rel X n e st a w) {o : Oper} {b : Bool} (h : guardA ops st o = some b) : Region.wanted o (yielded ops a.tmps) = b := by
  unfold guardA at h
  unfold Region.wanted
  split at h
  · rename_i hg
    simp only [Option.some.injEq] at h
    rw [hg, ← h]
  · rename_i j want hg
    rw [hg]
    simp only
    split at h
    · cases h
    · rename_i oj hj
      split at h
      · cases h
      · rename_i d hd
        have hj' : ops[j]? = some oj := by simpa using hj
        have hy : ∀ x : Bool, get st.s d = some (.v (.bool x)) → yielded ops a.tmps j = some x := by
          intro x hx
          obtain ⟨v, h1, h2⟩ := r.slots d _ hx
          simp only [Rep] at h2
          subst h2
          simp [yielded, hj', hd, h1]
        split at h
        · rename_i hx
          simp only [Option.some.injEq] at h
          rw [hy _ hx, ← h]
          cases want <;> rfl
        · rename_i hx
          simp only [Option.some.injEq] at h
          rw [hy _ hx, ← h]
          cases want <;> rfl
        · rename_i hx
          simp only [Option.some.injEq] at h
          obtain ⟨v, h1, h2⟩ := r.slots d _ hx
          have h3 : v = .tuple #[] := by
            simp only [Rep, RepT] at h2
            obtain ⟨ys, rfl, h2⟩ := h2
            congr 1
            exact Array.toList_eq_nil_iff.1 h2
          subst h3
          have : yielded ops a.tmps j = none := by simp [yielded, hj', hd, h1]
          rw [this, ← h]
          rfl
        · cases h

/-- One operation. -/
theorem so {l : List Oper} {p : Prop} (h : stepO X n ops K l st = some p) (hp : p) : SymO X n ops l st K := by
  cases l with
  | nil =>
    simp only [stepO, Option.some.injEq] at h
    subst h
    exact O_nil hp
  | cons o rest =>
    intro e a w Q r hq
    simp only [stepO] at h
    split at h
    · rename_i hg
      have hw := guardA_sound r hg
      unfold wpList
      rw [if_pos hw]
      refine .inl (opK_sound r h hp (fun e' st' a' w' hk hr => ?_))
      exact hk e' a' w' Q hr hq
    · rename_i hg
      have hw := guardA_sound r hg
      unfold wpList
      rw [if_neg (by rw [hw]; decide)]
      obtain ⟨st', s1, s2⟩ := putK_sound r h hp (v := undef) (by simp [Rep, RepT, undef])
      exact s1 e _ w Q s2 hq
    · cases h

/-- Part on a Bool that a temporary holds. -/
theorem O_case {l : List Oper} {s : List (Nat × AV)} {c : List Ch} (d : Nat) {b : Bool} (hb : get s d = some (.v (.bool b)))
    (ht : b = true → SymO X n ops l ⟨(d, .v (.bool true)) :: s, c⟩ K) (hf : b = false → SymO X n ops l ⟨(d, .v (.bool false)) :: s, c⟩ K) : SymO X n ops l ⟨s, c⟩ K := by
  intro e a w Q r hq
  obtain ⟨v, h1, h2⟩ := r.slots d _ hb
  have key : ∀ x, b = x → Rel X n e ⟨(d, .v (.bool x)) :: s, c⟩ a w := by
    intro x hx
    subst hx
    refine { r with slots := ?_ }
    intro i y hy
    rw [get_cons] at hy
    by_cases h : d = i
    · subst h
      simp only [if_true, Option.some.injEq] at hy
      subst hy
      exact ⟨v, h1, h2⟩
    · rw [if_neg h] at hy; exact r.slots i y hy
  cases b with
  | true => exact ht rfl e a w Q (key _ rfl) hq
  | false => exact hf rfl e a w Q (key _ rfl) hq

theorem O_true {l : List Oper} {s : List (Nat × AV)} {c : List Ch} (d : Nat) {b : Bool} (hb : get s d = some (.v (.bool b))) (ht : b = true)
    (h : SymO X n ops l ⟨(d, .v (.bool true)) :: s, c⟩ K) : SymO X n ops l ⟨s, c⟩ K :=
  O_case d hb (fun _ => h) (fun hf => by rw [ht] at hf; cases hf)
theorem O_false {l : List Oper} {s : List (Nat × AV)} {c : List Ch} (d : Nat) {b : Bool} (hb : get s d = some (.v (.bool b))) (ht : b = false)
    (h : SymO X n ops l ⟨(d, .v (.bool false)) :: s, c⟩ K) : SymO X n ops l ⟨s, c⟩ K :=
  O_case d hb (fun hf => by rw [ht] at hf; cases hf) (fun _ => h)

/-! ### Code -/
def stepC {P : Program} {T : Tab} (X : Ctx P T) (n : Nat) (Q : Exit → St → Prop) (st : St) : Code → Option Prop
  | .skip => some (Q .normal st)
  | .label _ => some (Q .normal st)
  | .ret => some (Q .ret st)
  | .exit id => some (Q (.exit id) st)
  | .seq x y => some (SymC X n x st (fun ex s => match ex with
    | .normal => SymC X n y s Q
    | ex => Q ex s))
  | .block id c => some (SymC X n c st (fun ex s => match ex with
    | .exit j => (match Nat.beq j id with
      | true => Q .normal s
      | false => Q (.exit j) s)
    | ex => Q ex s))
  | .region _ ops false => some (SymO X n ops ops.toList st (fun s => Q .normal s))
  | _ => none

theorem sc {Q : Exit → St → Prop} {c : Code} {p : Prop} (h : stepC X n Q st c = some p) (hp : p) : SymC X n c st Q := by
  cases c with
  | skip => cases h; exact C_skip hp
  | label l => cases h; exact C_label hp
  | ret => cases h; exact C_ret hp
  | exit id => cases h; exact C_exit hp
  | seq x y => cases h; exact C_seq hp
  | block id c => cases h; exact C_block hp
  | region id ops draw =>
    cases draw with
    | true => cases h
    | false => cases h; exact fun e a w r => wp_region_list (hp e a w _ r fun e' st' _ _ hk hr => ⟨e', st', hr, hk⟩)
  | _ => cases h

theorem C_if {Q : Exit → St → Prop} {c : Operand} {x y : Code} {b : Bool} (hb : opd st.s c = some (.v (.bool b))) (ht : b = true → SymC X n x st Q) (hf : b = false → SymC X n y st Q) :
    SymC X n (.cond c x y) st Q := by
  intro e a w r
  have := opd_sound r hb
  simp only [Rep] at this
  exact wp_cond_split this (fun h => ht h e a w r) (fun h => hf h e a w r)
theorem C_true {Q : Exit → St → Prop} {c : Operand} {x y : Code} {b : Bool} (hb : opd st.s c = some (.v (.bool b))) (ht : b = true) (h : SymC X n x st Q) :
    SymC X n (.cond c x y) st Q := C_if hb (fun _ => h) (fun hf => by rw [ht] at hf; cases hf)
theorem C_false {Q : Exit → St → Prop} {c : Operand} {x y : Code} {b : Bool} (hb : opd st.s c = some (.v (.bool b))) (hf : b = false) (h : SymC X n y st Q) :
    SymC X n (.cond c x y) st Q := C_if hb (fun ht => by rw [ht] at hf; cases hf) (fun _ => h)

/-- What 's' says entails what 's2' says. -/
def Le (X : Ctx P T) (n : Nat) (s s2 : St) : Prop := ∀ e a w, Rel X n e s a w → ∃ e', Rel X n e' s2 a w
theorem Le.refl (s : St) : Le X n s s := fun e a w r => ⟨e, r⟩
theorem Le.trans {s1 s2 s3 : St} (h : Le X n s1 s2) (k : Le X n s2 s3) : Le X n s1 s3 := fun e a w r => let ⟨e', r'⟩ := h e a w r; k e' a w r'

def subS : List (Nat × AV) → List (Nat × AV) → Prop
  | [], _ => True
  | (i, x) :: r, s => get s i = some x ∧ subS r s
theorem subS_get : ∀ {r s : List (Nat × AV)}, subS r s → ∀ i x, get r i = some x → get s i = some x
  | [], s, _, i, x, h => by simp [get] at h
  | (j, y) :: r, s, hs, i, x, h => by
    rw [get_cons] at h
    by_cases hj : j = i
    · subst hj
      simp only [if_true, Option.some.injEq] at h
      subst h
      exact hs.1
    · rw [if_neg hj] at h; exact subS_get hs.2 i x h
def takeAll : List Nat → List Ch → Option (List Ch)
  | [], _ => some []
  | k :: ks, cs => match takeCh k cs with
    | some (c, r) => (match takeAll ks r with
      | some l => some (c :: l)
      | none => none)
    | none => none
theorem HeapOK.pick {w : World} : ∀ {ks : List Nat} {cs l : List Ch}, takeAll ks cs = some l → ∀ {pre : List Ch}, HeapOK X e w (pre ++ cs) → HeapOK X e w (pre ++ l)
  | [], cs, l, h, pre, hh => by
    simp only [takeAll, Option.some.injEq] at h
    subst h
    rw [List.append_nil]
    have : ∀ (cs : List Ch), HeapOK X e w (pre ++ cs) → HeapOK X e w pre := by
      intro cs
      induction cs with
      | nil => intro h; simpa using h
      | cons c cs ih =>
        intro h
        have hp : (pre ++ c :: cs).Perm (c :: (pre ++ cs)) := List.perm_middle
        exact ih (h.perm hp).drop
    exact this cs hh
  | k :: ks, cs, l, h, pre, hh => by
    simp only [takeAll] at h
    split at h
    · rename_i c r htk
      split at h
      · rename_i l' hl'
        simp only [Option.some.injEq] at h
        subst h
        have hp : (pre ++ cs).Perm ((pre ++ [c]) ++ r) := by
          rw [List.append_assoc]
          exact (takeCh_perm htk).append_left pre
        have := HeapOK.pick (ks := ks) hl' (pre := pre ++ [c]) (hh.perm hp)
        simpa using this
      · cases h
    · cases h

/-- Fewer slots, fewer chunks. -/
theorem Le.sub {s s2 : St} (ks : List Nat) (hs : subS s2.s s.s) (hc : takeAll ks s.c = some s2.c) : Le X n s s2 :=
  fun e a w r => ⟨e, r.less (fun i x hx => subS_get hs i x hx) (fun hh => HeapOK.pick hc (pre := []) hh)⟩

theorem C_le {Q : Exit → St → Prop} {c : Code} (s2 : St) (hl : Le X n st s2) (h : SymC X n c s2 Q) : SymC X n c st Q :=
  fun e a w r => let ⟨e', r'⟩ := hl e a w r; h e' a w r'
theorem O_le {l : List Oper} (s2 : St) (hl : Le X n st s2) (h : SymO X n ops l s2 K) : SymO X n ops l st K :=
  fun e a w Q r hq => let ⟨e', r'⟩ := hl e a w r; h e' a w Q r' hq

/-- Ways meet again. -/
theorem C_seqJ {Q : Exit → St → Prop} {x y : Code} (s2 : St) (h1 : SymC X n x st (fun ex s => match ex with
      | .normal => Le X n s s2
      | ex => Q ex s)) (h2 : SymC X n y s2 Q) : SymC X n (.seq x y) st Q :=
  C_seq (h1.mono fun ex s h => by cases ex <;> first | exact h | exact C_le s2 h h2)

/-- Both ways of a test meet again at once. -/
theorem C_ifJ {Q : Exit → St → Prop} {c : Operand} {x y : Code} {b : Bool} (s2 : St) (hb : opd st.s c = some (.v (.bool b)))
    (ht : b = true → SymC X n x st (fun ex s => match ex with
      | .normal => Le X n s s2
      | ex => Q ex s)) (hf : b = false → SymC X n y st (fun ex s => match ex with
      | .normal => Le X n s s2
      | ex => Q ex s)) (hQ : ∀ s, Le X n s s2 → Q .normal s) : SymC X n (.cond c x y) st Q :=
  C_if hb (fun h => (ht h).mono fun ex s h => by cases ex <;> first | exact h | exact hQ s h) (fun h => (hf h).mono fun ex s h => by cases ex <;> first | exact h | exact hQ s h)

/-- A loop: a family of states, what holds of its index, a measure that each round lowers. -/
theorem C_loop {α : Type} {Q : Exit → St → Prop} {c : Code} (S : α → St) (I : α → Prop) (m : α → Nat) (x0 : α) (hI : I x0) (h0 : Le X n st (S x0))
    (round : ∀ x, I x → SymC X n c (S x) (fun ex s => match ex with
      | .normal => ∃ y, I y ∧ m y < m x ∧ Le X n s (S y)
      | ex => Q ex s)) : SymC X n (.loop c) st Q := by
  intro e a w r
  refine wp_loop_ghost (fun k a w => ∃ x e, m x = k ∧ I x ∧ Rel X n e (S x) a w) (m x0) ?_ ?_
  · obtain ⟨e', r'⟩ := h0 e a w r
    exact ⟨x0, e', rfl, hI, r'⟩
  · rintro k a w ⟨x, e, rfl, hx, r⟩
    refine Code.wp_mono (fun ex a' w' hc => ?_) (round x hx e a w r)
    cases ex with
    | normal =>
      obtain ⟨e', st', h1, y, hy, hlt, hle⟩ := hc
      obtain ⟨e2, h2⟩ := hle e' a' w' h1
      exact ⟨m y, hlt, y, e2, rfl, hy, h2⟩
    | exit id => exact hc
    | goto l => exact hc
    | ret => exact hc
    | panic ch => exact hc
    | outgrown => exact hc
end

theorem w64 {x : Int} (h : -9223372036854775808 ≤ x) (h2 : x ≤ 9223372036854775807) : IntKind.i64.wrap x = x := by
  simp only [IntKind.wrap, IntKind.bits, IntKind.signed, Bool.true_and]
  split <;> rename_i h3 <;> simp at h3 <;> omega

theorem quo64 {a b : Int} (ha : 0 ≤ a) (hb : 0 < b) (h2 : a ≤ 9223372036854775807) : IntKind.i64.wrap (a.tdiv b) = a / b := by
  rw [Int.tdiv_eq_ediv_of_nonneg ha]
  have h1 : 0 ≤ a / b := Int.ediv_nonneg ha (by omega)
  have h3 : a / b ≤ a := Int.ediv_le_self _ ha
  exact w64 (by omega) (by omega)

/-- A read-only slice of a typed list. -/
abbrev SL {α : Type} [Inhabited α] (esz : Nat) (cells : α → List AV) (l : List α) : AV := .sl l.length esz (fun i => cells (l.getD i default))
abbrev I64 (n : Int) : AV := .v (.int .i64 n)
abbrev B (b : Bool) : AV := .v (.bool b)

/-! ### Contracts -/
def ImOK (G : IM) (w : World) : Prop := ∀ b o v, G b o = some v → w.cell? ⟨b, o, none⟩ = some v

def Callable (P : Program) (f : FuncId) : Prop := ∃ fn, P.funcs[f]? = some fn ∧ fn.body.isNone = false ∧ (fn.name == "runtime.NumGoroutine") = false

/-- Called with these, whatever memory is (of which G is known): it returns such a value, in memory that was there or is new, and changes nothing that was there. -/
def FnP (P : Program) (f : FuncId) (args : List AV) (post : AV → Prop) : Prop :=
  Callable P f ∧ ∀ (G : IM) (w : World) (cargs : List Value), ImOK G w → RepIT G args cargs →
    Calls P f cargs.toArray w fun e w' => ∃ r cr G', post r ∧ e = .returned cr ∧ RepI G' r cr ∧ IM.le G G' ∧
      (∀ b o v, G' b o = some v → G b o = some v ∨ w.heap.size ≤ b) ∧ ImOK G' w' ∧ Below w.heap.size w w'

theorem FnP.mono {P : Program} {f : FuncId} {args : List AV} {p q : AV → Prop} (h : FnP P f args p) (hpq : ∀ r, p r → q r) : FnP P f args q :=
  ⟨h.1, fun G w c h1 h2 => (h.2 G w c h1 h2).mono fun e w' ⟨r, cr, G', k, rest⟩ => ⟨r, cr, G', hpq r k, rest⟩⟩

/-- A contract that knows some of memory: the base Gb. -/
def FnB (P : Program) (Gb : IM) (f : FuncId) (args : List AV) (post : AV → Prop) : Prop :=
  Callable P f ∧ ∀ (G : IM) (w : World) (cargs : List Value), IM.le Gb G → ImOK G w → RepIT G args cargs →
    Calls P f cargs.toArray w fun e w' => ∃ r cr G', post r ∧ e = .returned cr ∧ RepI G' r cr ∧ IM.le G G' ∧
      (∀ b o v, G' b o = some v → G b o = some v ∨ w.heap.size ≤ b) ∧ ImOK G' w' ∧ Below w.heap.size w w'

theorem FnP.toB {P : Program} {Gb : IM} {f : FuncId} {args : List AV} {post : AV → Prop} (h : FnP P f args post) : FnB P Gb f args post :=
  ⟨h.1, fun G w c _ h1 h2 => h.2 G w c h1 h2⟩
theorem FnB.mono {P : Program} {Gb : IM} {f : FuncId} {args : List AV} {p q : AV → Prop} (h : FnB P Gb f args p) (hpq : ∀ r, p r → q r) : FnB P Gb f args q :=
  ⟨h.1, fun G w c h0 h1 h2 => (h.2 G w c h0 h1 h2).mono fun e w' ⟨r, cr, G', k, rest⟩ => ⟨r, cr, G', hpq r k, rest⟩⟩

def enumA (i : Nat) : List AV → List (Nat × AV)
  | [] => []
  | x :: r => (i, x) :: enumA (i + 1) r

def resL (T : Tab) (st : St) : List ResultVar → Option (List AV)
  | [] => some []
  | .tmp t :: r => (match get st.s t, resL T st r with
    | some x, some xs => some (x :: xs)
    | _, _ => none)
  | .cell t ty :: r => (match get st.s t, T ty, resL T st r with
    | some (.bp k o), some i, some xs => (match boxCells k st.c with
      | some cells => (match loadA i (cells.drop o) with
        | some x => some (x :: xs)
        | none => none)
      | none => none)
    | _, _, _ => none)
def resA (T : Tab) (st : St) (rs : List ResultVar) : Option AV :=
  match resL T st rs with
  | some [x] => some x
  | some xs => some (.tup xs)
  | none => none

/-- What must hold where a body ends. -/
def Ends (T : Tab) (rs : Array ResultVar) (post : AV → Prop) : Exit → St → Prop
  | .normal, st => ∃ r, resA T st rs.toList = some r ∧ r.imm = true ∧ post r
  | .ret, st => ∃ r, resA T st rs.toList = some r ∧ r.imm = true ∧ post r
  | _, _ => False

section
variable {P : Program} {T : Tab} {X : Ctx P T} {n : Nat} {e : Env} {st : St} {a : Act} {w : World} {ops : Array Oper} {K : St → Prop}

def resF (tmps : Array Value) : ResultVar → Sem Value
  | .tmp t => pure (tmps.getD t undef)
  | .cell c t => do loadVar t (← asAddr (tmps.getD c undef))
theorem results_eq (fn : Func) (tmps : Array Value) : results fn tmps = (do
    let vs ← fn.results.mapM (resF tmps)
    pure (if h : vs.size = 1 then vs[0] else .tuple vs)) := by
  unfold results
  congr 1

theorem resL_sound (r : Rel X n e st a w) : ∀ {rs : List ResultVar} {xs : List AV}, resL T st rs = some xs →
    ∃ vs, (rs.mapM (resF a.tmps)).run P w = .ok vs w ∧ RepT e xs vs
  | [], xs, h => by simp only [resL, Option.some.injEq] at h; subst h; exact ⟨[], rfl, by simp [RepT]⟩
  | .tmp t :: rs, xs, h => by
    simp only [resL] at h
    split at h
    · rename_i x xs' h1 h2
      simp only [Option.some.injEq] at h
      subst h
      obtain ⟨vs, g1, g2⟩ := resL_sound r h2
      obtain ⟨v, g3, g4⟩ := r.slots t x h1
      refine ⟨v :: vs, ?_, by simp only [RepT]; exact ⟨v, vs, rfl, g4, g2⟩⟩
      simp only [List.mapM_cons, resF, Sem.run_bind, Sem.run_pure, Result.andThen_ok, g1]
      simp [Array.getD_eq_getD_getElem?, g3]
    · cases h
  | .cell t ty :: rs, xs, h => by
    simp only [resL] at h
    split at h
    · rename_i k o i xs' h1 h2 h3
      split at h
      · rename_i cells hb
        split at h
        · rename_i x hx
          simp only [Option.some.injEq] at h
          subst h
          obtain ⟨vs, g1, g2⟩ := resL_sound r h3
          obtain ⟨v, g3, g4⟩ := r.slots t _ h1
          simp only [Rep] at g4
          subst g4
          obtain ⟨arr, Tt, q1, q2⟩ := boxCells_sound r.heap hb
          obtain ⟨v', g6, g5⟩ := load_sound X.ok h2 (readable_bp q1 q2 o) hx
          refine ⟨v' :: vs, ?_, by simp only [RepT]; exact ⟨v', vs, rfl, g6, g2⟩⟩
          simp only [List.mapM_cons, resF, Sem.run_bind, Sem.run_pure, Result.andThen_ok]
          simp only [Array.getD_eq_getD_getElem?, g3, Option.getD_some, asAddr, Sem.run_pure, Result.andThen_ok, g5 w (SameAs.refl w)]
          rw [g1]
          rfl
        · cases h
      · cases h
    · cases h

theorem resA_sound (r : Rel X n e st a w) {fn : Func} {x : AV} (h : resA T st fn.results.toList = some x) : ∃ v, (results fn a.tmps).run P w = .ok v w ∧ Rep e x v := by
  have key : ∀ xs, resL T st fn.results.toList = some xs → ∃ vs : List Value, (results fn a.tmps).run P w = .ok (if h : vs.toArray.size = 1 then vs.toArray[0] else .tuple vs.toArray) w ∧ RepT e xs vs := by
    intro xs hxs
    obtain ⟨vs, h1, h2⟩ := resL_sound r hxs
    refine ⟨vs, ?_, h2⟩
    rw [results_eq, Array.mapM_eq_mapM_toList]
    simp only [Sem.run_bind, Sem.run_map, h1, Result.andThen_ok, Sem.run_pure]
  unfold resA at h
  split at h
  · rename_i y hy
    simp only [Option.some.injEq] at h
    subst h
    obtain ⟨vs, h1, h2⟩ := key _ hy
    simp only [RepT] at h2
    obtain ⟨z, zs, rfl, h3, rfl⟩ := h2
    exact ⟨z, by simpa using h1, h3⟩
  · rename_i xs hne hxs
    simp only [Option.some.injEq] at h
    subst h
    obtain ⟨vs, h1, h2⟩ := key _ hxs
    have hl : vs.length ≠ 1 := by
      intro hv
      match vs, hv with
      | [z], _ =>
        match xs, h2 with
        | [], h2 => simp [RepT] at h2
        | [y], h2 => exact hne y rfl
        | y :: y' :: ys, h2 =>
          simp only [RepT, List.cons.injEq] at h2
          obtain ⟨z', zs, ⟨_, rfl⟩, _, z2, zs2, h, _⟩ := h2
          cases h
    refine ⟨.tuple vs.toArray, ?_, by simp only [Rep]; exact ⟨_, rfl, by simpa using h2⟩⟩
    rw [h1]
    simp [hl]
  · cases h

theorem FnB.intro {Gb : IM} (ok : TabOK P T) (wide : P.follows .mixedOrders = true) {f : FuncId} {fn : Func} {c : Code} {args : List AV} {post : AV → Prop} (hf : P.funcs[f]? = some fn) (hb : fn.body = some c)
    (hn : (fn.name == "runtime.NumGoroutine") = false) (hargs : Nat.ble args.length fn.ntmps = true)
    (h : ∀ X : Ctx P T, IM.le Gb X.G0 → SymC X fn.ntmps c ⟨enumA 0 args, []⟩ (Ends T fn.results post)) : FnB P Gb f args post := by
  refine ⟨⟨fn, hf, by simp [hb], hn⟩, ?_⟩
  intro G w cargs hGb him hrep
  have hlen : ∀ {xs : List AV} {vs : List Value}, RepIT G xs vs → vs.length = xs.length := by
    intro xs
    induction xs with
    | nil => intro vs h; simp only [RepIT] at h; subst h; rfl
    | cons x xs ih =>
      intro vs h
      simp only [RepIT] at h
      obtain ⟨z, zs, rfl, _, h3⟩ := h
      simp [ih h3]
  have hl := hlen hrep
  have hargs := Nat.le_of_ble_eq_true hargs
  refine calls_of_wp hf hb ?_
  let X : Ctx P T := ⟨ok, wide, w, G, [], fun _ => 0⟩
  let e : Env := ⟨G, fun _ => 0, fun _ => undef⟩
  have hslots : ∀ (xs : List AV) (vs : List Value) (i0 : Nat), RepIT G xs vs → ∀ i x, get (enumA i0 xs) i = some x → ∃ v, i0 ≤ i ∧ vs[i - i0]? = some v ∧ RepI G x v := by
    intro xs
    induction xs with
    | nil => intro vs i0 _ i x h; simp [enumA, get] at h
    | cons y ys ih =>
      intro vs i0 hr i x h
      simp only [RepIT] at hr
      obtain ⟨z, zs, rfl, h1, h2⟩ := hr
      simp only [enumA] at h
      rw [get_cons] at h
      by_cases hi : i0 = i
      · subst hi
        simp only [if_true, Option.some.injEq] at h
        subst h
        exact ⟨z, Nat.le_refl _, by simp, h1⟩
      · rw [if_neg hi] at h
        obtain ⟨v, g1, g2, g3⟩ := ih zs (i0 + 1) h2 i x h
        refine ⟨v, by omega, ?_, g3⟩
        rw [show i - i0 = (i - (i0 + 1)) + 1 by omega]
        simpa using g2
  have r : Rel X fn.ntmps e ⟨enumA 0 args, []⟩ { tmps := cargs.toArray ++ Array.replicate (fn.ntmps - cargs.toArray.size) undef, defers := [] } w :=
    { defers := rfl
      size := by simp; omega
      slots := fun i x hx => by
        obtain ⟨v, _, g2, g3⟩ := hslots args cargs 0 hrep i x hx
        simp only [Nat.sub_zero] at g2
        have hi : i < cargs.length := by
          rcases Nat.lt_or_ge i cargs.length with h | h
          · exact h
          · rw [List.getElem?_eq_none h] at g2; cases g2
        refine ⟨v, ?_, RepI.toRep x g3⟩
        rw [Array.getElem?_append_left (by simpa using hi)]
        simpa using g2
      im := him
      heap := ⟨[], rfl, by simp, by simp, by simp⟩
      le := IM.le_refl _
      new := fun b o v hv => .inl hv
      os := rfl
      tape := rfl
      output := rfl
      sz := Nat.le_refl _
      keep := fun b _ _ => rfl
      fix := fun _ _ => rfl }
  refine Code.wp_mono (fun ex a' w' hc => ?_) (h X hGb e _ w r)
  have fin : ∀ (e' : Env) (st' : St), Rel X fn.ntmps e' st' a' w' → (∃ r, resA T st' fn.results.toList = some r ∧ r.imm = true ∧ post r) →
      a'.defers = [] ∧ ∃ v, (results fn a'.tmps).run P w' = .ok v w' ∧ (∃ r cr G', post r ∧ Ending.returned v = .returned cr ∧ RepI G' r cr ∧ IM.le G G' ∧
      (∀ b o v, G' b o = some v → G b o = some v ∨ w.heap.size ≤ b) ∧ ImOK G' w' ∧ Below w.heap.size w w') := by
    intro e' st' hr ⟨x, h1, h2, h3⟩
    obtain ⟨v, h4, h5⟩ := resA_sound hr h1
    refine ⟨hr.defers, v, h4, x, v, e'.G, h3, rfl, Rep.toI x h2 h5, hr.le, ?_, hr.im, ?_⟩
    · intro b o v hv
      rcases hr.new b o v hv with h | h | h
      · exact .inl h
      · exact .inr h
      · simp [X] at h
    · exact ⟨hr.os, hr.tape, hr.output, hr.sz, fun b hb => hr.keep b hb (by simp [X])⟩
  cases ex with
  | normal => obtain ⟨e', st', h1, h2⟩ := hc; exact fin e' st' h1 h2
  | ret => obtain ⟨e', st', h1, h2⟩ := hc; exact fin e' st' h1 h2
  | exit id => obtain ⟨e', st', h1, h2⟩ := hc; exact h2.elim
  | goto l => obtain ⟨e', st', h1, h2⟩ := hc; exact h2.elim
  | panic ch => exact hc.elim
  | outgrown => exact hc.elim

theorem FnP.intro (ok : TabOK P T) (wide : P.follows .mixedOrders = true) {f : FuncId} {fn : Func} {c : Code} {args : List AV} {post : AV → Prop} (hf : P.funcs[f]? = some fn) (hb : fn.body = some c)
    (hn : (fn.name == "runtime.NumGoroutine") = false) (hargs : Nat.ble args.length fn.ntmps = true)
    (h : ∀ X : Ctx P T, SymC X fn.ntmps c ⟨enumA 0 args, []⟩ (Ends T fn.results post)) : FnP P f args post := by
  have hB : FnB P (fun _ _ => none) f args post := FnB.intro ok wide hf hb hn hargs (fun X _ => h X)
  exact ⟨hB.1, fun G w c h1 h2 => hB.2 G w c (fun _ _ _ h => by cases h) h1 h2⟩

theorem run_call {f : FuncId} (hc : Callable P f) {dst : Option Tmp} {args : Array Operand} {tys : Array TypeId} {ty : TypeId} {pos : String} {aft : Array Edge} {gd : Option (Nat × Bool)} (ρ : Operand → Value)
    (hρ : ρ (.func f) = .func (.func f) #[] #[]) (w : World) :
    (execOp ρ ⟨dst, .call ⟨.value (.func f), args, tys⟩, ty, pos, aft, gd⟩).run P w = .ok (.enter f (args.map ρ)) w := by
  obtain ⟨fn, h1, h2, h3⟩ := hc
  simp only [execOp, resolve, hρ, Deferred.ofValue, Sem.run_bind, Sem.run_pure, Result.andThen_ok, invoke]
  have h4 : ¬ fn.body = none := by intro h; simp [h] at h2
  have h5 : ¬ fn.name = "runtime.NumGoroutine" := by simpa using h3
  simp [callFunc, h1, h4, h5]

/-- A call, by contract. -/
theorem O_callB {Gb : IM} (hGb : IM.le Gb X.G0) {f : FuncId} {dst : Nat} {args : Array Operand} {tys : Array TypeId} {ty : TypeId} {pos : String} {aft : Array Edge} {gd : Option (Nat × Bool)} {rest : List Oper} {avs : List AV} {post : AV → Prop}
    {s : List (Nat × AV)} {c : List Ch} (hf : FnB P Gb f avs post) (hg : guardA ops ⟨s, c⟩ ⟨some dst, .call ⟨.value (.func f), args, tys⟩, ty, pos, aft, gd⟩ = some true) (ha : opds s args.toList = some avs) (himm : AV.imm.immL avs = true) (hd : Nat.blt dst n = true)
    (k : ∀ r, post r → SymO X n ops rest ⟨(dst, r) :: s, c⟩ K) :
    SymO X n ops (⟨some dst, .call ⟨.value (.func f), args, tys⟩, ty, pos, aft, gd⟩ :: rest) ⟨s, c⟩ K := by
  intro e a w Q r hq
  unfold wpList
  rw [if_pos (guardA_sound r hg)]
  refine .inl ?_
  unfold Oper.wp
  rw [run_call hf.1 a.eval rfl w, Oper.upon_enter]
  have h1 := RepT.toI avs himm (opds_sound r ha)
  have h2 := hf.2 e.G w _ (IM.le_trans hGb r.le) r.im h1
  have harr : args.map a.eval = (args.toList.map a.eval).toArray := by
    apply Array.ext'; simp
  rw [harr]
  refine h2.mono ?_
  rintro en w' ⟨rv, cr, G', hp, rfl, g1, g2, g3, g4, g5⟩
  have hlt : ∀ b o v, e.G b o = some v → b < w.heap.size := fun b o v h => Go.block_lt_of_cell (r.im b o v h)
  have r' : Rel X n ⟨G', e.μ, e.hd⟩ ⟨s, c⟩ a w' :=
    { defers := r.defers
      size := r.size
      slots := fun i x hx => by
        obtain ⟨v, q1, q2⟩ := r.slots i x hx
        exact ⟨v, q1, Rep.mono (e := e) (f := ⟨G', e.μ, e.hd⟩) g2 x (fun _ _ => ⟨rfl, rfl⟩) q2⟩
      im := g4
      heap := HeapOK.grow r.heap g2 (fun _ _ _ _ => ⟨rfl, rfl⟩) (fun b hb => g5.block b hb) g5.size (fun b o hb h0 => by
        cases hg : G' b o with
        | none => exact hg
        | some v =>
          rcases g3 b o v hg with h | h
          · rw [h0] at h; cases h
          · omega)
      le := IM.le_trans r.le g2
      new := fun b o v hv => by
        rcases g3 b o v hv with h | h
        · exact r.new b o v h
        · exact .inr (.inl (Nat.le_trans r.sz h))
      os := g5.os.trans r.os
      tape := g5.tape.trans r.tape
      output := g5.output.trans r.output
      sz := Nat.le_trans r.sz g5.size
      fix := r.fix
      keep := fun b hb hbs => (g5.block b (Nat.lt_of_lt_of_le hb r.sz)).trans (r.keep b hb hbs) }
  have r2 := r'.put (x := rv) (v := cr) hd (RepI.toRep (e := ⟨G', e.μ, e.hd⟩) rv g1)
  exact k rv hp _ _ w' Q r2 hq

/-- A call, by contract. -/
theorem O_call {f : FuncId} {dst : Nat} {args : Array Operand} {tys : Array TypeId} {ty : TypeId} {pos : String} {aft : Array Edge} {gd : Option (Nat × Bool)} {rest : List Oper} {avs : List AV} {post : AV → Prop}
    {s : List (Nat × AV)} {c : List Ch} (hf : FnP P f avs post) (hg : guardA ops ⟨s, c⟩ ⟨some dst, .call ⟨.value (.func f), args, tys⟩, ty, pos, aft, gd⟩ = some true) (ha : opds s args.toList = some avs) (himm : AV.imm.immL avs = true) (hd : Nat.blt dst n = true)
    (k : ∀ r, post r → SymO X n ops rest ⟨(dst, r) :: s, c⟩ K) :
    SymO X n ops (⟨some dst, .call ⟨.value (.func f), args, tys⟩, ty, pos, aft, gd⟩ :: rest) ⟨s, c⟩ K :=
  O_callB (Gb := fun _ _ => none) (fun _ _ _ h => by cases h) hf.toB hg ha himm hd k
end
end Go.Sy
