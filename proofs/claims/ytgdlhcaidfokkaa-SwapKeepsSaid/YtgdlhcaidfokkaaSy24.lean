/- The symbolic walk, part 24: functions that get a pointer to cells that they may change, or give one to new cells; function values. -/
import Derived.Test.YtgdlhcaidfokkaaSy21
set_option linter.unusedSimpArgs false
set_option linter.unusedVariables false
namespace Go.Sy
open Go.RowKit

section
variable {P : Program} {T : Tab} {X : Ctx P T} {n : Nat} {e : Env} {st : St} {a : Act} {w : World} {ops : Array Oper} {K : St → Prop}

def FnBox (P : Program) (f : FuncId) (t : TypeId) (cells : List AV) (avs : List AV) (post : AV → List AV → Prop) : Prop :=
  Callable P f ∧ ∀ (G : IM) (w : World) (b : Nat) (arr : Array Value) (cargs : List Value), ImOK G w → w.heap[b]? = some (.cells arr t (0, 0)) → RepIL G cells arr.toList → (∀ o, G b o = none) → RepIT G avs cargs →
    Calls P f (Value.pointer (some ⟨b, 0, none⟩) :: cargs).toArray w fun en w' => ∃ r cr cells' arr' G', post r cells' ∧ en = .returned cr ∧ RepI G' r cr ∧ IM.le G G' ∧
      (∀ b' o v, G' b' o = some v → G b' o = some v ∨ w.heap.size ≤ b') ∧ ImOK G' w' ∧ w'.heap[b]? = some (.cells arr' t (0, 0)) ∧ RepIL G' cells' arr'.toList ∧
      w'.os = w.os ∧ w'.tape = w.tape ∧ w'.output = w.output ∧ w.heap.size ≤ w'.heap.size ∧ ∀ k, k < w.heap.size → k ≠ b → w'.heap[k]? = w.heap[k]?

def FnNew (P : Program) (f : FuncId) (t : TypeId) (avs : List AV) (post : List AV → Prop) : Prop :=
  Callable P f ∧ ∀ (G : IM) (w : World) (cargs : List Value), ImOK G w → RepIT G avs cargs →
    Calls P f cargs.toArray w fun en w' => ∃ b arr cells G', post cells ∧ en = .returned (.pointer (some ⟨b, 0, none⟩)) ∧ w.heap.size ≤ b ∧ b < w'.heap.size ∧
      w'.heap[b]? = some (.cells arr t (0, 0)) ∧ RepIL G' cells arr.toList ∧ (∀ o, G' b o = none) ∧ IM.le G G' ∧
      (∀ b' o v, G' b' o = some v → G b' o = some v ∨ w.heap.size ≤ b') ∧ ImOK G' w' ∧ Below w.heap.size w w'

theorem slots_of {e : Env} : ∀ (xs : List AV) (vs : List Value) (i0 : Nat), RepT e xs vs → ∀ i x, get (enumA i0 xs) i = some x → ∃ v, i0 ≤ i ∧ vs[i - i0]? = some v ∧ Rep e x v
  | [], vs, i0, _, i, x, h => by simp [enumA, get] at h
  | y :: ys, vs, i0, hr, i, x, h => by
    simp only [RepT] at hr
    obtain ⟨z, zs, rfl, h1, h2⟩ := hr
    simp only [enumA] at h
    rw [get_cons] at h
    by_cases hi : i0 = i
    · subst hi
      simp only [if_true, Option.some.injEq] at h
      subst h
      exact ⟨z, Nat.le_refl _, by simp, h1⟩
    · rw [if_neg hi] at h
      obtain ⟨v, g1, g2, g3⟩ := slots_of ys zs (i0 + 1) h2 i x h
      refine ⟨v, by omega, ?_, g3⟩
      rw [show i - i0 = (i - (i0 + 1)) + 1 by omega]
      simpa using g2
theorem RepT.len {e : Env} : ∀ {xs : List AV} {vs : List Value}, RepT e xs vs → vs.length = xs.length
  | [], vs, h => by simp only [RepT] at h; subst h; rfl
  | x :: xs, vs, h => by
    simp only [RepT] at h
    obtain ⟨z, zs, rfl, _, h3⟩ := h
    simp [RepT.len h3]

/-- The frame in which a body begins. -/
theorem Rel.enter {X : Ctx P T} {n : Nat} {e : Env} {c : List Ch} {args : List AV} {cargs : List Value} (hX : X.w0 = w) (hG : e.G = X.G0) (him : ImOK X.G0 w) (hrep : RepT e args cargs) (hl : args.length ≤ n) (hh : HeapOK X e w c) (hμ : e.μ = X.μ0) :
    Rel X n e ⟨enumA 0 args, c⟩ { tmps := cargs.toArray ++ Array.replicate (n - cargs.toArray.size) undef, defers := [] } w :=
  { defers := rfl
    size := by have := RepT.len hrep; simp; omega
    slots := fun i x hx => by
      obtain ⟨v, _, g2, g3⟩ := slots_of args cargs 0 hrep i x hx
      simp only [Nat.sub_zero] at g2
      have hi : i < cargs.length := by
        rcases Nat.lt_or_ge i cargs.length with h | h
        · exact h
        · rw [List.getElem?_eq_none h] at g2; cases g2
      refine ⟨v, ?_, g3⟩
      rw [Array.getElem?_append_left (by simpa using hi)]
      simpa using g2
    im := by rw [hG]; exact him
    heap := hh
    le := by rw [hG]; exact IM.le_refl _
    new := fun b o v hv => .inl (by rw [← hG]; exact hv)
    os := by rw [hX]
    tape := by rw [hX]
    output := by rw [hX]
    sz := by rw [hX]; exact Nat.le_refl _
    keep := fun b _ _ => by rw [hX]
    fix := fun k _ => by rw [hμ] }

def EndsBox (T : Tab) (rs : Array ResultVar) (t : TypeId) (post : AV → List AV → Prop) : Exit → St → Prop
  | .normal, st => ∃ r cells rest, resA T st rs.toList = some r ∧ takeCh 1000 st.c = some (.box 1000 t cells, rest) ∧ r.imm = true ∧ AV.imm.immL cells = true ∧ post r cells
  | .ret, st => ∃ r cells rest, resA T st rs.toList = some r ∧ takeCh 1000 st.c = some (.box 1000 t cells, rest) ∧ r.imm = true ∧ AV.imm.immL cells = true ∧ post r cells
  | _, _ => False

theorem FnBox.intro (ok : TabOK P T) (wide : P.follows .mixedOrders = true) {f : FuncId} {fn : Func} {c : Code} {t : TypeId} {cells args : List AV} {post : AV → List AV → Prop} (hf : P.funcs[f]? = some fn) (hb : fn.body = some c)
    (hn : (fn.name == "runtime.NumGoroutine") = false) (hargs : Nat.ble (args.length + 1) fn.ntmps = true) (hbig : Nat.ble fn.ntmps 1000 = true)
    (h : ∀ X : Ctx P T, SymC X fn.ntmps c ⟨(0, .bp 1000 0) :: enumA 1 args, [.box 1000 t cells]⟩ (EndsBox T fn.results t post)) : FnBox P f t cells args post := by
  refine ⟨⟨fn, hf, by simp [hb], hn⟩, ?_⟩
  intro G w b arr cargs him hbk hcells hGb hrep
  have hargs := Nat.le_of_ble_eq_true hargs
  have hbig := Nat.le_of_ble_eq_true hbig
  refine calls_of_wp hf hb ?_
  let X : Ctx P T := ⟨ok, wide, w, G, [b], fun _ => b⟩
  let e : Env := ⟨G, fun _ => b, fun _ => undef⟩
  have hblt : b < w.heap.size := by
    rcases Nat.lt_or_ge b w.heap.size with h | h
    · exact h
    · rw [Array.getElem?_eq_none h] at hbk; cases hbk
  have toT : ∀ {xs : List AV} {vs : List Value}, RepIT G xs vs → RepT e xs vs := fun {xs vs} h => RepIT.toRep (e := e) xs h
  have r : Rel X fn.ntmps e ⟨enumA 0 (.bp 1000 0 :: args), [.box 1000 t cells]⟩ { tmps := (Value.pointer (some ⟨b, 0, none⟩) :: cargs).toArray ++ Array.replicate (fn.ntmps - (Value.pointer (some ⟨b, 0, none⟩) :: cargs).toArray.size) undef, defers := [] } w := by
    refine Rel.enter rfl rfl him ?_ (by simp; omega) ?_ rfl
    · simp only [RepT]
      exact ⟨_, _, rfl, by simp only [Rep]; rfl, toT hrep⟩
    · refine ⟨[(.box 1000 t cells, [b])], rfl, ?_, by simp, ?_⟩
      · intro p hp
        simp only [List.mem_singleton] at hp
        subst hp
        exact ⟨rfl, arr, hbk, RepIL.toRep (e := e) cells hcells⟩
      · intro x hx
        simp only [List.flatMap_cons, List.flatMap_nil, List.append_nil, List.mem_singleton] at hx
        subst hx
        exact ⟨hblt, .inr (by simp [X]), hGb⟩
  refine Code.wp_mono (fun ex a' w' hc => ?_) (h X e _ w r)
  have fin : ∀ (e' : Env) (st' : St), Rel X fn.ntmps e' st' a' w' → (∃ r cells rest, resA T st' fn.results.toList = some r ∧ takeCh 1000 st'.c = some (.box 1000 t cells, rest) ∧ r.imm = true ∧ AV.imm.immL cells = true ∧ post r cells) →
      a'.defers = [] ∧ ∃ v, (results fn a'.tmps).run P w' = .ok v w' ∧ (∃ r cr cells' arr' G', post r cells' ∧ Ending.returned v = .returned cr ∧ RepI G' r cr ∧ IM.le G G' ∧
      (∀ b' o v, G' b' o = some v → G b' o = some v ∨ w.heap.size ≤ b') ∧ ImOK G' w' ∧ w'.heap[b]? = some (.cells arr' t (0, 0)) ∧ RepIL G' cells' arr'.toList ∧
      w'.os = w.os ∧ w'.tape = w.tape ∧ w'.output = w.output ∧ w.heap.size ≤ w'.heap.size ∧ ∀ k, k < w.heap.size → k ≠ b → w'.heap[k]? = w.heap[k]?) := by
    intro e' st' hr ⟨x, cells', rest, h1, hk, h2, h3, h4⟩
    obtain ⟨v, h5, h6⟩ := resA_sound hr h1
    obtain ⟨bs, ⟨hbs, arr', g1, g2⟩, _, hgood⟩ := (hr.heap.perm (takeCh_perm hk)).head
    have hμ : e'.μ 1000 = b := hr.fix 1000 hbig
    rw [hμ] at g1 hbs
    have hG'b : ∀ o, e'.G b o = none := (hgood b (by rw [hbs]; simp)).2.2
    refine ⟨hr.defers, v, h5, x, v, cells', arr', e'.G, h4, rfl, Rep.toI x h2 h6, hr.le, ?_, hr.im, g1, RepL.toI cells' h3 g2, hr.os, hr.tape, hr.output, hr.sz, ?_⟩
    · intro b' o v hv
      rcases hr.new b' o v hv with h | h | h
      · exact .inl h
      · exact .inr h
      · simp only [X, List.mem_singleton] at h
        subst h
        rw [hG'b o] at hv; cases hv
    · intro k hk hne
      exact hr.keep k hk (by simpa [X] using hne)
  cases ex with
  | normal => obtain ⟨e', st', h1, h2⟩ := hc; exact fin e' st' h1 h2
  | ret => obtain ⟨e', st', h1, h2⟩ := hc; exact fin e' st' h1 h2
  | exit id => obtain ⟨e', st', h1, h2⟩ := hc; exact h2.elim
  | goto l => obtain ⟨e', st', h1, h2⟩ := hc; exact h2.elim
  | panic ch => exact hc.elim
  | outgrown => exact hc.elim

def EndsNew (T : Tab) (rs : Array ResultVar) (t : TypeId) (post : List AV → Prop) : Exit → St → Prop
  | .normal, st => ∃ k cells rest, resA T st rs.toList = some (.bp k 0) ∧ takeCh k st.c = some (.box k t cells, rest) ∧ AV.imm.immL cells = true ∧ post cells
  | .ret, st => ∃ k cells rest, resA T st rs.toList = some (.bp k 0) ∧ takeCh k st.c = some (.box k t cells, rest) ∧ AV.imm.immL cells = true ∧ post cells
  | _, _ => False

theorem FnNew.intro (ok : TabOK P T) (wide : P.follows .mixedOrders = true) {f : FuncId} {fn : Func} {c : Code} {t : TypeId} {args : List AV} {post : List AV → Prop} (hf : P.funcs[f]? = some fn) (hb : fn.body = some c)
    (hn : (fn.name == "runtime.NumGoroutine") = false) (hargs : Nat.ble args.length fn.ntmps = true)
    (h : ∀ X : Ctx P T, SymC X fn.ntmps c ⟨enumA 0 args, []⟩ (EndsNew T fn.results t post)) : FnNew P f t args post := by
  refine ⟨⟨fn, hf, by simp [hb], hn⟩, ?_⟩
  intro G w cargs him hrep
  have hargs := Nat.le_of_ble_eq_true hargs
  refine calls_of_wp hf hb ?_
  let X : Ctx P T := ⟨ok, wide, w, G, [], fun _ => 0⟩
  let e : Env := ⟨G, fun _ => 0, fun _ => undef⟩
  have r : Rel X fn.ntmps e ⟨enumA 0 args, []⟩ { tmps := cargs.toArray ++ Array.replicate (fn.ntmps - cargs.toArray.size) undef, defers := [] } w :=
    Rel.enter rfl rfl him (RepIT.toRep (e := e) args hrep) hargs ⟨[], rfl, by simp, by simp, by simp⟩ rfl
  refine Code.wp_mono (fun ex a' w' hc => ?_) (h X e _ w r)
  have fin : ∀ (e' : Env) (st' : St), Rel X fn.ntmps e' st' a' w' → (∃ k cells rest, resA T st' fn.results.toList = some (.bp k 0) ∧ takeCh k st'.c = some (.box k t cells, rest) ∧ AV.imm.immL cells = true ∧ post cells) →
      a'.defers = [] ∧ ∃ v, (results fn a'.tmps).run P w' = .ok v w' ∧ (∃ b arr cells G', post cells ∧ Ending.returned v = .returned (.pointer (some ⟨b, 0, none⟩)) ∧ w.heap.size ≤ b ∧ b < w'.heap.size ∧
      w'.heap[b]? = some (.cells arr t (0, 0)) ∧ RepIL G' cells arr.toList ∧ (∀ o, G' b o = none) ∧ IM.le G G' ∧
      (∀ b' o v, G' b' o = some v → G b' o = some v ∨ w.heap.size ≤ b') ∧ ImOK G' w' ∧ Below w.heap.size w w') := by
    intro e' st' hr ⟨k, cells', rest, h1, hk, h3, h4⟩
    obtain ⟨v, h5, h6⟩ := resA_sound hr h1
    simp only [Rep] at h6
    obtain ⟨bs, ⟨hbs, arr', g1, g2⟩, _, hgood⟩ := (hr.heap.perm (takeCh_perm hk)).head
    obtain ⟨q1, q2, q3⟩ := hgood (e'.μ k) (by rw [hbs]; simp)
    refine ⟨hr.defers, v, h5, e'.μ k, arr', cells', e'.G, h4, by rw [h6], ?_, q1, g1, RepL.toI cells' h3 g2, q3, hr.le, ?_, hr.im, ⟨hr.os, hr.tape, hr.output, hr.sz, fun b hb => hr.keep b hb (by simp [X])⟩⟩
    · rcases q2 with h | h
      · exact h
      · simp [X] at h
    · intro b' o v hv
      rcases hr.new b' o v hv with h | h | h
      · exact .inl h
      · exact .inr h
      · simp [X] at h
  cases ex with
  | normal => obtain ⟨e', st', h1, h2⟩ := hc; exact fin e' st' h1 h2
  | ret => obtain ⟨e', st', h1, h2⟩ := hc; exact fin e' st' h1 h2
  | exit id => obtain ⟨e', st', h1, h2⟩ := hc; exact h2.elim
  | goto l => obtain ⟨e', st', h1, h2⟩ := hc; exact h2.elim
  | panic ch => exact hc.elim
  | outgrown => exact hc.elim

theorem map_eval (args : Array Operand) (a : Act) : args.map a.eval = (args.toList.map a.eval).toArray := by
  apply Array.ext'; simp

/-- A call that may change the cells behind its first argument. -/
theorem O_callBox {f : FuncId} {dst : Nat} {args : Array Operand} {tys : Array TypeId} {ty : TypeId} {pos : String} {aft : Array Edge} {gd : Option (Nat × Bool)} {rest : List Oper} {cells avs : List AV} {post : AV → List AV → Prop}
    {s : List (Nat × AV)} {c cr : List Ch} {k : Nat} {t : TypeId} {x0 : Operand} {xs : List Operand} (hf : FnBox P f t cells avs post) (hg : guardA ops ⟨s, c⟩ ⟨some dst, .call ⟨.value (.func f), args, tys⟩, ty, pos, aft, gd⟩ = some true)
    (harg : args.toList = x0 :: xs) (h0 : opd s x0 = some (.bp k 0)) (hk : takeCh k c = some (.box k t cells, cr)) (hcimm : AV.imm.immL cells = true) (ha : opds s xs = some avs) (himm : AV.imm.immL avs = true) (hd : Nat.blt dst n = true)
    (kk : ∀ r cells', post r cells' → SymO X n ops rest ⟨(dst, r) :: s, .box k t cells' :: cr⟩ K) :
    SymO X n ops (⟨some dst, .call ⟨.value (.func f), args, tys⟩, ty, pos, aft, gd⟩ :: rest) ⟨s, c⟩ K := by
  intro e a w Q r hq
  unfold wpList
  rw [if_pos (guardA_sound r hg)]
  refine .inl ?_
  unfold Oper.wp
  rw [run_call hf.1 a.eval rfl w, Oper.upon_enter]
  have h1 := RepT.toI avs himm (opds_sound r ha)
  have hh := r.heap.perm (takeCh_perm hk)
  obtain ⟨bs, ⟨hbs, arr, c1, c2⟩, _, hgood⟩ := hh.head
  have hgb := hgood (e.μ k) (by rw [hbs]; simp)
  have hp := opd_sound r h0
  simp only [Rep] at hp
  have h2 := hf.2 e.G w (e.μ k) arr _ r.im c1 (RepL.toI cells hcimm c2) hgb.2.2 h1
  rw [map_eval, harg, List.map_cons, hp]
  refine h2.mono ?_
  rintro en w' ⟨rv, cr', cells', arr', G', hpost, rfl, g1, g2, g3, g4, d1, d2, o1, o2, o3, o4, o5⟩
  have hG'b : ∀ o, G' (e.μ k) o = none := fun o => by
    cases hx : G' (e.μ k) o with
    | none => rfl
    | some v =>
      rcases g3 _ o v hx with h | h
      · rw [hgb.2.2 o] at h; cases h
      · have := hgb.1; omega
  have r' : Rel X n ⟨G', e.μ, e.hd⟩ ⟨s, .box k t cells' :: cr⟩ a w' :=
    { defers := r.defers
      size := r.size
      slots := fun i x hx => by
        obtain ⟨v, q1, q2⟩ := r.slots i x hx
        exact ⟨v, q1, Rep.mono (e := e) (f := ⟨G', e.μ, e.hd⟩) g2 x (fun _ _ => ⟨rfl, rfl⟩) q2⟩
      im := g4
      heap := by
        refine HeapOK.update hh g2 (fun _ _ _ _ => ⟨rfl, rfl⟩) ?_ o4 (fun b o hb hnin h0 => ?_)
        · intro bs' hc _ hg
          obtain ⟨rfl, _⟩ := hc
          refine ⟨fun b hb hne => o5 b hb (by simpa using hne), [e.μ k], ⟨rfl, arr', d1, RepIL.toRep (e := ⟨G', e.μ, e.hd⟩) cells' d2⟩, by simp, fun b hb => .inl hb, fun b hb => ?_⟩
          simp only [List.mem_singleton] at hb
          subst hb
          exact ⟨by have := hgb.1; omega, hgb.2.1, hG'b⟩
        · cases hx : G' b o with
          | none => exact hx
          | some v =>
            rcases g3 b o v hx with h | h
            · rw [h0] at h; cases h
            · omega
      le := IM.le_trans r.le g2
      new := fun b o v hv => by
        rcases g3 b o v hv with h | h
        · exact r.new b o v h
        · exact .inr (.inl (Nat.le_trans r.sz h))
      os := o1.trans r.os
      tape := o2.trans r.tape
      output := o3.trans r.output
      sz := Nat.le_trans r.sz o4
      keep := fun b hb hbs => by
        rw [o5 b (Nat.lt_of_lt_of_le hb r.sz)]
        · exact r.keep b hb hbs
        · intro he
          subst he
          rcases hgb.2.1 with h | h
          · omega
          · exact hbs h
      fix := r.fix }
  exact kk rv cells' hpost _ _ w' Q (r'.put (x := rv) (v := cr') hd (RepI.toRep (e := ⟨G', e.μ, e.hd⟩) rv g1)) hq

/-- A call that gives a pointer to new cells. -/
theorem O_callNew {f : FuncId} {dst : Nat} {args : Array Operand} {tys : Array TypeId} {ty : TypeId} {pos : String} {aft : Array Edge} {gd : Option (Nat × Bool)} {rest : List Oper} {avs : List AV} {post : List AV → Prop}
    {s : List (Nat × AV)} {c : List Ch} {t : TypeId} (hf : FnNew P f t avs post) (hg : guardA ops ⟨s, c⟩ ⟨some dst, .call ⟨.value (.func f), args, tys⟩, ty, pos, aft, gd⟩ = some true)
    (ha : opds s args.toList = some avs) (himm : AV.imm.immL avs = true) (hd : Nat.blt dst n = true) (hfs : freshS dst s = true) (hfc : freshC dst c = true)
    (kk : ∀ cells, post cells → AV.no.noL dst cells = true → SymO X n ops rest ⟨(dst, .bp dst 0) :: s, .box dst t cells :: c⟩ K) (hno : ∀ cells, post cells → AV.no.noL dst cells = true) :
    SymO X n ops (⟨some dst, .call ⟨.value (.func f), args, tys⟩, ty, pos, aft, gd⟩ :: rest) ⟨s, c⟩ K := by
  intro e a w Q r hq
  unfold wpList
  rw [if_pos (guardA_sound r hg)]
  refine .inl ?_
  unfold Oper.wp
  rw [run_call hf.1 a.eval rfl w, Oper.upon_enter]
  have h1 := RepT.toI avs himm (opds_sound r ha)
  have h2 := hf.2 e.G w _ r.im h1
  rw [map_eval]
  refine h2.mono ?_
  rintro en w' ⟨b, arr, cells, G', hpost, rfl, b1, b2, b3, b4, b5, g2, g3, g4, g5⟩
  have hid : ∀ (k : Nat), k ≠ dst → upd e.μ dst b k = e.μ k := fun k hk => by simp [upd, hk]
  have hnod : ∀ {x : AV}, x.no dst = true → ∀ j, x.no j = false → j ≠ dst := fun hx j hj he => by subst he; rw [hx] at hj; cases hj
  have r' : Rel X n ⟨G', upd e.μ dst b, e.hd⟩ ⟨s, .box dst t cells :: c⟩ a w' :=
    { defers := r.defers
      size := r.size
      slots := fun i x hx => by
        obtain ⟨v, q1, q2⟩ := r.slots i x hx
        exact ⟨v, q1, Rep.mono (e := e) (f := ⟨G', upd e.μ dst b, e.hd⟩) g2 x (fun j hj => ⟨hid j (hnod (freshS_get hfs i x hx) j hj), rfl⟩) q2⟩
      im := g4
      heap := by
        refine HeapOK.push r.heap g2 (fun x hcm j hj => ⟨hid j ?_, rfl⟩) (fun k hk => g5.block k hk) (bs' := [b]) ?_ (by simp) (by simpa using b1) ?_ g5.size (fun b' o hb h0 => ?_)
        · intro he; subst he; rw [freshC_mem hfc x hcm] at hj; cases hj
        · exact ⟨by simp [upd], arr, by simpa [upd] using b3, RepIL.toRep (e := ⟨G', upd e.μ dst b, e.hd⟩) cells b4⟩
        · intro x hx
          simp only [List.mem_singleton] at hx
          subst hx
          exact ⟨b2, .inl (Nat.le_trans r.sz b1), b5⟩
        · cases hx : G' b' o with
          | none => exact hx
          | some v =>
            rcases g3 b' o v hx with h | h
            · rw [h0] at h; cases h
            · omega
      le := IM.le_trans r.le g2
      new := fun b o v hv => by
        rcases g3 b o v hv with h | h
        · exact r.new b o v h
        · exact .inr (.inl (Nat.le_trans r.sz h))
      os := g5.os.trans r.os
      tape := g5.tape.trans r.tape
      output := g5.output.trans r.output
      sz := Nat.le_trans r.sz g5.size
      keep := fun b hb hbs => (g5.block b (Nat.lt_of_lt_of_le hb r.sz)).trans (r.keep b hb hbs)
      fix := fun k hk => by
        rw [show (⟨G', upd e.μ dst b, e.hd⟩ : Env).μ k = e.μ k from hid k (by simp [Nat.blt] at hd; omega)]
        exact r.fix k hk }
  exact kk cells hpost (hno cells hpost) _ _ w' Q (r'.put (x := .bp dst 0) (v := .pointer (some ⟨b, 0, none⟩)) hd (by simp [Rep, upd])) hq

theorem run_equalIn_ptrnil {t el : TypeId} (h : P.underlying t = some (.pointer el)) (ad : Addr) (w : World) (d : Nat) : (Op.equalIn (d + 1) t (.pointer (some ad)) (.pointer none)).run P w = .ok false w := by
  simp [Op.equalIn, run_underlying h]
theorem run_equal_ptrnil {t el : TypeId} (h : P.underlying t = some (.pointer el)) (ad : Addr) (w : World) : (Op.equal t (.pointer (some ad)) (.pointer none)).run P w = .ok false w :=
  run_equalIn_ptrnil h ad w 9999

/-- Is a pointer nil? -/
theorem O_isnil {t el : TypeId} {y : Operand} {d u k o : Nat} {ty : TypeId} {pos : String} {aft : Array Edge} {gd : Option (Nat × Bool)} {rest : List Oper} {s : List (Nat × AV)} {c : List Ch} (hP : P.underlying t = some (.pointer el))
    (hg : guardA ops ⟨s, c⟩ ⟨some d, .binOp .eql t y (.const (.pointer none)) u, ty, pos, aft, gd⟩ = some true) (hy : opd s y = some (.bp k o)) (hd : Nat.blt d n = true)
    (kk : SymO X n ops rest ⟨(d, B false) :: s, c⟩ K) : SymO X n ops (⟨some d, .binOp .eql t y (.const (.pointer none)) u, ty, pos, aft, gd⟩ :: rest) ⟨s, c⟩ K := by
  intro e a w Q r hq
  unfold wpList
  rw [if_pos (guardA_sound r hg)]
  refine .inl ?_
  have h1 := opd_sound r hy
  simp only [Rep] at h1
  have hrun : (execOp a.eval ⟨some d, .binOp .eql t y (.const (.pointer none)) u, ty, pos, aft, gd⟩).run P w = .ok (.value (.bool false)) w := by
    have h2 : a.eval (.const (.pointer none)) = .pointer none := rfl
    have he := run_equal_ptrnil hP ⟨e.μ k, o, none⟩ w
    simp only [execOp, h1, h2]
    simp [eqGuard, binOp, he]
  unfold Oper.wp
  rw [hrun]
  exact kk _ _ _ Q (r.put hd (by simp [Rep])) hq

/-! ### Function values -/
def cloRP (f : FuncId) (caps : List AV) : RP :=
  { R := fun G y => ∃ vs : Array Value, y = .func (.func f) #[] vs ∧ RepIT G caps vs.toList
    mono := by
      rintro G H h v ⟨vs, e, r⟩
      exact ⟨vs, e, RepIT.mono h caps r⟩
    one := by
      rintro G v ⟨vs, e, r⟩
      subst e; rfl }

def IsClo (x : AV) (f : FuncId) (caps : List AV) : Prop := ∀ G y, RepI G x y → ∃ vs : Array Value, y = .func (.func f) #[] vs ∧ RepIT G caps vs.toList
theorem isClo_func (f : FuncId) : IsClo (.v (.func (.func f) #[] #[])) f [] := fun G y h => by
  simp only [RepI] at h
  exact ⟨#[], h, by simp [RepIT]⟩
theorem isClo_p (f : FuncId) (caps : List AV) : IsClo (.p (cloRP f caps)) f caps := fun G y h => by
  simp only [RepI] at h
  exact h

/-- A function literal with what it holds. -/
theorem O_makeFunc {f : FuncId} {caps : Array Operand} {cavs : List AV} {d : Nat} {ty : TypeId} {pos : String} {aft : Array Edge} {gd : Option (Nat × Bool)} {rest : List Oper} {s : List (Nat × AV)} {c : List Ch}
    (hg : guardA ops ⟨s, c⟩ ⟨some d, .makeFunc (.func f) #[] caps, ty, pos, aft, gd⟩ = some true) (ha : opds s caps.toList = some cavs) (himm : AV.imm.immL cavs = true) (hd : Nat.blt d n = true)
    (kk : SymO X n ops rest ⟨(d, .p (cloRP f cavs)) :: s, c⟩ K) : SymO X n ops (⟨some d, .makeFunc (.func f) #[] caps, ty, pos, aft, gd⟩ :: rest) ⟨s, c⟩ K := by
  intro e a w Q r hq
  unfold wpList
  rw [if_pos (guardA_sound r hg)]
  refine .inl ?_
  have h1 := RepT.toI cavs himm (opds_sound r ha)
  have hrun : (execOp a.eval ⟨some d, .makeFunc (.func f) #[] caps, ty, pos, aft, gd⟩).run P w = .ok (.value (.func (.func f) #[] (caps.map a.eval))) w := by
    simp [execOp, Instr.makeFunc]
  unfold Oper.wp
  rw [hrun]
  exact kk _ _ _ Q (r.put hd (by simp only [Rep]; exact ⟨_, rfl, by rw [map_eval]; exact h1⟩)) hq

theorem run_callV {f : FuncId} (hc : Callable P f) {dst : Option Tmp} {x : Operand} {args : Array Operand} {tys : Array TypeId} {ty : TypeId} {pos : String} {aft : Array Edge} {gd : Option (Nat × Bool)} (ρ : Operand → Value)
    {vs : Array Value} (hρ : ρ x = .func (.func f) #[] vs) (w : World) :
    (execOp ρ ⟨dst, .call ⟨.value x, args, tys⟩, ty, pos, aft, gd⟩).run P w = .ok (.enter f (args.map ρ ++ vs)) w := by
  obtain ⟨fn, h1, h2, h3⟩ := hc
  simp only [execOp, resolve, hρ, Deferred.ofValue, Sem.run_bind, Sem.run_pure, Result.andThen_ok, invoke]
  have h4 : ¬ fn.body = none := by intro h; simp [h] at h2
  have h5 : ¬ fn.name = "runtime.NumGoroutine" := by simpa using h3
  simp [callFunc, h1, h4, h5]

theorem RepIT.app {G : IM} : ∀ {xs ys : List AV} {vs us : List Value}, RepIT G xs vs → RepIT G ys us → RepIT G (xs ++ ys) (vs ++ us)
  | [], ys, vs, us, h, k => by simp only [RepIT] at h; subst h; simpa using k
  | x :: xs, ys, vs, us, h, k => by
    simp only [RepIT] at h
    obtain ⟨z, zs, rfl, h1, h2⟩ := h
    simp only [List.cons_append, RepIT]
    exact ⟨z, _, rfl, h1, RepIT.app h2 k⟩

/-- A call of a function value, in a region whose order is drawn. -/
theorem D_callV {base : List (Nat × AV)} {c : List Ch} {done : Done} {f : FuncId} {xo : Operand} {fv : AV} {caps : List AV} {dst : Nat} {args : Array Operand} {tys : Array TypeId} {ty : TypeId} {pos : String} {aft : Array Edge} {gd : Option (Nat × Bool)} {rest : List Oper} {avs : List AV} {x : AV}
    (hclo : IsClo fv f caps) (hfi : fv.imm = true) (hf : FnP P f (avs ++ caps) (· = x)) (hxo : opd (availL done aft.toList base) xo = some fv)
    (hg : guardA ops ⟨availL done aft.toList base, c⟩ ⟨some dst, .call ⟨.value xo, args, tys⟩, ty, pos, aft, gd⟩ = some true) (ha : opds (availL done aft.toList base) args.toList = some avs) (himm : AV.imm.immL avs = true) (hd : Nat.blt dst n = true)
    (k : SymD X n ops base c K rest (done ++ [(some dst, x)])) :
    SymD X n ops base c K (⟨some dst, .call ⟨.value xo, args, tys⟩, ty, pos, aft, gd⟩ :: rest) done := by
  refine ⟨x, fun e a w S K' Q r hS hk => ?_, k⟩
  have r0 : Rel X n e ⟨availL done aft.toList base, c⟩ a w := r.less hS id
  rw [if_pos (guardA_sound r0 hg)]
  refine .inl ?_
  unfold Oper.wp
  obtain ⟨vs, hfv, hvs⟩ := hclo e.G _ (Rep.toI fv hfi (opd_sound r0 hxo))
  rw [run_callV hf.1 a.eval hfv w, Oper.upon_enter]
  have h1 := RepT.toI avs himm (opds_sound r0 ha)
  have h2 := hf.2 e.G w _ r.im (RepIT.app h1 hvs)
  have harr : args.map a.eval ++ vs = (args.toList.map a.eval ++ vs.toList).toArray := by
    apply Array.ext'; simp
  rw [harr]
  refine h2.mono ?_
  rintro en w' ⟨rv, cr, G', rfl, rfl, g1, g2, g3, g4, g5⟩
  exact hk _ _ _ ((r.more g2 g3 g4 g5).put (x := rv) (v := cr) hd (RepI.toRep (e := ⟨G', e.μ, e.hd⟩) rv g1))
end
end Go.Sy
