/- The walk anew, part 10: code. -/
import Derived.Test.YtkmjkicjlkchcaaGreatDoorE1
import Derived.LoopN
import Derived.Scope
import Derived.Test.YtkmjkicjlkchcaaGreatDoorChecked
import Derived.KernelRfl
set_option linter.unusedSimpArgs false
set_option linter.unusedVariables false
namespace Go.E
open Go.RowKit

section
variable {P : Program} {T : Tab} {X : Ctx P T} {n : Nat} {e : Env} {fr : Nat → Prop} {s : List (Nat × AV)} {c : List Ch} {a : Act} {w : World} {ops : Array Oper}

/-- At an end of the code the state holds; panics are as the context lets them be. -/
def conc (X : Ctx P T) (n : Nat) (Q : Exit → St → Prop) : Exit → Act → World → Prop
  | .panic ch, a, w => a.defers = X.dfr ∧ X.pan ch a w
  | .outgrown, _, _ => False
  | ex, a, w => ∃ e st, Rel X n e (· ∉ st.N) st.s st.c a w ∧ Q ex st
abbrev concX (X : Ctx P T) (n : Nat) (Q : Exit → St → Prop) : QX X := ⟨conc X n Q, fun _ _ _ hd h => ⟨hd, h⟩⟩

def SymC (X : Ctx P T) (n : Nat) (c : Code) (st : St) (Q : Exit → St → Prop) : Prop :=
  ∀ e a w, Rel X n e (· ∉ st.N) st.s st.c a w → c.wp P (conc X n Q) a w

theorem MemOK.drew (m : MemOK X e fr c w) {d : Nat} : MemOK X e fr c { w with drawn := d } :=
  { m with heap := (by obtain ⟨F, h1, h2⟩ := m.heap; exact ⟨F, SepOK.keep (w := w) (w' := { w with drawn := d }) (Env.le_refl e) (fun _ _ _ => rfl) h1, h2⟩), im := m.im, keep := m.keep, os := m.os, tape := m.tape, output := m.output, sz := m.sz }

theorem do_region {id : Nat} {draw : Bool} {st : St} {Q : Exit → St → Prop} (h : DoR X n ops draw (fun s c N => Q .normal ⟨s, c, N⟩) ops.toList [] st.s st.c st.N) : SymC X n (.region id ops draw) st Q := by
  intro e a w r
  obtain ⟨l, sf, cf, Nf, sk, ck, k1, k2, k3, k4, k5, k6, k7, _, k7', k9, k8⟩ := h.run (i := 0) (fun j => by simp)
  have hq : ∀ e' a' w', Rel X n e' (fun k => k ∉ st.N ∧ k ∉ nsL l) sf cf a' w' → (concX X n Q).1 .normal a' w' := fun e' a' w' r' => ⟨e', ⟨sk, ck, Nf⟩, (r'.fr_le k7).less (u := []) k7' k9, k8⟩
  cases draw with
  | false =>
    have := k1.list (Q := concX X n Q) r k4 k5 hq
    rw [k3] at this
    exact wp_region_list this
  | true =>
    have hk6 := k6 rfl
    simp only [List.nil_append, chkD, Bool.and_eq_true] at hk6
    refine wp_region_any X.wide ?_
    have r' : Rel X n e (· ∉ st.N) st.s st.c a { w with drawn := w.drawn + 1 } := ⟨r.defers, r.size, r.slots, r.mem.drew⟩
    have hlen : l.length = ops.size := by have := congrArg List.length k2; simpa using this
    refine Run.any hk6.1 (Q := concX X n Q) ops.size (Array.replicate ops.size false) k1 r' k4 k5 (by simp) (fun i hi => ?_) ?_ (fun i hi => ?_) (pairsOK_spec (by rw [k2, hlen]; simp) hk6.2) hlen hq
    · rw [k2]; simp [hi]
    · rw [k2]; exact List.pairwise_lt_range'
    · exfalso
      rw [Array.getD_eq_getD_getElem?, Array.getElem?_replicate] at hi
      split at hi <;> cases hi

variable {st : St} {Q : Exit → St → Prop}
theorem C_seq {x y : Code} (h : SymC X n x st (fun ex s => match ex with
    | .normal => SymC X n y s Q
    | ex => Q ex s)) : SymC X n (.seq x y) st Q := by
  intro e a w r
  refine wp_seq (Code.wp_mono (fun ex a' w' hc => ?_) (h e a w r))
  cases ex with
  | normal => obtain ⟨e', st', h1, h2⟩ := hc; exact h2 e' a' w' h1
  | _ => exact hc
theorem C_block {id : Nat} {c : Code} (h : SymC X n c st (fun ex s => match ex with
    | .exit j => (match Nat.beq j id with
      | true => Q .normal s
      | false => Q (.exit j) s)
    | ex => Q ex s)) : SymC X n (.block id c) st Q := by
  intro e a w r
  refine wp_block (Code.wp_mono (fun ex a' w' hc => ?_) (h e a w r))
  cases ex with
  | exit j =>
    obtain ⟨e', st', h1, h2⟩ := hc
    simp only [Exit.inBlock]
    by_cases hj : j = id
    · subst hj
      simp only [Nat.beq_refl] at h2
      rw [if_pos rfl]
      exact ⟨e', st', h1, h2⟩
    · rw [if_neg hj]
      have : Nat.beq j id = false := by
        cases hb : Nat.beq j id
        · rfl
        · exact absurd (Nat.eq_of_beq_eq_true hb) hj
      simp only [this] at h2
      exact ⟨e', st', h1, h2⟩
  | _ => exact hc
theorem C_if {q : Operand} {x y : Code} {b : Bool} (hb : opd st.s q = some (.v (.bool b))) (ht : b = true → SymC X n x st Q) (hf : b = false → SymC X n y st Q) : SymC X n (.cond q x y) st Q := by
  intro e a w r
  have := opd_sound r hb
  simp only [Rep] at this
  exact wp_cond_split this (fun h => ht h e a w r) (fun h => hf h e a w r)
theorem SymC.mono {c : Code} {Q' : Exit → St → Prop} (h : SymC X n c st Q) (hq : ∀ ex s, Q ex s → Q' ex s) : SymC X n c st Q' := by
  intro e a w r
  refine Code.wp_mono (fun ex a' w' hc => ?_) (h e a w r)
  cases ex <;> first | exact hc | (obtain ⟨e', st', h1, h2⟩ := hc; exact ⟨e', st', h1, hq _ _ h2⟩)

/-- One step of code. -/
def stepC (X : Ctx P T) (n : Nat) (Q : Exit → St → Prop) (st : St) : Code → Option Prop
  | .skip => some (Q .normal st)
  | .label _ => some (Q .normal st)
  | .ret => some (Q .ret st)
  | .exit id => some (Q (.exit id) st)
  | .seq x y => some (SymC X n x st (fun ex s => match ex with
    | .normal => SymC X n y s Q
    | ex => Q ex s))
  | .block id c => some (SymC X n c st (fun ex s => match ex with
    | .exit j => (match Nat.beq j id with
      | true => Q .normal s
      | false => Q (.exit j) s)
    | ex => Q ex s))
  | .region _ ops draw => (match st with
    | ⟨s, c, N⟩ => some (DoR X n ops draw (fun s c N => Q .normal ⟨s, c, N⟩) ops.toList [] s c N))
  | .cond q x y => (match opd st.s q with
    | some (.v (.bool true)) => some (SymC X n x st Q)
    | some (.v (.bool false)) => some (SymC X n y st Q)
    | _ => none)
  | _ => none
theorem sc {c : Code} {p : Prop} (h : stepC X n Q st c = some p) (hp : p) : SymC X n c st Q := by
  cases c with
  | skip => cases h; exact fun e _ _ r => wp_skip ⟨e, st, r, hp⟩
  | label l => cases h; exact fun e _ _ r => wp_label ⟨e, st, r, hp⟩
  | ret => cases h; exact fun e _ _ r => wp_ret ⟨e, st, r, hp⟩
  | exit id => cases h; exact fun e _ _ r => wp_exit ⟨e, st, r, hp⟩
  | seq x y => cases h; exact C_seq hp
  | block id c => cases h; exact C_block hp
  | region id ops draw => cases h; exact do_region hp
  | cond q x y =>
    simp only [stepC] at h
    split at h <;> cases h
    · rename_i hq; exact C_if hq (fun _ => hp) (fun h => by cases h)
    · rename_i hq; exact C_if hq (fun h => by cases h) (fun _ => hp)
  | _ => cases h
end
end Go.E

/- The walk anew, part 11: operations of a region, one by one, reckoned. -/
set_option linter.unusedSimpArgs false
set_option linter.unusedVariables false
namespace Go.E
open Go.RowKit

/-- What operands read of the frame. -/
def rdL (s : List (Nat × AV)) : List Operand → List (Nat × AV)
  | [] => []
  | .tmp t :: r => (match get s t with
    | some x => (t, x) :: rdL s r
    | none => rdL s r)
  | _ :: r => rdL s r
def guardOp (ops : List Oper) (o : Oper) : List Operand :=
  match o.guard with
  | none => []
  | some (j, _) => match ops[j]? with
    | none => []
    | some oj => match oj.dst with
      | none => []
      | some d => [.tmp d]
/-- Is the operation's guard known? -/
def guardA (ops : List Oper) (s : List (Nat × AV)) (o : Oper) : Option Bool :=
  match o.guard with
  | none => some true
  | some (j, want) => match ops[j]? with
    | none => none
    | some oj => match oj.dst with
      | none => none
      | some d => match get s d with
        | some (.v (.bool true)) => some want
        | some (.v (.bool false)) => some (!want)
        | some (.tup []) => some false
        | _ => none
def dstOK (n : Nat) : Option Nat → Bool
  | none => true
  | some d => Nat.blt d n
def roOf (rd : List (Nat × AV)) (c : List Ch) : Op → List Ch
  | .load _ x => (match opd rd x with
    | some (.bp k _) => (match getC k c with
      | some h => [h]
      | none => [])
    | some (.ep k _ _ _) => (match getC k c with
      | some h => [h]
      | none => [])
    | _ => [])
  | _ => []
def opdP (s : List (Nat × AV)) : List (Nat × Operand) → Option (List (Nat × AV))
  | [] => some []
  | (i, o) :: r => match opd s o, opdP s r with
    | some x, some xs => some ((i, x) :: xs)
    | _, _ => none

/-- What an operation asks, gives, and does to objects. -/
structure Ef where
  g : Prop
  x : AV
  ro : List Ch
  us : List Ch
  vs : List Ch
  ns : List Nat
  c : List Ch

def chunkRow (esz : Nat) (cells : List AV) : Nat → List AV := fun i => (cells.drop (i * esz)).take esz
def baseA (zs : List Value) (n : Nat) : List AV := (List.range n).map fun j => constA (zs.getD (j % zs.length) undef)
def placeF (T : Tab) (fs : List (Nat × Nat)) : Nat → Option (Nat × Nat) := fun i => match fs[i]? with
  | some (off, ft) => (match T ft with
    | some ti => some (off, ti.size)
    | none => none)
  | none => none
def allT (T : Tab) : List (Nat × Nat) → Bool
  | [] => true
  | (_, t) :: r => match T t with
    | some _ => allT T r
    | none => false
/-- The rows of what is read as a slice, and the object in which it lies. -/
def srcA (c : List Ch) : AV → Option (Prop × Nat × Nat × (Nat → List AV) × Option Ch)
  | .sl m esz row => some (True, m, esz, row, none)
  | .own k esz i m => (match getC k c with
    | some (.vec k' esz' m' row) => (match Nat.beq esz esz' with
      | true => some (i + m ≤ m', m, esz, (fun q => row (i + q)), some (.vec k' esz' m' row))
      | false => none)
    | _ => none)
  | .v (.slice none 0 0) => some (True, 0, 1, fun _ => [], none)
  | _ => none

def eff (T : Tab) (rd : List (Nat × AV)) (c : List Ch) (dst : Option Nat) (op : Op) : Option Ef :=
  match op, dst with
  | .alloc t, some d => (match T t with
    | some i => normG (i.zero.map constA) fun z => some ⟨True, .bp d 0, [], [], [.box d z], [d], .box d z :: c⟩
    | none => none)
  | .box t x, some d => (match opd rd x with
    | some av => (match boxable av with
      | true => normG (cellsA av) fun z => some ⟨True, .bp d 0, [], [], [.box d z], [d], .box d z :: c⟩
      | false => none)
    | none => none)
  | .store t p x, none => (match T t, opd rd p, opd rd x with
    | some i, some (.bp k o), some av => (match getC k c, boxable av && Nat.beq (cellsA av).length i.size with
      | some (.box k' cells), true => (match Nat.ble (o + i.size) cells.length with
        | true => normG (splice cells o (cellsA av)) fun new => some ⟨True, .tup [], [], [.box k' cells], [.box k' new], [], setC k (.box k' new) c⟩
        | false => none)
      | _, _ => none)
    | some i, some (.ep k esz q j), some av => (match getC k c, boxable av && Nat.beq (cellsA av).length i.size with
      | some (.vec k' esz' m row), true => (match Nat.beq esz esz' && Nat.ble (j + i.size) esz && nlL (cellsA av) with
        | true => some ⟨q < m, .tup [], [], [.vec k' esz' m row], [.vec k' esz' m (fun p => if p = q then splice (row q) j (cellsA av) else row p)], [], setC k (.vec k' esz' m (fun p => if p = q then splice (row q) j (cellsA av) else row p)) c⟩
        | false => none)
      | _, _ => none)
    | _, _, _ => none)
  | .build t parts, _ => (match T t with
    | some ⟨_, _, _, zero, .struct fs⟩ => (match opdP rd parts.toList, allT T fs with
      | some ps, true => (match fillA (placeF T fs) (zero.map constA) ps with
        | some cs => some ⟨True, .agg cs, [], [], [], [], c⟩
        | none => none)
      | _, _ => none)
    | some ⟨_, _, _, zero, .arr _ el⟩ => (match opdP rd parts.toList, T el with
      | some ps, some ei => (match fillA (fun i => some (i * ei.size, ei.size)) (zero.map constA) ps with
        | some cs => some ⟨True, .agg cs, [], [], [], [], c⟩
        | none => none)
      | _, _ => none)
    | _ => none)
  | .buildSlice t len parts, some d => (match T t, opdP rd parts.toList with
    | some ⟨_, _, _, _, .slice el⟩, some ps => (match T el with
      | some ti => (match fillA (fun i => some (i * ti.size, ti.size)) (baseA ti.zero (len * ti.size)) ps, Nat.ble (len * ti.size) 16777216 && Nat.blt 0 ti.size && Nat.blt 0 (len * ti.size) with
        | some cs, true => match nlL cs with
         | false => none
         | true => some ⟨True, .own d ti.size 0 len, [], [], [.vec d ti.size len (chunkRow ti.size cs)], [d], .vec d ti.size len (chunkRow ti.size cs) :: c⟩
        | _, _ => none)
      | none => none)
    | _, _ => none)
  | .call ⟨.builtin .append, args, tys⟩, some d => (match args.toList, tys.toList with
    | [so, xo], [t, t'] => (match Nat.beq t t', T t, opd rd so, opd rd xo with
      | true, some ⟨_, _, _, _, .slice el⟩, some sv, some xv => (match T el, srcA c xv with
        | some ti, some (g2, m2, esz2, row2, r2) => (match sv, Nat.blt 0 ti.size && (Nat.beq esz2 ti.size || Nat.beq m2 0) with
          | .v (.slice none 0 0), true => some ⟨g2 ∧ m2 ≤ maxLen ∧ m2 * ti.bytes ≤ 140737488355328 ∧ ∀ q, q < m2 → (row2 q).length = ti.size, .own d ti.size 0 m2, r2.toList, [], [.vec d ti.size m2 row2], [d], .vec d ti.size m2 row2 :: c⟩
          | .own k esz i p, true => (match getC k c, Nat.beq esz ti.size && (match r2 with
              | some h => !(Nat.beq h.id k)
              | none => true) with
            | some (.vec k' esz' m row), true => (match Nat.beq esz esz' with
              | true => some ⟨g2 ∧ i + p = m ∧ p + m2 ≤ maxLen ∧ (p + m2) * ti.bytes ≤ 140737488355328 ∧ ∀ q, q < m2 → (row2 q).length = ti.size, .own d ti.size 0 (p + m2), r2.toList, [.vec k' esz' m row], [.vec d ti.size (p + m2) (appRow p (fun q => row (i + q)) row2)], [d], setC k (.vec d ti.size (p + m2) (appRow p (fun q => row (i + q)) row2)) c⟩
              | false => none)
            | _, _ => none)
          | _, _ => none)
        | _, _ => none)
      | _, _, _, _ => none)
    | _, _ => none)
  | op, _ => (match val T rd (roOf rd c op) op with
    | some (g, x) => some ⟨g, x, roOf rd c op, [], [], [], c⟩
    | none => none)
end Go.E

/- The walk anew, part 12: operations of a region, proved. -/
set_option linter.unusedSimpArgs false
set_option linter.unusedVariables false
namespace Go.E
open Go.RowKit

section
variable {P : Program} {T : Tab} {X : Ctx P T} {n : Nat} {e : Env} {fr : Nat → Prop} {s : List (Nat × AV)} {c : List Ch} {a : Act} {w : World} {ops : Array Oper}

theorem append_nil_sound {t ty el esz m2 nm : Nat} {row2 : Nat → List AV} {u : Value} {pi : TypeInfo} {z : Value} (ht : P.underlying t = some (.slice el)) (hi : P.info? el = some pi) (hz : pi.zero = some z) (hsz : pi.size = esz) (hzs : z.cells.size = esz) (hpos : 0 < esz)
    (M : MemOK X e fr c w) (hu : Src e w esz m2 row2 u) (hn : fr nm) (b1 : m2 ≤ maxLen) (b2 : m2 * pi.bytes ≤ 140737488355328) :
    ∃ e' v' w', (Builtin.append_ #[t, t] ty #[.slice none 0 0, u]).run P w = .ok v' w' ∧ Env.le e e' ∧ Rep (.own nm esz 0 m2) e' v' ∧ MemOK X e' (fun j => fr j ∧ j ≠ nm) (.vec nm esz m2 row2 :: c) w' := by
  obtain ⟨so, cc, rfl, hu⟩ := hu
  have hfree := M.free nm hn
  have hfr : ∀ q j, fr j ∧ j ≠ nm → (bind1 e nm q).μ j = none := fun q j hj => by rw [bind1_ne hj.2]; exact M.free j hj.1
  by_cases hm0 : m2 = 0
  · subst hm0
    refine ⟨bind1 e nm (0, 0, 0), _, w, run_append_zero ht hi none 0 0 so cc (Nat.le_refl _), bind1_le hfree, ?_, ?_⟩
    · simp only [Rep]; exact ⟨0, 0, 0, none, bind1_at, by omega, rfl, fun h => by omega⟩
    · refine MemOK.upd (us := []) (vs := [_]) M (bind1_le hfree) (hfr _) rfl rfl rfl (Nat.le_refl _) fun Fu hFu _ => ⟨fun _ _ _ _ => rfl, fun x o => x = 0 ∧ 0 ≤ o ∧ o < 0 + 0 * esz, SepOK.one.2 ⟨_, ⟨0, 0, 0, bind1_at, Nat.le_refl _, Nat.zero_le _, rfl, fun o _ o2 => by omega, fun q hq => by omega⟩, fun _ _ => .rfl⟩, ?_, fun _ _ _ h => .inl h⟩
      rintro x o ⟨_, _, o2⟩; omega
  · obtain ⟨sb, sof, rfl, hu2⟩ := hu.resolve_left hm0
    obtain ⟨news, n1, n2, n3, n4⟩ := rows_read hu2
    obtain ⟨v', w', r1, ⟨r2, r3⟩, r4, _⟩ := run_append_own (P := P) w w.heap.size t ty el pi z esz pi.bytes ht hi hz hsz rfl hzs hpos (.slice none 0 0) 0 [] (World.ownsRow_nil w _ el esz) ⟨sb, sof, none⟩ m2 cc news n1 n2 n3 (by omega) (by simpa using b2) (Nat.le_refl _)
    simp only [List.nil_append, Nat.zero_add] at r2 r3
    obtain ⟨g, cap, cur, rfl, c1, c2, c3, c4, c5, c6⟩ := r3.resolve_left (fun h => by omega)
    have hcell : ∀ (j : Nat) x, cur[j]? = some x → CellW w' g j x := fun j x hx => ⟨cur.size, el, by unfold atw; rw [c2]; simp [hx]⟩
    have hgs : g < w'.heap.size := (Array.getElem?_eq_some_iff.1 c2).1
    refine ⟨bind1 e nm (g, 0, cap), _, w', r1, bind1_le hfree, ?_, ?_⟩
    · simp only [Rep]; exact ⟨g, 0, cap, _, bind1_at, by omega, rfl, fun _ => by simp⟩
    · refine MemOK.upd (us := []) (vs := [_]) M (bind1_le hfree) (hfr _) r4.os r4.tape r4.output r4.size fun Fu hFu _ => ⟨fun x o hx _ => atw_of (r4.block x hx (by simp [Value.ownBlock])) o, fun x o => x = g ∧ 0 ≤ o ∧ o < 0 + cap * esz, SepOK.one.2 ⟨_, ⟨g, 0, cap, bind1_at, c3, c4, rfl, fun o _ o2 => ?_, fun q hq => ?_⟩, fun _ _ => .rfl⟩, ?_, fun _ _ _ h => .inl h⟩
      · exact ⟨cur[o]'(by omega), hcell o _ (by simp)⟩
      · have y1 := n4 q hq
        have hl := (hu2 q hq).1
        have hq2 : q * esz + esz ≤ m2 * esz := by have : (q + 1) * esz ≤ m2 * esz := Nat.mul_le_mul_right _ hq; rwa [Nat.add_mul, Nat.one_mul] at this
        refine ⟨hl, .of_repL y1 fun j y hy => ?_⟩
        have hj := (List.getElem?_eq_some_iff.1 hy).1
        rw [y1.len, hl] at hj
        rw [List.getElem?_take, if_pos hj, List.getElem?_drop, ← c6, List.getElem?_take, if_pos (by omega)] at hy
        have := hcell _ y (by simpa using hy)
        simpa using this
      · rintro x o ⟨rfl, _, _⟩
        exact ⟨.inr c1, hgs, M.fresh c1⟩

theorem rdL_get {l : List Operand} : ∀ {i x}, get (rdL s l) i = some x → get s i = some x := by
  induction l with
  | nil => intro i x h; cases h
  | cons o l ih =>
    intro i x h
    cases o with
    | tmp t =>
      simp only [rdL] at h
      split at h
      · rename_i y hy
        rw [get_cons] at h
        split at h
        · rename_i hti; subst hti; rw [hy]; exact h
        · exact ih h
      · exact ih h
    | _ => exact ih h
theorem rdL_mem {l : List Operand} : ∀ p ∈ rdL s l, get s p.1 = some p.2 := by
  induction l with
  | nil => intro p h; cases h
  | cons o l ih =>
    intro p h
    cases o with
    | tmp t =>
      simp only [rdL] at h
      split at h
      · rename_i y hy
        rcases List.mem_cons.1 h with rfl | h
        · exact hy
        · exact ih p h
      · exact ih p h
    | _ => exact ih p h

theorem guardA_sound (r : Rel X n e fr s c a w) {o : Oper} {b : Bool} (h : guardA ops.toList s o = some b) : Region.wanted o (yielded ops a.tmps) = b := by
  unfold guardA at h
  unfold Region.wanted
  split at h
  · rename_i hg
    rw [hg]; simpa using h
  · rename_i j want hg
    rw [hg]
    simp only
    split at h
    · cases h
    · rename_i oj hj
      split at h
      · cases h
      · rename_i d hd
        have hj' : ops[j]? = some oj := by simpa using hj
        have hy : ∀ x : Bool, get s d = some (.v (.bool x)) → yielded ops a.tmps j = some x := by
          intro x hx
          obtain ⟨v, h1, h2⟩ := r.slots d _ hx
          simp only [Rep] at h2
          subst h2
          simp [yielded, hj', hd, h1]
        split at h
        · rename_i hx; rw [hy _ hx]; simp only [Option.some.injEq] at h; rw [← h]; cases want <;> rfl
        · rename_i hx; rw [hy _ hx]; simp only [Option.some.injEq] at h; rw [← h]; cases want <;> rfl
        · rename_i hx
          cases h
          obtain ⟨v, h1, h2⟩ := r.slots d _ hx
          have h3 : v = .tuple #[] := by
            simp only [Rep, RepT] at h2
            obtain ⟨ys, rfl, h2⟩ := h2
            congr 1
            exact Array.toList_eq_nil_iff.1 h2
          subst h3
          simp [yielded, hj', hd, h1]
        · cases h

/-- A step of which the run is known: a value, memory turned. -/
theorem LocOK.of {r : R1} (hg : ∀ e fr c a w, Rel X n e fr r.rd c a w → Region.wanted r.o (yielded ops a.tmps) = true) (hd : dstOK n r.o.dst = true)
    (h : ∀ e fr c a w, Rel X n e fr r.rd (r.ro ++ r.us ++ c) a w → (∀ k ∈ r.ns, fr k) → ∃ v w' e', ((execOp a.eval r.o).run P w = .ok (.value v) w' ∨ (execOp a.eval r.o).run P w = .ok .skip w' ∧ r.o.dst = none) ∧
      Env.le e e' ∧ Rep r.x e' v ∧ MemOK X e' (fun k => fr k ∧ k ∉ r.ns) (r.ro ++ r.vs ++ c) w') (hrd : ∀ s, (∀ p ∈ r.rd, get s p.1 = some p.2) → ∀ i x, get r.rd i = some x → get s i = some x) : LocOK X n ops r := by
  intro e fr s c a w Q K rel hrs hns hK
  have hsub : Rel X n e fr r.rd (r.ro ++ r.us ++ c) a w := ⟨rel.defers, rel.size, fun i x hx => rel.slots i x (hrd s hrs i x hx), rel.mem⟩
  obtain ⟨v, w', e', h1, h2, h3, h4⟩ := h e fr c a w hsub hns
  unfold opWp
  rw [if_pos (hg e fr _ a w hsub)]
  have hput : Rel X n e' (fun k => fr k ∧ k ∉ r.ns) (putS r.o.dst r.x s) (r.ro ++ r.vs ++ c) (a.put r.o.dst v) w' :=
    Rel.put ⟨rel.defers, rel.size, fun i x hx => let ⟨y, y1, y2⟩ := rel.slots i x hx; ⟨y, y1, Rep.mono x h2 y2⟩, h4⟩ (fun q hq => by rw [hq] at hd; simp [dstOK, Nat.blt] at hd; omega) h3
  refine .inl ?_
  unfold Oper.wp
  rcases h1 with h1 | ⟨h1, h1'⟩
  · rw [h1]; exact hK _ _ _ hput
  · rw [h1]; rw [h1'] at hput; exact hK _ _ _ (by rw [h1']; exact hput)

theorem get_rd {l : List (Nat × AV)} : (∀ p ∈ l, get s p.1 = some p.2) → ∀ i x, get l i = some x → get s i = some x := by
  induction l with
  | nil => intro _ i x h; cases h
  | cons p l ih =>
    intro h i x hx
    obtain ⟨j, y⟩ := p
    rw [get_cons] at hx
    split at hx
    · rename_i hji; cases hx; subst hji; exact h (j, x) (by simp)
    · exact ih (fun p hp => h p (List.mem_cons_of_mem _ hp)) i x hx

theorem opdP_sound (r : Rel X n e fr s c a w) : ∀ {ps : List (Nat × Operand)} {xs : List (Nat × AV)}, opdP s ps = some xs →
    xs.length = ps.length ∧ ∀ (j : Nat) (p : Nat × AV) (q : Nat × Value), xs[j]? = some p → (ps.map fun (i, x) => (i, a.eval x))[j]? = some q → p.1 = q.1 ∧ Rep p.2 e q.2
  | [], xs, h => by simp only [opdP, Option.some.injEq] at h; subst h; simp
  | (i, o) :: ps, xs, h => by
    simp only [opdP] at h
    split at h
    · rename_i x xs' h1 h2
      cases h
      obtain ⟨g1, g2⟩ := opdP_sound r h2
      refine ⟨by simp [g1], fun j p q hp hq => ?_⟩
      cases j with
      | zero => simp at hp hq; subst hp hq; exact ⟨rfl, opd_sound r h1⟩
      | succ j => exact g2 j p q (by simpa using hp) (by simpa using hq)
    · cases h
theorem run_mapM_list {α β : Type} {g : α → Sem β} {h : α → β} : ∀ (l : List α), (∀ x ∈ l, (g x).run P w = .ok (h x) w) → (l.mapM g).run P w = .ok (l.map h) w
  | [], _ => rfl
  | x :: l, hx => by
    have ih := run_mapM_list l (fun y hy => hx y (List.mem_cons_of_mem _ hy))
    simp only [List.mapM_cons, Sem.run_bind, hx x (List.mem_cons_self ..), Result.andThen_ok, ih, Sem.run_pure, List.map_cons]
theorem run_mapM_array {α β : Type} {g : α → Sem β} {h : α → β} (l : Array α) (hx : ∀ x ∈ l, (g x).run P w = .ok (h x) w) : (l.mapM g).run P w = .ok (l.map h) w := by
  rw [Array.mapM_eq_mapM_toList, Sem.run_map, run_mapM_list l.toList (fun x hm => hx x (by simpa using hm))]
  simp only [Result.andThen_ok]
  congr 1
  apply Array.ext'
  simp
theorem run_places (fields : Array Field) (h : ∀ f ∈ fields, (P.info? f.type).isSome = true) :
    (fields.mapM fun f => (do pure (f.offset, ← sizeOf f.type) : Sem (Nat × Nat))).run P w = .ok (fields.map fun f => (f.offset, P.cellsOf f.type)) w := by
  refine run_mapM_array fields (fun f hf => ?_)
  obtain ⟨fi, hfi⟩ := Option.isSome_iff_exists.1 (h f hf)
  simp [sizeOf, typeInfo, hfi, Program.cellsOf]
theorem allT_spec {l : List (Nat × Nat)} (h : allT T l = true) : ∀ p ∈ l, ∃ i, T p.2 = some i := by
  induction l with
  | nil => intro p hp; cases hp
  | cons q l ih =>
    obtain ⟨o, t⟩ := q
    simp only [allT] at h
    split at h
    · rename_i i hi
      intro p hp
      rcases List.mem_cons.1 hp with rfl | hp
      · exact ⟨i, hi⟩
      · exact ih h p hp
    · cases h
theorem rows_chunk {esz m b β : Nat} {cs : List AV} {ys : List Value} (h : RepL cs e ys) (hl : cs.length = m * esz) (hc : ∀ (j : Nat) y, ys[j]? = some y → CellW w b (β + j) y) :
    ∀ i, i < m → (chunkRow esz cs i).length = esz ∧ CellsW e w b (β + i * esz) (chunkRow esz cs i) := by
  intro i hi
  have hle : i * esz + esz ≤ m * esz := by have : (i + 1) * esz ≤ m * esz := Nat.mul_le_mul_right _ hi; rwa [Nat.add_mul, Nat.one_mul] at this
  have hlen : (chunkRow esz cs i).length = esz := by simp [chunkRow]; omega
  refine ⟨hlen, fun j q hq => ?_⟩
  have hj := (List.getElem?_eq_some_iff.1 hq).1
  rw [hlen] at hj
  unfold chunkRow at hq
  rw [List.getElem?_take, if_pos hj, List.getElem?_drop] at hq
  obtain ⟨y, y1, y2, y3⟩ := h.get _ _ hq
  refine ⟨y, ?_, y2, y3⟩
  rw [Nat.add_assoc]
  exact hc _ _ y1

theorem srcA_sound {ro : List Ch} (r : Rel X n e fr s (ro ++ c) a w) {xv : AV} {g2 : Prop} {m2 esz2 : Nat} {row2 : Nat → List AV} {r2 : Option Ch} {u : Value} {cc : List Ch} (h : srcA cc xv = some (g2, m2, esz2, row2, r2)) (hg : g2) (hro : ro = r2.toList) (hx : Rep xv e u) {esz : Nat} (he : esz2 = esz ∨ m2 = 0)
    (hl : ∀ q, q < m2 → (row2 q).length = esz) : Src e w esz m2 row2 u := by
  unfold srcA at h
  split at h
  · cases h
    simp only [Rep] at hx
    obtain ⟨ao, c', rfl, _, h2⟩ := hx
    refine ⟨ao, c', rfl, ?_⟩
    rcases h2 with h2 | ⟨b, o, rfl, h2⟩
    · exact .inl h2
    · rcases he with rfl | h0
      · refine .inr ⟨b, o, rfl, fun q hq => ⟨hl q hq, fun j y hy => ?_⟩⟩
        obtain ⟨z, z1, z2, z3⟩ := (h2 q hq).get j y hy
        exact ⟨z, r.mem.im _ _ _ z1, z2, z3⟩
      · exact .inl h0
  · rename_i k esz0 i m
    split at h
    · rename_i k' esz' m' row hk
      split at h
      · rename_i hq
        cases h
        cases Nat.eq_of_beq_eq_true hq
        subst hro
        obtain ⟨F, ⟨b, β, κ, h1, h2, _, _, _, h3⟩, _⟩ := r.mem.head
        have hid := (getC_perm hk).2.2
        simp only [Ch.id] at hid
        subst hid
        simp only [Rep] at hx
        obtain ⟨b', β', κ', ao, g1, g2, rfl, g3⟩ := hx
        rw [h1] at g1; cases g1
        refine ⟨ao, _, rfl, ?_⟩
        by_cases h0 : m2 = 0
        · exact .inl h0
        · rcases he with rfl | he
          · refine .inr ⟨b, β + i * esz2, g3 (by omega), fun q hq => ⟨hl q hq, ?_⟩⟩
            have := (h3 (i + q) (by omega)).2.readable
            rwa [Nat.add_mul, ← Nat.add_assoc] at this
          · exact absurd he h0
      · cases h
    · cases h
  · cases h
    simp only [Rep] at hx
    subst hx
    exact ⟨none, 0, rfl, .inl rfl⟩
  · cases h
end
end Go.E

/- The walk anew, part 13: operations of a region, proved (the end). -/
set_option linter.unusedSimpArgs false
set_option linter.unusedVariables false
namespace Go.E
open Go.RowKit

theorem getC_del {k j : Nat} (h : j ≠ k) : ∀ {cs : List Ch} {x : Ch}, getC j cs = some x → getC j (delC k cs) = some x
  | [], x, hx => by simp [getC] at hx
  | d :: cs, x, hx => by
    simp only [delC]
    split
    · rename_i hb
      have hdk := Nat.eq_of_beq_eq_true hb
      simp only [getC] at hx
      split at hx
      · rename_i hb2
        exact absurd (Nat.eq_of_beq_eq_true hb2) (by rw [hdk]; exact Ne.symm h)
      · exact hx
    · simp only [getC] at hx ⊢
      cases hb2 : Nat.beq d.id j with
      | true => rw [hb2] at hx; exact hx
      | false => rw [hb2] at hx; exact getC_del h hx
theorem perm_ro {k : Nat} {cs : List Ch} {x : Ch} (h : getC k cs = some x) : cs.Perm ([x] ++ [] ++ delC k cs) := (getC_perm h).1
theorem perm_us {k : Nat} {cs : List Ch} {x : Ch} (h : getC k cs = some x) : cs.Perm ([] ++ [x] ++ delC k cs) := (getC_perm h).1
theorem perm_set {k : Nat} {cs : List Ch} {x : Ch} (h : getC k cs = some x) (y : Ch) : (setC k y cs).Perm ([] ++ [y] ++ delC k cs) := (getC_perm h).2.1 y

section
variable {P : Program} {T : Tab} {X : Ctx P T} {n : Nat} {ops : Array Oper}

theorem srcA_get {cs : List Ch} {xv : AV} {g : Prop} {m esz : Nat} {row : Nat → List AV} {h : Ch} (hs : srcA cs xv = some (g, m, esz, row, some h)) : getC h.id cs = some h := by
  unfold srcA at hs
  split at hs
  · cases hs
  · split at hs
    · rename_i hk
      split at hs <;> cases hs
      rw [(getC_perm hk).2.2]; exact hk
    · cases hs
  · cases hs
  · cases hs

theorem eff_sound {o : Oper} {s : List (Nat × AV)} {rd : List (Nat × AV)} {cs : List Ch} {E : Ef} (hrd : ∀ p ∈ rd, get s p.1 = some p.2) (hw : ∀ e fr c a w, Rel X n e fr rd c a w → Region.wanted o (yielded ops a.tmps) = true) (hd : dstOK n o.dst = true)
    {dn : Option Nat} (hdn : dn = none → o.dst = none) (h : eff T rd cs dn o.op = some E) (hg : E.g) : LocOK X n ops ⟨o, rd, E.ro, E.us, E.vs, E.ns, E.x⟩ ∧ ∃ cr, cs.Perm (E.ro ++ E.us ++ cr) ∧ E.c.Perm (E.ro ++ E.vs ++ cr) := by
  obtain ⟨dst, op, ty, pos, aft, gd⟩ := o
  simp only at h hd hdn
  have hT := X.ok
  have mk : ∀ {ro us vs ns x}, (∀ e fr c a w, Rel X n e fr rd (ro ++ us ++ c) a w → (∀ k ∈ ns, fr k) → ∃ v w' e', ((execOp a.eval ⟨dst, op, ty, pos, aft, gd⟩).run P w = .ok (.value v) w' ∨ (execOp a.eval ⟨dst, op, ty, pos, aft, gd⟩).run P w = .ok .skip w' ∧ dst = none) ∧
      Env.le e e' ∧ Rep x e' v ∧ MemOK X e' (fun k => fr k ∧ k ∉ ns) (ro ++ vs ++ c) w') → LocOK X n ops ⟨⟨dst, op, ty, pos, aft, gd⟩, rd, ro, us, vs, ns, x⟩ :=
    fun hh => LocOK.of (r := ⟨_, rd, _, _, _, _, _⟩) hw hd hh (fun s' hs => get_rd hs)
  have newbox : ∀ {d : Nat} {cells : List AV}, (∀ e fr c a w, Rel X n e fr rd c a w → ∃ arr t, RepL cells e arr.toList ∧ (execOp a.eval ⟨dst, op, ty, pos, aft, gd⟩).run P w = .ok (.value (.pointer (some ⟨w.heap.size, 0, none⟩))) (w.alloc (.cells arr t))) →
      LocOK X n ops ⟨⟨dst, op, ty, pos, aft, gd⟩, rd, [], [], [.box d cells], [d], .bp d 0⟩ := fun {d cells} hh => mk fun e fr c a w r hns => by
    obtain ⟨arr, t, h1, h2⟩ := hh e fr c a w (by simpa using r)
    have hfr := hns d (by simp)
    refine ⟨_, _, bind1 e d (w.heap.size, 0, 0), .inl h2, bind1_le (r.mem.free d hfr), by simp only [Rep]; exact ⟨w.heap.size, 0, 0, bind1_at, by simp⟩, ?_⟩
    have hb := Go.heap_alloc_new w (.cells arr t)
    have := MemOK.alloc (κ := 0) (ob := .cells arr t) (x := .box d cells) (F := fun x o => x = w.heap.size ∧ 0 ≤ o ∧ o < 0 + cells.length) r.mem hfr ⟨w.heap.size, 0, 0, bind1_at, rfl, fun j q hq => ?_⟩ (fun b o hb => hb.1)
    · exact this.fr_le fun k hk => ⟨hk.1, by simpa using hk.2⟩
    · obtain ⟨z, z1, z2, z3⟩ := h1.get j q hq
      refine ⟨z, ⟨arr.size, t, ?_⟩, Rep.mono q (bind1_le (r.mem.free d hfr)) z2, z3⟩
      unfold atw; rw [hb]; simpa using z1
  have stay : ∀ {x}, (∀ e fr c a w, Rel X n e fr rd c a w → ∃ v, Rep x e v ∧ (execOp a.eval ⟨dst, op, ty, pos, aft, gd⟩).run P w = .ok (.value v) w) → LocOK X n ops ⟨⟨dst, op, ty, pos, aft, gd⟩, rd, [], [], [], [], x⟩ :=
    fun hh => mk fun e fr c a w r hns => by
      obtain ⟨v, h1, h2⟩ := hh e fr _ a w r
      exact ⟨v, w, e, .inl h2, Env.le_refl e, h1, r.mem.fr_le fun k hk => hk.1⟩
  unfold eff at h
  split at h
  · -- alloc
    rename_i t d
    split at h
    · rename_i i hi
      rw [normG_eq] at h
      cases h
      obtain ⟨pi, z, g1, g2, g3, g4, g5, g6, g7⟩ := (hT _ _ hi).info
      refine ⟨newbox fun e fr c a w r => ⟨z.cells, t, by rw [g5]; exact zero_sound e g6, ?_⟩, cs, .refl _, .refl _⟩
      simp [execOp, Instr.alloc, zeroValue, typeInfo, g1, g4, newVar, newRow]
    · cases h
  · -- box
    rename_i t x d
    split at h
    · rename_i av hx
      split at h
      · rename_i hb
        rw [normG_eq] at h
        cases h
        refine ⟨newbox fun e fr c a w r => ⟨(a.eval x).cells, t, cellsA_sound (opd_sound r hx) hb, ?_⟩, cs, .refl _, .refl _⟩
        simp [execOp, Instr.box, newVar, newRow]
      · cases h
    · cases h
  · -- store
    rename_i t p x
    have run : ∀ {a : Act} {w w' : World} {i : TI} {av : AV} {e fr c b o}, T t = some i → Rel X n e fr rd c a w → opd rd x = some av → boxable av = true → (cellsA av).length = i.size → a.eval p = .pointer (some ⟨b, o, none⟩) →
        (storeCells ⟨b, o, none⟩ (a.eval x).cells.toList).run P w = .ok () w' → (execOp a.eval ⟨none, .store t p x, ty, pos, aft, gd⟩).run P w = .ok .skip w' := by
      intro a w w' i av e fr c b o hTt r hx k1 k2 hp hst
      have hv := cellsA_sound (opd_sound r hx) k1
      have hsz : (a.eval x).cells.size = i.size := by have := hv.len; simp at this; omega
      simp only [execOp, Instr.storeAt, hp, Instr.sureAddr, Sem.run_bind, Sem.run_pure, Result.andThen_ok, storeVar, hT.size hTt, hsz]
      simp [hst]
    split at h
    · rename_i i k o av hTt hp hx
      split at h
      · rename_i k' cells hk hok
        split at h
        · rename_i hle
          rw [normG_eq] at h
          cases h
          simp only [Bool.and_eq_true] at hok
          have k2 := Nat.eq_of_beq_eq_true hok.2
          have k3 := Nat.le_of_ble_eq_true hle
          refine ⟨mk fun e fr c a w r _ => ?_, delC k cs, perm_us hk, perm_set hk _⟩
          have hid : k' = k := (getC_perm hk).2.2
          subst hid
          have hpv := opd_sound r hp
          simp only [Rep] at hpv
          obtain ⟨b, β, κ, q1, q2⟩ := hpv
          have hv := cellsA_sound (opd_sound r hx) hok.1
          obtain ⟨s1, s2⟩ := MemOK.box_write r.mem (o := o) q1 hv (by omega)
          exact ⟨.tuple #[], _, e, .inr ⟨run hTt r hx hok.1 k2 q2 s1, hdn rfl⟩, Env.le_refl e, by simp [Rep, RepT], s2.fr_le fun k hk => hk.1⟩
        · cases h
      · cases h
    · rename_i i k esz q j av hTt hp hx
      split at h
      · rename_i k' esz' m row hk hok
        split at h
        · rename_i hle
          cases h
          simp only [Bool.and_eq_true] at hok hle
          have k2 := Nat.eq_of_beq_eq_true hok.2
          have k3 := Nat.le_of_ble_eq_true hle.1.2
          cases Nat.eq_of_beq_eq_true hle.1.1
          refine ⟨mk fun e fr c a w r _ => ?_, delC k cs, perm_us hk, perm_set hk _⟩
          have hid : k' = k := (getC_perm hk).2.2
          subst hid
          have hpv := opd_sound r hp
          simp only [Rep] at hpv
          obtain ⟨b, β, κ, q1, q2⟩ := hpv
          have hv := cellsA_sound (opd_sound r hx) hok.1
          obtain ⟨s1, s2⟩ := MemOK.vec_write r.mem (i := q) (o := j) q1 (RepL.nl _ hle.2 hv) hg (by omega)
          exact ⟨.tuple #[], _, e, .inr ⟨run hTt r hx hok.1 k2 q2 s1, hdn rfl⟩, Env.le_refl e, by simp [Rep, RepT], s2.fr_le fun k hk => hk.1⟩
        · cases h
      · cases h
    · cases h
  · -- build
    rename_i t parts
    split at h
    · rename_i sz by_ ag zero fs hTt
      split at h
      · rename_i ps hps hall
        split at h <;> cases h
        rename_i cs' hcs
        obtain ⟨pi, z, g1, g2, g3, g4, g5, g6, g7⟩ := (hT _ _ hTt).info
        obtain ⟨d, e1, fields, rfl, e4⟩ := hT.und hTt
        simp only at g5 g6
        have hinfo : ∀ f ∈ fields, ∃ ti, T f.type = some ti ∧ P.cellsOf f.type = ti.size ∧ (P.info? f.type).isSome = true := by
          intro f hf
          obtain ⟨ti, hti⟩ := allT_spec hall (f.offset, f.type) (by rw [← e4]; exact List.mem_map.2 ⟨f, by simpa using hf, rfl⟩)
          obtain ⟨fi, _, q1, q2, _⟩ := (hT _ _ hti).info
          exact ⟨ti, hti, by simp [Program.cellsOf, q1, q2], by rw [q1]; rfl⟩
        have hmm := fun w : World => run_places (P := P) (w := w) fields (fun f hf => let ⟨_, _, _, h⟩ := hinfo f hf; h)
        have hplace : ∀ (i : Nat) (q : Nat × Nat), placeF T fs i = some q → (fields.map fun f => (f.offset, P.cellsOf f.type))[i]? = some q := by
          intro i q hq
          unfold placeF at hq
          split at hq
          · rename_i off ft hf
            split at hq <;> cases hq
            rename_i ti hti
            rw [← e4] at hf
            simp only [List.getElem?_map, Array.getElem?_toList, Option.map_eq_some_iff, Prod.mk.injEq] at hf
            obtain ⟨fl, k1, rfl, rfl⟩ := hf
            obtain ⟨ti', h1, h2, _⟩ := hinfo fl (Array.mem_of_getElem? k1)
            rw [hti] at h1; cases h1
            simp [k1, h2]
          · cases hq
        refine ⟨stay fun e fr c a w r => ?_, cs, .refl _, .refl _⟩
        obtain ⟨q1, q2⟩ := opdP_sound r hps
        obtain ⟨out, o1, o2, _⟩ := fill_sound (e := e) hplace ps (parts.toList.map fun (i, x) => (i, a.eval x)) _ z.cells cs' (by simp [q1]) q2 (by rw [g5]; exact zero_sound e g6) hcs
        refine ⟨.agg out, by simp only [Rep]; exact ⟨_, rfl, o2⟩, ?_⟩
        simp only [execOp, Instr.build, Sem.run_bind, zeroValue, typeInfo, run_program, Result.andThen_ok, g1, Sem.run_pure, g4, run_underlying e1, hmm, Array.toList_map]
        rw [o1]
        rfl
      · cases h
    · rename_i sz by_ ag zero len el hTt
      split at h
      · rename_i ps ei hps hei
        split at h <;> cases h
        rename_i cs' hcs
        obtain ⟨pi, z, g1, g2, g3, g4, g5, g6, g7⟩ := (hT _ _ hTt).info
        obtain ⟨d, e1, e3⟩ := hT.und hTt
        simp only [TDOK] at e3
        subst e3
        simp only at g5 g6
        refine ⟨stay fun e fr c a w r => ?_, cs, .refl _, .refl _⟩
        obtain ⟨q1, q2⟩ := opdP_sound r hps
        obtain ⟨out, o1, o2, _⟩ := fill_sound (e := e) (cp := fun i => some (i * ei.size, ei.size)) (fun _ _ h => h) ps (parts.toList.map fun (i, x) => (i, a.eval x)) _ z.cells cs' (by simp [q1]) q2 (by rw [g5]; exact zero_sound e g6) hcs
        refine ⟨.agg out, by simp only [Rep]; exact ⟨_, rfl, o2⟩, ?_⟩
        simp only [execOp, Instr.build, Sem.run_bind, zeroValue, typeInfo, run_program, Result.andThen_ok, g1, Sem.run_pure, g4, run_underlying e1, hT.size hei, Array.toList_map]
        rw [o1]
        rfl
      · cases h
    · cases h
  · -- buildSlice
    rename_i t len parts d
    split at h
    · rename_i sz by_ ag zero el ps hTt hps
      split at h
      · rename_i ti hTe
        split at h <;> try (cases h; done)
        rename_i cs' hcs hok
        split at h <;> cases h
        rename_i hnl
        simp only [Bool.and_eq_true] at hok
        have k1 := Nat.le_of_ble_eq_true hok.1.1
        have k2 : 0 < ti.size := by have := hok.1.2; simp [Nat.blt] at this; omega
        have hl0 : ¬ len * ti.size = 0 := by have := hok.2; simp only [Nat.blt] at this; have := Nat.le_of_ble_eq_true this; omega
        obtain ⟨pi, z, g1, g2, g3, g4, g5, g6, g7⟩ := (hT _ _ hTe).info
        obtain ⟨dd, e1, e3⟩ := hT.und hTt
        simp only [TDOK] at e3
        subst e3
        have hzs : z.cells.size = ti.size := by
          have : z.cells.toList.length = ti.size := by rw [g5]; exact g7
          simpa using this
        have hm : len ≤ maxLen := by
          have : len * 1 ≤ len * ti.size := Nat.mul_le_mul_left _ k2
          simp only [maxLen]; omega
        refine ⟨mk fun e fr c a w r hns => ?_, cs, .refl _, .refl _⟩
        have hfr := hns d (by simp)
        obtain ⟨q1, q2⟩ := opdP_sound r hps
        have hbase : RepL (baseA ti.zero (len * ti.size)) e ((Array.range (len * ti.size)).map (fun j => z.cells[j % z.cells.size]!)).toList := by
          refine RepL.mk (by simp [baseA]) (fun j c hc => ?_)
          unfold baseA at hc
          rw [List.getElem?_map] at hc
          have hj : j < len * ti.size := by
            rcases Nat.lt_or_ge j (len * ti.size) with h | h
            · exact h
            · rw [List.getElem?_eq_none (by simpa using h)] at hc; cases hc
          rw [List.getElem?_range hj] at hc
          simp only [Option.map_some, Option.some.injEq] at hc
          subst hc
          have hlt : j % z.cells.size < z.cells.size := Nat.mod_lt _ (by omega)
          have hge : ti.zero.getD (j % ti.zero.length) undef = z.cells[j % z.cells.size]! := by
            have hlen : ti.zero.length = z.cells.size := by rw [g7, hzs]
            rw [hlen, ← g5]
            simp [List.getD, hlt]
          refine ⟨z.cells[j % z.cells.size]!, by simp [hj], by rw [hge]; exact constA_sound e, ?_⟩
          have hmem : z.cells[j % z.cells.size]! ∈ ti.zero := by
            rw [← g5, getElem!_pos z.cells _ hlt]
            simp
          exact (List.all_eq_true.1 g6) _ hmem
        obtain ⟨out, o1, o2, o3⟩ := fill_sound (e := e) (cp := fun i => some (i * ti.size, ti.size)) (fun _ _ h => h) ps (parts.toList.map fun (i, x) => (i, a.eval x)) _ _ cs' (by simp [q1]) q2 hbase hcs
        have hcl : cs'.length = len * ti.size := by rw [o3]; simp [baseA]
        have hol : out.size = len * ti.size := by have := o2.len; simp at this; omega
        have hle := bind1_le (p := (w.heap.size, 0, len)) (r.mem.free d hfr)
        · refine ⟨.slice (some ⟨w.heap.size, 0, none⟩) len len, w.alloc (.cells out el), bind1 e d (w.heap.size, 0, len), .inl ?_, hle, ?_, ?_⟩
          · have hn0 : ¬ len * ti.size > 2 ^ 24 := by omega
            simp only [execOp, Instr.buildSlice, Sem.run_bind, run_underlying e1, Result.andThen_ok, hT.size hTe, hn0, if_false, Sem.run_pure]
            simp only [hl0, if_false, Sem.run_bind, zeroValue, typeInfo, run_program, Result.andThen_ok, g1, Sem.run_pure, g4, Array.toList_map, newRow]
            rw [o1]
            rfl
          · simp only [Rep]; exact ⟨w.heap.size, 0, len, _, bind1_at, by omega, rfl, fun _ => by simp⟩
          · have hb := Go.heap_alloc_new w (.cells out el)
            have hcell : ∀ (j : Nat) y, out.toList[j]? = some y → CellW (w.alloc (.cells out el)) w.heap.size (0 + j) y := fun j y hy => ⟨out.size, el, by unfold atw; rw [hb]; simpa using hy⟩
            have := MemOK.alloc (κ := len) (ob := .cells out el) (x := .vec d ti.size len (chunkRow ti.size cs')) (F := fun x o => x = w.heap.size ∧ 0 ≤ o ∧ o < 0 + len * ti.size) r.mem hfr
              ⟨w.heap.size, 0, len, bind1_at, Nat.le_refl _, hm, rfl, fun o _ o2' => ⟨out[o]'(by omega), by have := hcell o out[o] (by simp); simpa using this⟩, rows_chunk (e := .bare e.G) (RepL.nl cs' (e := e) hnl o2) hcl hcell⟩ (fun b o hb => hb.1)
            exact this.fr_le fun k hk => ⟨hk.1, by simpa using hk.2⟩
      · cases h
    · cases h
  · -- append
    rename_i args tys d
    split at h
    · rename_i so xo t t' hA hTy
      have hA' : args = #[so, xo] := by cases args; simpa using hA
      have hTy' : tys = #[t, t'] := by cases tys; simpa using hTy
      subst hA' hTy'
      split at h
      · rename_i sz by_ ag zero el sv xv htt hTt hs hx
        cases Nat.eq_of_beq_eq_true htt
        split at h
        · rename_i ti g2 m2 esz2 row2 r2 hTe hsrc
          obtain ⟨pi, z, i1, i2, i3, i4, i5, i6, i7⟩ := (hT _ _ hTe).info
          obtain ⟨dd, e1, e3⟩ := hT.und hTt
          simp only [TDOK] at e3
          subst e3
          have hzs : z.cells.size = ti.size := by
            have : z.cells.toList.length = ti.size := by rw [i5]; exact i7
            simpa using this
          have runs : ∀ {a : Act} {w w' : World} {v'}, (Builtin.append_ #[t, t] ty #[a.eval so, a.eval xo]).run P w = .ok v' w' → (execOp a.eval ⟨dst, .call ⟨.builtin .append, #[so, xo], #[t, t]⟩, ty, pos, aft, gd⟩).run P w = .ok (.value v') w' := by
            intro a w w' v' hr
            simp [execOp, resolve, invoke, builtin, hr, Result.andThen]
          split at h
          · rename_i hok
            cases h
            simp only [Bool.and_eq_true, Bool.or_eq_true] at hok
            have hpos : 0 < ti.size := by have := hok.1; simp [Nat.blt] at this; omega
            obtain ⟨hg1, hg2, hg3, hg4⟩ := hg
            have hperm : ∃ cr, cs.Perm (r2.toList ++ [] ++ cr) ∧ (Ch.vec d ti.size m2 row2 :: cs).Perm (r2.toList ++ [.vec d ti.size m2 row2] ++ cr) := by
              cases r2 with
              | none => exact ⟨cs, .refl _, .refl _⟩
              | some h => exact ⟨_, perm_ro (srcA_get hsrc), ((perm_ro (srcA_get hsrc)).cons _).trans (.swap _ _ _)⟩
            refine ⟨mk fun e fr c a w r hns => ?_, hperm⟩
            have hs' := opd_sound r hs
            simp only [Rep] at hs'
            have r' : Rel X n e fr rd (r2.toList ++ c) a w := by simpa using r
            have hu := srcA_sound r' hsrc hg1 rfl (opd_sound r hx) (hok.2.imp Nat.eq_of_beq_eq_true Nat.eq_of_beq_eq_true) hg4
            obtain ⟨e', v', w', k1, k2, k3, k4⟩ := append_nil_sound (ty := ty) e1 i1 i4 i2 hzs hpos r'.mem hu (hns d (by simp)) hg2 (by rw [i3]; exact hg3)
            refine ⟨v', w', e', .inl (runs (by rw [hs']; exact k1)), k2, k3, ?_⟩
            have : (Ch.vec d ti.size m2 row2 :: (r2.toList ++ c)).Perm (r2.toList ++ [.vec d ti.size m2 row2] ++ c) := by
              cases r2 with
              | none => exact .refl _
              | some h => exact .swap _ _ _
            exact (k4.perm this).fr_le fun k hk => ⟨hk.1, by simpa using hk.2⟩
          · rename_i k esz i p hok
            split at h
            · rename_i k' esz' m row hk hok2
              split at h
              · rename_i hesz
                cases h
                cases Nat.eq_of_beq_eq_true hesz
                simp only [Bool.and_eq_true, Bool.or_eq_true] at hok hok2
                have hpos : 0 < ti.size := by have := hok.1; simp [Nat.blt] at this; omega
                cases Nat.eq_of_beq_eq_true hok2.1
                obtain ⟨hg1, hg0, hg2, hg3, hg4⟩ := hg
                have hid : k' = k := (getC_perm hk).2.2
                subst hid
                have hperm : ∃ cr, cs.Perm (r2.toList ++ [.vec k' ti.size m row] ++ cr) ∧ ∀ y, (setC k' y cs).Perm (r2.toList ++ [y] ++ cr) := by
                  cases r2 with
                  | none => exact ⟨_, perm_us hk, perm_set hk⟩
                  | some h =>
                    have hne : h.id ≠ k' := by
                      intro he
                      have := hok2.2
                      simp [he] at this
                    have h2 := getC_del hne (srcA_get hsrc)
                    have h3 := (getC_perm h2).1
                    exact ⟨_, ((perm_us hk).trans (h3.cons _)).trans (.swap _ _ _), fun y => ((perm_set hk y).trans (h3.cons _)).trans (.swap _ _ _)⟩
                obtain ⟨cr, hp1, hp2⟩ := hperm
                refine ⟨mk fun e fr c a w r hns => ?_, cr, hp1, hp2 _⟩
                have r' : Rel X n e fr rd (r2.toList ++ ([.vec k' ti.size m row] ++ c)) a w := by simpa using r
                have hu := srcA_sound r' hsrc hg1 rfl (opd_sound r hx) (hok.2.imp Nat.eq_of_beq_eq_true Nat.eq_of_beq_eq_true) hg4
                have hsw : ∀ y, (r2.toList ++ [y] ++ c).Perm (y :: (r2.toList ++ c)) := fun y => by
                  cases r2 with
                  | none => exact .refl _
                  | some h => exact .swap _ _ _
                obtain ⟨e', v', w', k1, k2, k3, k4⟩ := append_sound (ty := ty) e1 i1 i4 i2 hzs hpos (r.mem.perm (hsw _)) (opd_sound r hs) hg0 hu (hns d (by simp)) hg2 (by rw [i3]; exact hg3)
                exact ⟨v', w', e', .inl (runs k1), k2, k3, (k4.perm (hsw _).symm).fr_le fun k hk => ⟨hk.1, by simpa using hk.2⟩⟩
              · cases h
            · cases h
          · cases h
        · cases h
      · cases h
    · cases h
  · -- the others
    rename_i op' hne _ _ _ _ _
    split at h <;> cases h
    rename_i g x hv
    have hro : roOf rd cs op = [] ∨ ∃ k y, roOf rd cs op = [y] ∧ getC k cs = some y := by
      unfold roOf
      split
      · split
        · split
          · rename_i hy; exact .inr ⟨_, _, rfl, hy⟩
          · exact .inl rfl
        · split
          · rename_i hy; exact .inr ⟨_, _, rfl, hy⟩
          · exact .inl rfl
        · exact .inl rfl
      · exact .inl rfl
    refine ⟨mk fun e fr c a w r _ => ?_, ?_⟩
    · have r' : Rel X n e fr rd (roOf rd cs op) a w := r.less (u := c) (fun _ _ h => h) (by simpa using List.perm_append_comm)
      obtain ⟨v, h1, h2⟩ := val_sound (o := ⟨dst, op, ty, pos, aft, gd⟩) r' hv hg
      exact ⟨v, w, e, .inl h2, Env.le_refl e, h1, r.mem.fr_le fun k hk => hk.1⟩
    · rcases hro with h0 | ⟨k, y, h0, hk⟩
      · rw [h0]; exact ⟨cs, .refl _, .refl _⟩
      · rw [h0]; exact ⟨delC k cs, perm_ro hk, perm_ro hk⟩
end
end Go.E

/- The walk anew, part 14: objects renamed; contracts; calls. -/
set_option linter.unusedSimpArgs false
set_option linter.unusedVariables false
namespace Go.E
open Go.RowKit

/-! ### Other names -/
mutual
def AV.ren (f : Nat → Nat) : AV → AV
  | .bp k o => .bp (f k) o
  | .own k esz i n => .own (f k) esz i n
  | .ep k esz i j => .ep (f k) esz i j
  | .mp k => .mp (f k)
  | .arr k off n c => .arr (f k) off n c
  | .agg cs => .agg (renL f cs)
  | .tup cs => .tup (renL f cs)
  | .clo fn a b => .clo fn (renL f a) (renL f b)
  | .ifc t x => .ifc t (x.ren f)
  | .v x => .v x
  | .s l => .s l
  | .sl n esz row => .sl n esz row
  | .cp cells => .cp cells
def renL (f : Nat → Nat) : List AV → List AV
  | [] => []
  | c :: cs => c.ren f :: renL f cs
end
mutual
/-- Are all names such? -/
def AV.lt (m : Nat → Bool) : AV → Bool
  | .bp k _ => m k
  | .own k _ _ _ => m k
  | .ep k _ _ _ => m k
  | .mp k => m k
  | .arr k _ _ _ => m k
  | .agg cs => ltL m cs
  | .tup cs => ltL m cs
  | .clo _ a b => ltL m a && ltL m b
  | .ifc _ x => x.lt m
  | _ => true
def ltL (m : Nat → Bool) : List AV → Bool
  | [] => true
  | c :: cs => c.lt m && ltL m cs
end
def Ch.ren (f : Nat → Nat) : Ch → Ch
  | .box k cells => .box (f k) (renL f cells)
  | .vec k esz n row => .vec (f k) esz n row
  | .map k es => .map (f k) es
  | .obj k o => .obj (f k) o
  | .ex k A => .ex (f k) A
def Ch.lt (m : Nat → Bool) : Ch → Bool
  | .box k cells => m k && ltL m cells
  | .vec k _ _ _ => m k
  | .map k _ => m k
  | .obj k _ => m k
  | .ex k _ => m k

theorem blt_lt {k m : Nat} (h : Nat.blt k m = true) : k < m := by simp [Nat.blt] at h; omega

mutual
theorem Rep.up {e0 e1 : Env} {f : Nat → Nat} (hG : e0.G = e1.G) (h : ∀ k p, e0.μ k = some p → e1.μ (f k) = some p) : ∀ (x : AV) {y : Value}, Rep x e0 y → Rep (x.ren f) e1 y
  | .v x, y, r => by simpa only [Rep, AV.ren] using r
  | .s l, y, r => by simpa only [Rep, AV.ren] using r
  | .sl n esz row, y, r => by simpa only [Rep, AV.ren, hG] using r
  | .cp cells, y, r => by simpa only [Rep, AV.ren, hG] using r
  | .agg cs, y, r => by
    simp only [Rep, AV.ren] at r ⊢
    obtain ⟨ys, q, r⟩ := r
    exact ⟨ys, q, RepL.up hG h cs r⟩
  | .tup cs, y, r => by
    simp only [Rep, AV.ren] at r ⊢
    obtain ⟨ys, q, r⟩ := r
    exact ⟨ys, q, RepT.up hG h cs r⟩
  | .clo fn a b, y, r => by
    simp only [Rep, AV.ren] at r ⊢
    obtain ⟨fs, vs, q, r1, r2⟩ := r
    exact ⟨fs, vs, q, RepT.up hG h a r1, RepT.up hG h b r2⟩
  | .ifc t x, y, r => by
    simp only [Rep, AV.ren] at r ⊢
    obtain ⟨v, q, r⟩ := r
    exact ⟨v, q, Rep.up hG h x r⟩
  | .bp k o, y, r => by simp only [Rep, AV.ren] at r ⊢; obtain ⟨b, β, κ, q, r⟩ := r; exact ⟨b, β, κ, h _ _ q, r⟩
  | .own k esz i n, y, r => by simp only [Rep, AV.ren] at r ⊢; obtain ⟨b, β, κ, a, q, r⟩ := r; exact ⟨b, β, κ, a, h _ _ q, r⟩
  | .ep k esz i j, y, r => by simp only [Rep, AV.ren] at r ⊢; obtain ⟨b, β, κ, q, r⟩ := r; exact ⟨b, β, κ, h _ _ q, r⟩
  | .mp k, y, r => by simp only [Rep, AV.ren] at r ⊢; obtain ⟨b, β, κ, q, r⟩ := r; exact ⟨b, β, κ, h _ _ q, r⟩
  | .arr k off n c, y, r => by simp only [Rep, AV.ren] at r ⊢; obtain ⟨b, β, κ, q, r⟩ := r; exact ⟨b, β, κ, h _ _ q, r⟩
theorem RepL.up {e0 e1 : Env} {f : Nat → Nat} (hG : e0.G = e1.G) (h : ∀ k p, e0.μ k = some p → e1.μ (f k) = some p) : ∀ (cs : List AV) {ys : List Value}, RepL cs e0 ys → RepL (renL f cs) e1 ys
  | [], ys, r => by simpa only [RepL, renL] using r
  | c :: cs, ys, r => by
    simp only [RepL, renL] at r ⊢
    obtain ⟨z, zs, q, r1, r2, r3⟩ := r
    exact ⟨z, zs, q, Rep.up hG h c r1, r2, RepL.up hG h cs r3⟩
theorem RepT.up {e0 e1 : Env} {f : Nat → Nat} (hG : e0.G = e1.G) (h : ∀ k p, e0.μ k = some p → e1.μ (f k) = some p) : ∀ (cs : List AV) {ys : List Value}, RepT cs e0 ys → RepT (renL f cs) e1 ys
  | [], ys, r => by simpa only [RepT, renL] using r
  | c :: cs, ys, r => by
    simp only [RepT, renL] at r ⊢
    obtain ⟨z, zs, q, r1, r3⟩ := r
    exact ⟨z, zs, q, Rep.up hG h c r1, RepT.up hG h cs r3⟩
end
mutual
theorem Rep.down {e0 e1 : Env} {f : Nat → Nat} {m : Nat → Bool} (hG : e0.G = e1.G) (h : ∀ k p, m k = true → e1.μ (f k) = some p → e0.μ k = some p) : ∀ (x : AV) {y : Value}, x.lt m = true → Rep (x.ren f) e1 y → Rep x e0 y
  | .v x, y, _, r => by simpa only [Rep, AV.ren] using r
  | .s l, y, _, r => by simpa only [Rep, AV.ren] using r
  | .sl n esz row, y, _, r => by simpa only [Rep, AV.ren, hG] using r
  | .cp cells, y, _, r => by simpa only [Rep, AV.ren, hG] using r
  | .agg cs, y, hl, r => by
    simp only [Rep, AV.ren] at r ⊢
    obtain ⟨ys, q, r⟩ := r
    exact ⟨ys, q, RepL.down hG h cs (by simpa only [AV.lt] using hl) r⟩
  | .tup cs, y, hl, r => by
    simp only [Rep, AV.ren] at r ⊢
    obtain ⟨ys, q, r⟩ := r
    exact ⟨ys, q, RepT.down hG h cs (by simpa only [AV.lt] using hl) r⟩
  | .clo fn a b, y, hl, r => by
    simp only [AV.lt, Bool.and_eq_true] at hl
    simp only [Rep, AV.ren] at r ⊢
    obtain ⟨fs, vs, q, r1, r2⟩ := r
    exact ⟨fs, vs, q, RepT.down hG h a hl.1 r1, RepT.down hG h b hl.2 r2⟩
  | .ifc t x, y, hl, r => by
    simp only [Rep, AV.ren] at r ⊢
    obtain ⟨v, q, r⟩ := r
    exact ⟨v, q, Rep.down hG h x (by simpa only [AV.lt] using hl) r⟩
  | .bp k o, y, hl, r => by simp only [Rep, AV.ren] at r ⊢; obtain ⟨b, β, κ, q, r⟩ := r; exact ⟨b, β, κ, h _ _ hl q, r⟩
  | .own k esz i n, y, hl, r => by simp only [Rep, AV.ren] at r ⊢; obtain ⟨b, β, κ, a, q, r⟩ := r; exact ⟨b, β, κ, a, h _ _ hl q, r⟩
  | .ep k esz i j, y, hl, r => by simp only [Rep, AV.ren] at r ⊢; obtain ⟨b, β, κ, q, r⟩ := r; exact ⟨b, β, κ, h _ _ hl q, r⟩
  | .mp k, y, hl, r => by simp only [Rep, AV.ren] at r ⊢; obtain ⟨b, β, κ, q, r⟩ := r; exact ⟨b, β, κ, h _ _ hl q, r⟩
  | .arr k off n c, y, hl, r => by simp only [Rep, AV.ren] at r ⊢; obtain ⟨b, β, κ, q, r⟩ := r; exact ⟨b, β, κ, h _ _ hl q, r⟩
theorem RepL.down {e0 e1 : Env} {f : Nat → Nat} {m : Nat → Bool} (hG : e0.G = e1.G) (h : ∀ k p, m k = true → e1.μ (f k) = some p → e0.μ k = some p) : ∀ (cs : List AV) {ys : List Value}, ltL m cs = true → RepL (renL f cs) e1 ys → RepL cs e0 ys
  | [], ys, _, r => by simpa only [RepL, renL] using r
  | c :: cs, ys, hl, r => by
    simp only [ltL, Bool.and_eq_true] at hl
    simp only [RepL, renL] at r ⊢
    obtain ⟨z, zs, q, r1, r2, r3⟩ := r
    exact ⟨z, zs, q, Rep.down hG h c hl.1 r1, r2, RepL.down hG h cs hl.2 r3⟩
theorem RepT.down {e0 e1 : Env} {f : Nat → Nat} {m : Nat → Bool} (hG : e0.G = e1.G) (h : ∀ k p, m k = true → e1.μ (f k) = some p → e0.μ k = some p) : ∀ (cs : List AV) {ys : List Value}, ltL m cs = true → RepT (renL f cs) e1 ys → RepT cs e0 ys
  | [], ys, _, r => by simpa only [RepT, renL] using r
  | c :: cs, ys, hl, r => by
    simp only [ltL, Bool.and_eq_true] at hl
    simp only [RepT, renL] at r ⊢
    obtain ⟨z, zs, q, r1, r3⟩ := r
    exact ⟨z, zs, q, Rep.down hG h c hl.1 r1, RepT.down hG h cs hl.2 r3⟩
end
theorem renL_eq {f : Nat → Nat} : ∀ {l : List AV}, renL f l = l.map (AV.ren f)
  | [] => rfl
  | x :: l => by simp only [renL, List.map_cons]; rw [renL_eq]
theorem ltL_eq {m : Nat → Bool} : ∀ {l : List AV}, ltL m l = l.all (AV.lt m)
  | [] => rfl
  | x :: l => by simp only [ltL, List.all_cons]; rw [ltL_eq]

theorem CellsW.up {e0 e1 : Env} {f : Nat → Nat} {w : World} {b β : Nat} {cells : List AV} (hG : e0.G = e1.G) (h : ∀ k p, e0.μ k = some p → e1.μ (f k) = some p) (r : CellsW e0 w b β cells) : CellsW e1 w b β (renL f cells) := fun j c hc => by
  rw [renL_eq, List.getElem?_map, Option.map_eq_some_iff] at hc
  obtain ⟨c', h1, rfl⟩ := hc
  obtain ⟨z, z1, z2, z3⟩ := r j c' h1
  exact ⟨z, z1, Rep.up hG h c' z2, z3⟩
theorem CellsW.down {e0 e1 : Env} {f : Nat → Nat} {m : Nat → Bool} {w : World} {b β : Nat} {cells : List AV} (hG : e0.G = e1.G) (h : ∀ k p, m k = true → e1.μ (f k) = some p → e0.μ k = some p) (hl : ltL m cells = true) (r : CellsW e1 w b β (renL f cells)) : CellsW e0 w b β cells := fun j c hc => by
  obtain ⟨z, z1, z2, z3⟩ := r j (c.ren f) (by rw [renL_eq, List.getElem?_map, hc]; rfl)
  rw [ltL_eq] at hl
  exact ⟨z, z1, Rep.down hG h c (List.all_eq_true.1 hl c (List.mem_of_getElem? hc)) z2, z3⟩

theorem ChOK.up {e0 e1 : Env} {f : Nat → Nat} {w : World} (hG : e0.G = e1.G) (h : ∀ k p, e0.μ k = some p → e1.μ (f k) = some p) : ∀ (c : Ch) {F : Foot}, ChOK e0 w c F → ChOK e1 w (c.ren f) F
  | .box k cells, F, ⟨b, β, κ, h1, h2, h3⟩ => ⟨b, β, κ, h _ _ h1, by rw [h2, renL_eq]; simp, h3.up hG h⟩
  | .vec k esz n row, F, ⟨b, β, κ, h1, h2, h3, h4, h5, h6⟩ => ⟨b, β, κ, h _ _ h1, h2, h3, h4, h5, by rw [← hG]; exact h6⟩
  | .map k es, F, ⟨b, β, κ, h1, h2, h3⟩ => ⟨b, β, κ, h _ _ h1, h2, by unfold MapOK; rw [← hG]; exact h3⟩
  | .obj k o, F, ⟨b, β, κ, h1, h2⟩ => ⟨b, β, κ, h _ _ h1, h2⟩
  | .ex k A, F, ⟨p, h1, h2⟩ => ⟨p, h _ _ h1, by rw [← hG]; exact h2⟩
theorem ChOK.down {e0 e1 : Env} {f : Nat → Nat} {m : Nat → Bool} {w : World} (hG : e0.G = e1.G) (h : ∀ k p, m k = true → e1.μ (f k) = some p → e0.μ k = some p) : ∀ (c : Ch) {F : Foot}, c.lt m = true → ChOK e1 w (c.ren f) F → ChOK e0 w c F
  | .box k cells, F, hl, ⟨b, β, κ, h1, h2, h3⟩ => by
    simp only [Ch.lt, Bool.and_eq_true] at hl
    exact ⟨b, β, κ, h _ _ hl.1 h1, by rw [h2, renL_eq]; simp, h3.down hG h hl.2⟩
  | .vec k esz n row, F, hl, ⟨b, β, κ, h1, h2, h3, h4, h5, h6⟩ => ⟨b, β, κ, h _ _ hl h1, h2, h3, h4, h5, by rw [hG]; exact h6⟩
  | .map k es, F, hl, ⟨b, β, κ, h1, h2, h3⟩ => ⟨b, β, κ, h _ _ hl h1, h2, by unfold MapOK; rw [hG]; exact h3⟩
  | .obj k o, F, hl, ⟨b, β, κ, h1, h2⟩ => ⟨b, β, κ, h _ _ hl h1, h2⟩
  | .ex k A, F, hl, ⟨p, h1, h2⟩ => ⟨p, h _ _ hl h1, by rw [hG]; exact h2⟩
theorem SepOK.up {e0 e1 : Env} {f : Nat → Nat} {w : World} (hG : e0.G = e1.G) (h : ∀ k p, e0.μ k = some p → e1.μ (f k) = some p) : ∀ {cs : List Ch} {F : Foot}, SepOK e0 w cs F → SepOK e1 w (cs.map (Ch.ren f)) F
  | [], F, r => r
  | c :: cs, F, ⟨F1, F2, h1, h2, h3, h4⟩ => ⟨F1, F2, h1.up hG h c, h2.up hG h, h3, h4⟩
theorem SepOK.down {e0 e1 : Env} {f : Nat → Nat} {m : Nat → Bool} {w : World} (hG : e0.G = e1.G) (h : ∀ k p, m k = true → e1.μ (f k) = some p → e0.μ k = some p) : ∀ {cs : List Ch} {F : Foot}, cs.all (Ch.lt m) = true → SepOK e1 w (cs.map (Ch.ren f)) F → SepOK e0 w cs F
  | [], F, _, r => r
  | c :: cs, F, hl, ⟨F1, F2, h1, h2, h3, h4⟩ => by
    simp only [List.all_cons, Bool.and_eq_true] at hl
    exact ⟨F1, F2, ChOK.down hG h c hl.1 h1, SepOK.down hG h hl.2 h2, h3, h4⟩

/-! ### Contracts -/
def Callable (P : Program) (f : FuncId) : Prop := ∃ fn, P.funcs[f]? = some fn ∧ fn.body.isNone = false ∧ (fn.name == "runtime.NumGoroutine") = false
/-- What a run may leave behind. -/
structure After (e e' : Env) (w w' : World) (F : Foot) : Prop where
  im : ∀ b o v, e'.G b o = some v → w'.cell? ⟨b, o, none⟩ = some v
  new : ∀ b o v, e'.G b o = some v → e.G b o = some v ∨ w.heap.size ≤ b ∨ F b o
  os : w'.os = w.os
  tape : w'.tape = w.tape
  output : w'.output = w.output
  sz : w.heap.size ≤ w'.heap.size
  keep : ∀ b o, b < w.heap.size → ¬ F b o → atw w' b o = atw w b o

/-- Called with these (objects below nA), the function gives x, and these objects (below nB) are then. What it gives does not hang on the run. -/
def FnE (P : Program) (Kn : IM) (f : FuncId) (nA : Nat) (args : List AV) (cs : List Ch) (nB : Nat) (x : AV) (cs' : List Ch) : Prop :=
  Callable P f ∧ ∀ (e : Env) (w : World) (cargs : List Value) (F : Foot), IM.le Kn e.G → (∀ b o v, e.G b o = some v → w.cell? ⟨b, o, none⟩ = some v) → RepT args e cargs → (∀ k, nA ≤ k → e.μ k = none) → (∀ k, k < nA → ∃ p, e.μ k = some p) →
    SepOK e w cs F → (∀ b o, F b o → b < w.heap.size ∧ e.G b o = none) →
    Calls P f cargs.toArray w fun en w' => ∃ cr e' F', en = .returned cr ∧ Rep x e' cr ∧ Env.le e e' ∧ (∀ k, nB ≤ k → e'.μ k = none) ∧ SepOK e' w' cs' F' ∧ (∀ b o, F' b o → (F b o ∨ w.heap.size ≤ b) ∧ b < w'.heap.size ∧ e'.G b o = none) ∧ After e e' w w' F
end Go.E

/- The walk anew, part 15: a contract from a walk; a call as a local step. -/
set_option linter.unusedSimpArgs false
set_option linter.unusedVariables false
namespace Go.E
open Go.RowKit

def enumA (i : Nat) : List AV → List (Nat × AV)
  | [] => []
  | x :: r => (i, x) :: enumA (i + 1) r
def resL (T : Tab) (s : List (Nat × AV)) (c : List Ch) : List ResultVar → Option (List AV)
  | [] => some []
  | .tmp t :: r => (match get s t, resL T s c r with
    | some x, some xs => some (x :: xs)
    | _, _ => none)
  | .cell t ty :: r => (match get s t, T ty, resL T s c r with
    | some (.bp k o), some i, some xs => (match getC k c with
      | some (.box _ cells) => (match loadA i (cells.drop o) with
        | some x => some (x :: xs)
        | none => none)
      | _ => none)
    | _, _, _ => none)
def resA (T : Tab) (s : List (Nat × AV)) (c : List Ch) (rs : List ResultVar) : Option AV :=
  match resL T s c rs with
  | some [x] => some x
  | some xs => some (.tup xs)
  | none => none

section
variable {P : Program} {T : Tab} {X : Ctx P T} {n : Nat} {e : Env} {fr : Nat → Prop} {s : List (Nat × AV)} {c : List Ch} {a : Act} {w : World} {ops : Array Oper}

def resF (tmps : Array Value) : ResultVar → Sem Value
  | .tmp t => pure (tmps.getD t undef)
  | .cell c t => do loadVar t (← asAddr (tmps.getD c undef))
theorem results_eq (fn : Func) (tmps : Array Value) : results fn tmps = (do
    let vs ← fn.results.mapM (resF tmps)
    pure (if h : vs.size = 1 then vs[0] else .tuple vs)) := by
  unfold results
  congr 1
theorem resL_sound (r : Rel X n e fr s c a w) : ∀ {rs : List ResultVar} {xs : List AV}, resL T s c rs = some xs → ∃ vs, (rs.mapM (resF a.tmps)).run P w = .ok vs w ∧ RepT xs e vs
  | [], xs, h => by simp only [resL, Option.some.injEq] at h; subst h; exact ⟨[], rfl, by simp [RepT]⟩
  | .tmp t :: rs, xs, h => by
    simp only [resL] at h
    split at h
    · rename_i x xs' h1 h2
      cases h
      obtain ⟨vs, g1, g2⟩ := resL_sound r h2
      obtain ⟨v, g3, g4⟩ := r.slots t x h1
      refine ⟨v :: vs, ?_, by simp only [RepT]; exact ⟨v, vs, rfl, g4, g2⟩⟩
      simp only [List.mapM_cons, resF, Sem.run_bind, Sem.run_pure, Result.andThen_ok, g1]
      simp [Array.getD_eq_getD_getElem?, g3]
    · cases h
  | .cell t ty :: rs, xs, h => by
    simp only [resL] at h
    split at h
    · rename_i k o i xs' h1 h2 h3
      split at h
      · rename_i k' cells hb
        split at h <;> cases h
        rename_i x hx
        obtain ⟨vs, g1, g2⟩ := resL_sound r h3
        obtain ⟨v, g3, g4⟩ := r.slots t _ h1
        obtain ⟨⟨F, ⟨b, β, κ, q1, _, q2⟩, _⟩, rfl⟩ := r.mem.get hb
        simp only [Rep] at g4
        obtain ⟨b', β', κ', q3, rfl⟩ := g4
        rw [show Ch.id (.box k' cells) = k' from rfl, q1] at q3
        cases q3
        obtain ⟨v', g6, g5⟩ := load_sound (w := w) X.ok h2 (q2.readable.drop o) hx
        refine ⟨v' :: vs, ?_, by simp only [RepT]; exact ⟨v', vs, rfl, g6, g2⟩⟩
        simp only [List.mapM_cons, resF, Sem.run_bind, Sem.run_pure, Result.andThen_ok]
        simp only [Array.getD_eq_getD_getElem?, g3, Option.getD_some, asAddr, Sem.run_pure, Result.andThen_ok, g5]
        rw [g1]
        rfl
      · cases h
    · cases h
theorem resA_sound (r : Rel X n e fr s c a w) {fn : Func} {x : AV} (h : resA T s c fn.results.toList = some x) : ∃ v, (results fn a.tmps).run P w = .ok v w ∧ Rep x e v := by
  have key : ∀ xs, resL T s c fn.results.toList = some xs → ∃ vs : List Value, (results fn a.tmps).run P w = .ok (if h : vs.toArray.size = 1 then vs.toArray[0] else .tuple vs.toArray) w ∧ RepT xs e vs := by
    intro xs hxs
    obtain ⟨vs, h1, h2⟩ := resL_sound r hxs
    refine ⟨vs, ?_, h2⟩
    rw [results_eq, Array.mapM_eq_mapM_toList]
    simp only [Sem.run_bind, Sem.run_map, h1, Result.andThen_ok, Sem.run_pure]
  unfold resA at h
  split at h
  · rename_i y hy
    cases h
    obtain ⟨vs, h1, h2⟩ := key _ hy
    simp only [RepT] at h2
    obtain ⟨z, zs, rfl, h3, rfl⟩ := h2
    exact ⟨z, by simpa using h1, h3⟩
  · rename_i xs hne hxs
    cases h
    obtain ⟨vs, h1, h2⟩ := key _ hxs
    have hl : vs.length ≠ 1 := by
      intro hv
      rw [h2.len] at hv
      match xs, hv with
      | [y], _ => exact hne y rfl
    refine ⟨.tuple vs.toArray, ?_, by simp only [Rep]; exact ⟨_, rfl, by simpa using h2⟩⟩
    rw [h1]
    simp [hl]
  · cases h

/-- What must hold where a body ends: L tells which objects are meant. -/
def EndsAt (T : Tab) (rs : Array ResultVar) (nA nB : Nat) (x : AV) (cs' : List Ch) (st : St) : Prop :=
  ∃ L : List Nat, L.length = nB ∧ (∀ k, k < nA → L[k]? = some k) ∧ resA T st.s st.c rs.toList = some (x.ren (L.getD · 0)) ∧ x.lt (Nat.blt · nB) = true ∧ cs'.all (Ch.lt (Nat.blt · nB)) = true ∧ ∃ cr, st.c.Perm (cr ++ cs'.map (Ch.ren (L.getD · 0)))
def Ends (T : Tab) (rs : Array ResultVar) (nA nB : Nat) (x : AV) (cs' : List Ch) : Exit → St → Prop
  | .normal, st => EndsAt T rs nA nB x cs' st
  | .ret, st => EndsAt T rs nA nB x cs' st
  | _, _ => False

theorem enumA_get : ∀ {xs : List AV} {vs : List Value} {i0 : Nat}, RepT xs e vs → ∀ i x, get (enumA i0 xs) i = some x → ∃ v, i0 ≤ i ∧ vs[i - i0]? = some v ∧ Rep x e v
  | [], vs, i0, _, i, x, h => by simp [enumA, get] at h
  | y :: ys, vs, i0, hr, i, x, h => by
    simp only [RepT] at hr
    obtain ⟨z, zs, rfl, h1, h2⟩ := hr
    simp only [enumA, get_cons] at h
    split at h
    · rename_i hi
      cases h
      exact ⟨z, by omega, by simp [hi], h1⟩
    · obtain ⟨v, g1, g2, g3⟩ := enumA_get h2 i x h
      refine ⟨v, by omega, ?_, g3⟩
      rw [show i - i0 = (i - (i0 + 1)) + 1 by omega]
      simpa using g2

theorem FnE.intro (ok : TabOK P T) (wide : P.follows .mixedOrders = true) {Kn : IM} {f : FuncId} {fn : Func} {cd : Code} {nA nB : Nat} {args : List AV} {cs cs' : List Ch} {x : AV} (hf : P.funcs[f]? = some fn) (hb : fn.body = some cd)
    (hn : (fn.name == "runtime.NumGoroutine") = false) (hargs : Nat.ble args.length fn.ntmps = true)
    (h : ∀ X : Ctx P T, IM.le Kn X.e0.G → (∀ k, nA ≤ k → X.e0.μ k = none) → SymC X fn.ntmps cd ⟨enumA 0 args, cs, List.range nA⟩ (Ends T fn.results nA nB x cs')) : FnE P Kn f nA args cs nB x cs' := by
  refine ⟨⟨fn, hf, by simp [hb], hn⟩, ?_⟩
  intro e w cargs F hK him hrep hnm _ hsep hF
  have hl := hrep.len
  have hargs := Nat.le_of_ble_eq_true hargs
  refine calls_of_wp hf hb ?_
  let X : Ctx P T := ⟨ok, wide, w, e, F, fun _ _ _ => False, []⟩
  have r : Rel X fn.ntmps e (· ∉ List.range nA) (enumA 0 args) cs { tmps := cargs.toArray ++ Array.replicate (fn.ntmps - cargs.toArray.size) undef, defers := [] } w :=
    { defers := rfl
      size := by simp; omega
      slots := fun i x hx => by
        obtain ⟨v, _, g2, g3⟩ := enumA_get hrep i x hx
        simp only [Nat.sub_zero] at g2
        have hi := (List.getElem?_eq_some_iff.1 g2).1
        exact ⟨v, by rw [Array.getElem?_append_left (by simpa using hi)]; simpa using g2, g3⟩
      mem := { heap := ⟨F, hsep, fun b o hb => ⟨(hF b o hb).1, .inr hb, (hF b o hb).2⟩⟩, im := him, le := Env.le_refl e, new := fun b o v hv => .inl hv, os := rfl, tape := rfl, output := rfl, sz := Nat.le_refl _, keep := fun b o _ _ => rfl, free := fun k hk => hnm k (by simpa using hk) } }
  refine Code.wp_mono (fun ex a' w' hc => ?_) (h X hK hnm e _ w r)
  have fin : ∀ (e' : Env) (st' : St), Rel X fn.ntmps e' (· ∉ st'.N) st'.s st'.c a' w' → EndsAt T fn.results nA nB x cs' st' →
      a'.defers = [] ∧ ∃ v, (results fn a'.tmps).run P w' = .ok v w' ∧ (∃ cr e' F', Ending.returned v = .returned cr ∧ Rep x e' cr ∧ Env.le e e' ∧ (∀ k, nB ≤ k → e'.μ k = none) ∧ SepOK e' w' cs' F' ∧ (∀ b o, F' b o → (F b o ∨ w.heap.size ≤ b) ∧ b < w'.heap.size ∧ e'.G b o = none) ∧ After e e' w w' F) := by
    rintro e' st' hr ⟨L, l1, l2, l3, l4, l5, cr, l6⟩
    obtain ⟨v, h4, h5⟩ := resA_sound hr l3
    let e2 : Env := ⟨e'.G, fun k => if k < nB then e'.μ (L.getD k 0) else none⟩
    have hdown : ∀ k p, Nat.blt k nB = true → e'.μ (L.getD k 0) = some p → e2.μ k = some p := fun k p hk hp => by show (if k < nB then _ else _) = _; rw [if_pos (blt_lt hk)]; exact hp
    have m2 := (hr.mem.perm l6).drop
    obtain ⟨F', f1, f2⟩ := m2.heap
    refine ⟨hr.defers, v, h4, v, e2, F', rfl, Rep.down (e0 := e2) (e1 := e') rfl hdown x l4 h5, ⟨hr.mem.le.1, fun k p hp => ?_⟩, fun k hk => if_neg (by omega), SepOK.down (e0 := e2) (e1 := e') rfl hdown l5 f1, fun b o hb => ?_, ?_⟩
    · have hkA : k < nA := by
        rcases Nat.lt_or_ge k nA with h | h
        · exact h
        · rw [hnm k h] at hp; cases hp
      have h1 := l2 k hkA
      refine hdown k p (by have := (List.getElem?_eq_some_iff.1 h1).1; simp [Nat.blt]; omega) ?_
      rw [List.getD_eq_getElem?_getD, h1]
      exact hr.mem.le.2 k p hp
    · obtain ⟨q1, q2, q3⟩ := f2 b o hb
      exact ⟨q2.symm, q1, q3⟩
    · exact ⟨hr.mem.im, hr.mem.new, hr.mem.os, hr.mem.tape, hr.mem.output, hr.mem.sz, hr.mem.keep⟩
  cases ex with
  | normal => obtain ⟨e', st', h1, h2⟩ := hc; exact fin e' st' h1 h2
  | ret => obtain ⟨e', st', h1, h2⟩ := hc; exact fin e' st' h1 h2
  | exit id => obtain ⟨e', st', h1, h2⟩ := hc; exact h2.elim
  | goto l => obtain ⟨e', st', h1, h2⟩ := hc; exact h2.elim
  | panic ch => exact hc.2.elim
  | outgrown => exact hc.elim

theorem run_call {f : FuncId} (hc : Callable P f) {dst : Option Tmp} {fo : Operand} {args : Array Operand} {tys : Array TypeId} {ty : TypeId} {pos : String} {aft : Array Edge} {gd : Option (Nat × Bool)} (ρ : Operand → Value) {fs vs : Array Value}
    (hρ : ρ fo = .func (.func f) fs vs) (w : World) :
    (execOp ρ ⟨dst, .call ⟨.value fo, args, tys⟩, ty, pos, aft, gd⟩).run P w = .ok (.enter f (fs ++ args.map ρ ++ vs)) w := by
  obtain ⟨fn, h1, h2, h3⟩ := hc
  simp only [execOp, resolve, hρ, Deferred.ofValue, Sem.run_bind, Sem.run_pure, Result.andThen_ok, invoke]
  have h4 : ¬ fn.body = none := by intro h; simp [h] at h2
  have h5 : ¬ fn.name = "runtime.NumGoroutine" := by simpa using h3
  simp [callFunc, h1, h4, h5]

/-- Names of a contract as the caller's: those handed in, then new ones. -/
def namesF (L : List Nat) : Nat → Nat := (L.getD · 0)

theorem call_loc {Kn : IM} {f nA nB : Nat} {args : List AV} {cs cs' : List Ch} {x : AV} (C : FnE P Kn f nA args cs nB x cs') (hK : IM.le Kn X.e0.G) {o : Oper} {fo : Operand} {aos : Array Operand} {tys : Array TypeId} (hop : o.op = .call ⟨.value fo, aos, tys⟩) {rd : List (Nat × AV)} {L M : List Nat}
    (hL : L.length = nA) (hM : nA + M.length = nB) (hMd : M.Nodup) (hw : ∀ e fr c a w, Rel X n e fr rd c a w → Region.wanted o (yielded ops a.tmps) = true) (hd : dstOK n o.dst = true)
    (ha : ∀ e fr c a w, Rel X n e fr rd c a w → ∃ fs vs, a.eval fo = .func (.func f) fs vs ∧ RepT (renL (namesF (L ++ M)) args) e (fs ++ aos.map a.eval ++ vs).toList) (hlt : ltL (Nat.blt · nA) args = true) (hlc : cs.all (Ch.lt (Nat.blt · nA)) = true) (hcov : (List.range nA).all (fun k => (idsC cs).contains k) = true) :
    LocOK X n ops ⟨o, rd, [], cs.map (Ch.ren (namesF (L ++ M))), cs'.map (Ch.ren (namesF (L ++ M))), M, x.ren (namesF (L ++ M))⟩ := by
  intro e fr s c a w Q K rel hrs hns hK2
  simp only at rel hrs hns hK2 ⊢
  have hsub : Rel X n e fr rd ([] ++ cs.map (Ch.ren (namesF (L ++ M))) ++ c) a w := ⟨rel.defers, rel.size, fun i y hy => rel.slots i y (get_rd hrs i y hy), rel.mem⟩
  unfold opWp
  rw [if_pos (hw e fr _ a w hsub)]
  refine .inl ?_
  obtain ⟨dst, op, ty, pos, aft, gd⟩ := o
  simp only at hop
  subst hop
  unfold Oper.wp
  obtain ⟨fs, vs, hfo, hra⟩ := ha e fr _ a w hsub
  rw [run_call C.1 a.eval hfo w, Oper.upon_enter]
  let e0 : Env := ⟨e.G, fun k => if k < nA then e.μ (namesF (L ++ M) k) else none⟩
  have hdn : ∀ k p, Nat.blt k nA = true → e.μ (namesF (L ++ M) k) = some p → e0.μ k = some p := fun k p hk hp => by show (if k < nA then _ else _) = _; rw [if_pos (blt_lt hk)]; exact hp
  obtain ⟨FF, h1, h2⟩ := rel.mem.heap
  rw [List.nil_append] at h1
  obtain ⟨F1, F2, k1, k2, k3, k4⟩ := SepOK.app.1 h1
  have hbd : ∀ k, k < nA → ∃ p, e0.μ k = some p := by
    intro k hk
    have := List.all_eq_true.1 hcov k (by simpa using hk)
    simp only [List.contains_iff_mem, idsC, List.mem_map] at this
    obtain ⟨y, hy, rfl⟩ := this
    have key : ∀ {l : List Ch} {F : Foot}, SepOK e0 w l F → y ∈ l → ∃ p, e0.μ y.id = some p := by
      intro l
      induction l with
      | nil => intro F _ h; cases h
      | cons z l ih =>
        rintro F ⟨F1, F2, q1, q2, _⟩ hm
        rcases List.mem_cons.1 hm with rfl | hm
        · cases y <;> obtain ⟨_, q⟩ := q1
          · obtain ⟨_, _, q, _⟩ := q; exact ⟨_, q⟩
          · obtain ⟨_, _, q, _⟩ := q; exact ⟨_, q⟩
          · obtain ⟨_, _, q, _⟩ := q; exact ⟨_, q⟩
          · obtain ⟨_, _, q, _⟩ := q; exact ⟨_, q⟩
          · exact ⟨_, q.1⟩
        · exact ih q2 hm
    exact key (SepOK.down (e0 := e0) (e1 := e) rfl hdn hlc k1) hy
  rw [show fs ++ aos.map a.eval ++ vs = (fs ++ aos.map a.eval ++ vs).toList.toArray by simp]
  have hcall := C.2 e0 w (fs ++ aos.map a.eval ++ vs).toList F1 (IM.le_trans hK rel.mem.le.1) rel.mem.im (RepT.down (e0 := e0) (e1 := e) rfl hdn args hlt hra) (fun k hk => if_neg (by omega)) hbd (SepOK.down (e0 := e0) (e1 := e) rfl hdn hlc k1)
    (fun b o hb => ⟨(h2 b o ((k4 b o).2 (.inl hb))).1, (h2 b o ((k4 b o).2 (.inl hb))).2.2⟩)
  refine hcall.mono ?_
  rintro en w' ⟨cr, e1, F', rfl, g1, g2, g3, g4, g5, g6⟩
  -- the caller's names then
  let e2 : Env := ⟨e1.G, fun j => if j ∈ M then e1.μ (nA + M.idxOf j) else e.μ j⟩
  have hfM : ∀ i (hi : i < M.length), namesF (L ++ M) (nA + i) = M[i] := fun i hi => by
    simp only [namesF, List.getD_eq_getElem?_getD]
    rw [List.getElem?_append_right (by omega)]; simp [hL, hi]
  have hle : Env.le e e2 := ⟨g2.1, fun j p hj => by
    show (if j ∈ M then _ else _) = _
    rw [if_neg (fun hm => by rw [rel.mem.free j (hns j hm)] at hj; cases hj)]; exact hj⟩
  have hup : ∀ k p, e1.μ k = some p → e2.μ (namesF (L ++ M) k) = some p := by
    intro k p hp
    have hkB : k < nB := by
      rcases Nat.lt_or_ge k nB with h | h
      · exact h
      · rw [g3 k h] at hp; cases hp
    by_cases hkA : k < nA
    · obtain ⟨q, h0⟩ := hbd k hkA
      have := g2.2 k q h0
      rw [hp] at this; cases this
      have h0' : e.μ (namesF (L ++ M) k) = some p := by
        have : (if k < nA then e.μ (namesF (L ++ M) k) else none) = some p := h0
        rwa [if_pos hkA] at this
      exact hle.2 _ _ h0'
    · obtain ⟨i, rfl⟩ : ∃ i, k = nA + i := ⟨k - nA, by omega⟩
      have hi : i < M.length := by omega
      rw [hfM i hi]
      show (if M[i] ∈ M then _ else _) = _
      rw [if_pos (List.getElem_mem hi), hMd.idxOf_getElem i hi]
      exact hp
  have hmem : MemOK X e2 (fun k => fr k ∧ k ∉ M) (cs'.map (Ch.ren (namesF (L ++ M))) ++ c) w' := by
    have m := rel.mem
    rw [List.nil_append] at m
    refine m.updF hle (fun j hj => ?_) g6.os g6.tape g6.output g6.sz k2 k3 (fun b o hb => h2 b o ((k4 b o).2 hb)) g6.keep (SepOK.up (e0 := e1) (e1 := e2) rfl hup g4) g5 (fun b o v hv => ?_)
    · show (if j ∈ M then _ else _) = _
      rw [if_neg hj.2]; exact rel.mem.free j hj.1
    · rcases g6.new b o v hv with h | h | h
      · exact .inl h
      · exact .inr ⟨.inr h, g6.im b o v hv⟩
      · exact .inr ⟨.inl h, g6.im b o v hv⟩
  have hrep := Rep.up (e0 := e1) (e1 := e2) rfl hup x g1
  exact hK2 e2 _ w' (Rel.put ⟨rel.defers, rel.size, fun i y hy => let ⟨u, u1, u2⟩ := rel.slots i y hy; ⟨u, u1, Rep.mono y hle u2⟩, hmem⟩ (fun q hq => by rw [hq] at hd; simp [dstOK, Nat.blt] at hd; omega) hrep)
end
end Go.E

/- The walk anew, part 16: walks that give something fixed ahead of the run. -/
set_option linter.unusedSimpArgs false
set_option linter.unusedVariables false
namespace Go.E
open Go.RowKit

/-- There is something, fixed, of which both hold. -/
def DE {α : Type} (P S : α → Prop) : Prop := ∃ r, P r ∧ S r
theorem DE.imp {α : Type} {P S S' : α → Prop} (h : ∀ r, S' r → S r) : DE P S' → DE P S := fun ⟨r, h1, h2⟩ => ⟨r, h1, h r h2⟩

/-- The contexts of a walk: what is known of memory, which names are arguments', how panics may be. -/
structure KX {P : Program} {T : Tab} (Kn : IM) (nA : Nat) (E : Ctx P T → Prop) (X : Ctx P T) : Prop where
  le : IM.le Kn X.e0.G
  nm : ∀ k, nA ≤ k → X.e0.μ k = none
  ex : E X

def freeOp (rd : List (Nat × AV)) : Op → Bool
  | .move _ => true
  | .assign _ => true
  | .pick _ _ _ => true
  | .unOp _ _ _ => true
  | .convert _ _ x => (match opd rd x with
    | some (.s _) => true
    | _ => false)
  | .fieldAddr _ _ _ => true
  | .field _ _ _ => true
  | .extract _ _ => true
  | .nilCheck _ => true
  | .makeInterface _ _ => true
  | .makeFunc _ _ _ => true
  | .alloc _ => true
  | .box _ _ => true
  | .build _ _ => true
  | .buildSlice _ _ _ => true
  | .load _ x => (match opd rd x with
    | some (.ep _ _ _ _) => false
    | _ => true)
  | .store _ x _ => (match opd rd x with
    | some (.ep _ _ _ _) => false
    | _ => true)
  | .binOp op _ x _ _ => (match op with
    | .quo => false
    | .rem => false
    | .shl => false
    | .shr => false
    | .add => false
    | .sub => false
    | .mul => false
    | _ => true)
  | .call ⟨.builtin b, _, _⟩ => (match b with
    | .len => true
    | .min => true
    | .max => true
    | _ => false)
  | _ => false

theorem bin_free {T : Tab} {t : Nat} {op : BinOp} {x y av : AV} {g : Prop} (h : bin T t op x y = some (g, av)) (h1 : op ≠ .quo) (h2 : op ≠ .rem) (h3 : op ≠ .shl) (h4 : op ≠ .shr) (h5 : op ≠ .add) : g := by
  unfold bin at h
  split at h
  · split at h
    · cases op <;> simp only [binI, Option.some.injEq, Prod.mk.injEq] at h <;> first | exact h.1 ▸ trivial | (exfalso; first | exact h1 rfl | exact h2 rfl | exact h3 rfl | exact h4 rfl)
    · cases h
  · rename_i a b
    cases op <;> simp only [binS, Option.some.injEq, Prod.mk.injEq, reduceCtorEq] at h <;> first | exact h.1 ▸ trivial | exact absurd rfl h5 | cases h
  · split at h
    · split at h <;> cases h <;> trivial
    · cases h
  · split at h <;> cases h <;> trivial
  · split at h <;> cases h <;> trivial
  · cases h

theorem eff_free {T : Tab} {rd : List (Nat × AV)} {c : List Ch} {dst : Option Nat} {op : Op} {E : Ef} (h : eff T rd c dst op = some E) (hf : freeOp rd op = true) : E.g := by
  unfold eff at h
  split at h
  · split at h
    · rw [normG_eq] at h; cases h; trivial
    · cases h
  · split at h
    · split at h
      · rw [normG_eq] at h; cases h; trivial
      · cases h
    · cases h
  · split at h
    · split at h
      · split at h
        · rw [normG_eq] at h; cases h; trivial
        · cases h
      · cases h
    · rename_i hp _
      simp only [freeOp, hp] at hf
      cases hf
    · cases h
  · split at h
    · split at h
      · split at h <;> cases h; trivial
      · cases h
    · split at h
      · split at h <;> cases h; trivial
      · cases h
    · cases h
  · split at h
    · split at h
      · split at h
        · split at h <;> cases h; trivial
        · cases h
      · cases h
    · cases h
  · simp [freeOp] at hf
  · split at h <;> cases h
    rename_i g x hv
    cases op <;> simp only [freeOp] at hf <;> simp only [val] at hv <;> try (first | (cases hv; done) | (cases hf; done))
    case move => split at hv <;> cases hv; trivial
    case assign => split at hv <;> cases hv; trivial
    case pick => split at hv <;> cases hv <;> trivial
    case unOp => split at hv <;> cases hv <;> trivial
    case convert => split at hv <;> cases hv <;> trivial
    case makeInterface => split at hv <;> cases hv <;> trivial
    case makeFunc => split at hv <;> cases hv; trivial
    case nilCheck => split at hv <;> cases hv <;> trivial
    case extract => split at hv <;> (try split at hv) <;> cases hv; trivial
    case fieldAddr =>
      split at hv
      · split at hv
        · split at hv <;> (try rw [normG_eq] at hv) <;> cases hv <;> trivial
        · cases hv
      · cases hv
    case field =>
      split at hv
      · split at hv
        · split at hv
          · split at hv <;> cases hv; trivial
          · cases hv
        · cases hv
      · cases hv
    case load =>
      split at hv
      · split at hv
        · split at hv
          · split at hv <;> cases hv; trivial
          · cases hv
        · rename_i hx; rw [hx] at hf; cases hf
        · split at hv <;> cases hv; trivial
        · cases hv
      · cases hv
    case binOp =>
      split at hv
      · rename_i hx hy
        refine bin_free hv ?_ ?_ ?_ ?_ ?_ <;> (rintro rfl; cases hf; done)
      · cases hv
    case call =>
      rename_i cl y1 y2 y3 y4 y5 y6
      obtain ⟨callee, args, tys⟩ := cl
      cases callee <;> simp only at hf hv <;> try (cases hf; done)
      rename_i b
      cases b <;> simp only at hf hv <;> try (cases hf; done)
      all_goals
        split at hv
        all_goals first
          | (split at hv <;> cases hv <;> trivial)
          | cases hv
end Go.E

/- The walk anew, part 17: steps, of what is fixed ahead of the run. -/
set_option linter.unusedSimpArgs false
set_option linter.unusedVariables false
namespace Go.E
open Go.RowKit

section
variable {P : Program} {T : Tab}
def WC (K : Ctx P T → Prop) (n : Nat) (c : Code) (st : St) (Q : Exit → St → Prop) : Prop := ∀ X, K X → SymC X n c st Q
def WO (K : Ctx P T → Prop) (n : Nat) (ops : Array Oper) (draw : Bool) (Kc : List (Nat × AV) → List Ch → List Nat → Prop) (l : List Oper) (hist : List FP) (s : List (Nat × AV)) (c : List Ch) (N : List Nat) : Prop :=
  ∀ X, K X → DoR X n ops draw Kc l hist s c N

theorem conc.mono {X : Ctx P T} {n : Nat} {Q Q' : Exit → St → Prop} (h : ∀ ex st, Q ex st → Q' ex st) {ex : Exit} {a : Act} {w : World} (hc : conc X n Q ex a w) : conc X n Q' ex a w := by
  cases ex <;> first | exact hc | (obtain ⟨e, st, h1, h2⟩ := hc; exact ⟨e, st, h1, h _ _ h2⟩)
theorem DoR.mono {X : Ctx P T} {n : Nat} {ops : Array Oper} {draw : Bool} {K K' : List (Nat × AV) → List Ch → List Nat → Prop} (h : ∀ s c N, K s c N → K' s c N) : ∀ {l hist s c N}, DoR X n ops draw K l hist s c N → DoR X n ops draw K' l hist s c N
  | [], _, _, _, _, ⟨h1, s0, h0, h2⟩ => ⟨h1, s0, h0, h _ _ _ h2⟩
  | _ :: _, _, _, _, _, ⟨s0, r, c', cr, h0, h1, h2, h3, h4, h5, h6, h7, h8⟩ => ⟨s0, r, c', cr, h0, h1, h2, h3, h4, h5, h6, h7, h8.mono h⟩
theorem DoR.hist0 {X : Ctx P T} {n : Nat} {ops : Array Oper} {K : List (Nat × AV) → List Ch → List Nat → Prop} : ∀ {l hist hist' s c N}, DoR X n ops false K l hist s c N → DoR X n ops false K l hist' s c N
  | [], _, _, _, _, _, ⟨_, h2⟩ => ⟨fun h => (by cases h), h2⟩
  | _ :: _, _, _, _, _, _, ⟨s0, r, c', cr, h0, h1, h2, h3, h4, h5, h6, h7, h8⟩ => ⟨s0, r, c', cr, h0, h1, h2, h3, h4, h5, h6, h7, h8.hist0⟩

variable {K : Ctx P T → Prop} {n : Nat} {st : St} {Q : Exit → St → Prop} {ops : Array Oper} {draw : Bool} {Kc : List (Nat × AV) → List Ch → List Nat → Prop}
theorem C_scope {X : Ctx P T} {c : Code} (h : SymC X n c st (fun ex s => match ex with
    | .goto _ => False
    | ex => Q ex s)) : SymC X n (.scope c) st Q := by
  intro e a w r
  refine wp_scope_straight (Code.wp_mono (fun ex a' w' hc => ?_) (h e a w r))
  cases ex with
  | goto l => obtain ⟨_, _, _, h⟩ := hc; exact h.elim
  | _ => exact hc
/-- One step of code. -/
def stepW (K : Ctx P T → Prop) (n : Nat) (Q : Exit → St → Prop) (st : St) : Code → Option Prop
  | .skip => some (Q .normal st)
  | .label _ => some (Q .normal st)
  | .ret => some (Q .ret st)
  | .exit id => some (Q (.exit id) st)
  | .seq x y => some (WC K n x st (fun ex s => match ex with
    | .normal => WC K n y s Q
    | ex => Q ex s))
  | .block id c => some (WC K n c st (fun ex s => match ex with
    | .exit j => (match Nat.beq j id with
      | true => Q .normal s
      | false => Q (.exit j) s)
    | ex => Q ex s))
  | .region _ ops draw => (match st with
    | ⟨s, c, N⟩ => some (WO K n ops draw (fun s c N => Q .normal ⟨s, c, N⟩) ops.toList [] s c N))
  | .scope c => some (WC K n c st (fun ex s => match ex with
    | .goto _ => False
    | ex => Q ex s))
  | .cond q x y => (match opd st.s q with
    | some (.v (.bool true)) => some (WC K n x st Q)
    | some (.v (.bool false)) => some (WC K n y st Q)
    | _ => none)
  | _ => none
theorem stepW_sound {c : Code} {p : Prop} (h : stepW K n Q st c = some p) (hp : p) : WC K n c st Q := by
  intro X hX
  cases c with
  | skip => cases h; exact fun e _ _ r => wp_skip ⟨e, st, r, hp⟩
  | label l => cases h; exact fun e _ _ r => wp_label ⟨e, st, r, hp⟩
  | ret => cases h; exact fun e _ _ r => wp_ret ⟨e, st, r, hp⟩
  | exit id => cases h; exact fun e _ _ r => wp_exit ⟨e, st, r, hp⟩
  | seq x y =>
    cases h
    refine C_seq ((hp X hX).mono fun ex s hq => ?_)
    cases ex with
    | normal => exact hq X hX
    | _ => exact hq
  | block id c => cases h; exact C_block (hp X hX)
  | scope c => cases h; exact C_scope (hp X hX)
  | region id ops draw => cases h; exact do_region (hp X hX)
  | cond q x y =>
    simp only [stepW] at h
    split at h <;> cases h
    · rename_i hq; exact C_if hq (fun _ => hp X hX) (fun h => by cases h)
    · rename_i hq; exact C_if hq (fun h => by cases h) (fun _ => hp X hX)
  | _ => cases h

def freshN (ns N : List Nat) : Bool := ns.all (fun k => !(N.contains k)) && (match ns with
  | [] => true
  | [_] => true
  | _ => false)
theorem freshN_spec {ns N : List Nat} (h : freshN ns N = true) : (∀ k ∈ ns, k ∉ N) ∧ ns.Nodup := by
  simp only [freshN, Bool.and_eq_true, List.all_eq_true] at h
  refine ⟨fun k hk => by simpa using h.1 k hk, ?_⟩
  match ns, h.2 with
  | [], _ => exact .nil
  | [_], _ => simp

/-- The frame with one slot set. -/
def nextS (d : Option Nat) (x : AV) (s : List (Nat × AV)) {β : Type} (k : List (Nat × AV) → β) : β :=
  match d with
  | none => k s
  | some d => normA x fun x => k ((d, x) :: s)
theorem nextS_eq {d : Option Nat} {x : AV} {s : List (Nat × AV)} {β : Type} (k : List (Nat × AV) → β) : nextS d x s k = k (putS d x s) := by
  cases d <;> simp [nextS, normA_eq, putS]
def nextH (draw : Bool) (hist : List FP) (o : Oper) (rd : List (Nat × AV)) (us vs ro : List Ch) {β : Type} (k : List FP → β) : β :=
  match draw with
  | false => k []
  | true => normG (rd.map (·.1)) fun a => normG (idsC us ++ idsC vs) fun b => normG (idsC ro) fun d => normG (hist ++ [⟨o.dst, a, b, d⟩]) k

/-- The name of a new thing: the slot's number, if no thing has it. -/
def nmT : List (Option Nat) := [some 900, some 901, some 902, some 903, some 904, some 905, some 906, some 907, some 908, some 909, some 910, some 911, some 912, some 913, some 914, some 915]
def nmD (N : List Nat) : Option Nat → Option Nat
  | none => none
  | some d => (match N.contains d with
    | true => (match nmT[d]? with
      | some (some k) => some k
      | _ => some d)
    | false => some d)
theorem nmD_none {N : List Nat} {d : Option Nat} (h : nmD N d = none) : d = none := by
  cases d with
  | none => rfl
  | some d =>
    unfold nmD at h
    simp only at h
    split at h
    · split at h <;> cases h
    · cases h
/-- One operation: what it asks, and what is left then. -/
def step1 (T : Tab) (n : Nat) (ops : Array Oper) (draw : Bool) (o : Oper) (hist : List FP) (s : List (Nat × AV)) (c : List Ch) (N : List Nat) {β : Type} (free : Bool) (k : Prop → List FP → List (Nat × AV) → List Ch → List Nat → Option β) : Option β :=
  match guardA ops.toList s o, dstOK n o.dst with
  | some true, true => normG (rdL s (o.op.operands.toList ++ guardOp ops.toList o)) fun rd => (match free && !(freeOp rd o.op) with
    | true => none
    | false => (match eff T rd c (nmD N o.dst) o.op with
      | some ⟨g, x, ro, us, vs, ns, c'⟩ => (match freshN ns N with
        | true => nextS o.dst x s fun s' => normG (ns ++ N) fun N' => normG c' fun c' => nextH draw hist o rd us vs ro fun h' => k g h' s' c' N'
        | false => none)
      | none => none))
  | some false, true => normG (rdL s (guardOp ops.toList o)) fun rd => nextS o.dst (.tup []) s fun s' => nextH draw hist o rd [] [] [] fun h' => k True h' s' c N
  | _, _ => none

theorem guardA_rd {ops : List Oper} {s : List (Nat × AV)} {o : Oper} {l : List Operand} {b : Bool} (h : guardA ops s o = some b) (hl : ∀ q ∈ guardOp ops o, q ∈ l) : guardA ops (rdL s l) o = some b := by
  unfold guardA at h ⊢
  cases hg : o.guard with
  | none => rw [hg] at h; exact h
  | some p =>
    obtain ⟨j, want⟩ := p
    rw [hg] at h
    simp only at h ⊢
    cases hj : ops[j]? with
    | none => rw [hj] at h; cases h
    | some oj =>
      rw [hj] at h
      simp only at h ⊢
      cases hd : oj.dst with
      | none => rw [hd] at h; cases h
      | some d =>
        rw [hd] at h
        simp only at h ⊢
        have hm : Operand.tmp d ∈ l := hl _ (by simp [guardOp, hg, hj, hd])
        have : get (rdL s l) d = get s d := by
          clear hl h
          induction l with
          | nil => cases hm
          | cons q l ih =>
            cases q with
            | tmp t =>
              simp only [rdL]
              by_cases htd : t = d
              · subst htd
                cases hq : get s t with
                | some x => simp [get_cons]
                | none =>
                  simp only
                  cases hr : get (rdL s l) t with
                  | none => rfl
                  | some x => rw [rdL_get hr] at hq; cases hq
              · have hm' : Operand.tmp d ∈ l := by
                  rcases List.mem_cons.1 hm with h | h
                  · cases h; exact absurd rfl htd
                  · exact h
                cases hq : get s t with
                | some x => simp only [get_cons, if_neg htd]; exact ih hm'
                | none => exact ih hm'
            | _ => simp only [rdL]; exact ih (by simpa using hm)
        rw [this]; exact h

theorem step1_sound {o : Oper} {rest : List Oper} {hist : List FP} {s : List (Nat × AV)} {c : List Ch} {N : List Nat} {free : Bool} {β : Type} {k : Prop → List FP → List (Nat × AV) → List Ch → List Nat → Option β} {p : β} (h : step1 T n ops draw o hist s c N free k = some p) :
    ∃ g h' s' c' N', k g h' s' c' N' = some p ∧ (free = true → g) ∧ (∃ x, s' = putS o.dst x s) ∧ ∀ (K : Ctx P T → Prop) Kc, g → WO K n ops draw Kc rest h' s' c' N' → WO K n ops draw Kc (o :: rest) hist s c N := by
  have hstep : ∀ {X : Ctx P T} {Kc} {r : R1} {c' cr : List Ch} {h' : List FP}, r.o = o → LocOK X n ops r → (∀ p ∈ r.rd, get s p.1 = some p.2) → c.Perm (r.ro ++ r.us ++ cr) → c'.Perm (r.ro ++ r.vs ++ cr) → freshN r.ns N = true →
      (draw = true → h' = hist ++ [fpOf r]) → DoR X n ops draw Kc rest h' (putS o.dst r.x s) c' (r.ns ++ N) → DoR X n ops draw Kc (o :: rest) hist s c N := by
    intro X Kc r c' cr h' h1 h2 h3 h4 h5 h6 h7 h8
    obtain ⟨f1, f2⟩ := freshN_spec h6
    refine ⟨s, r, c', cr, fun _ _ h => h, h1, h2, h3, h4, h5, f1, f2, ?_⟩
    cases draw with
    | true => rw [← h7 rfl]; exact h8
    | false => exact h8.hist0
  have hnext : ∀ {rd us vs ro x ns} {β : Type} {k : List FP → Option β} {p : β}, nextH draw hist o rd us vs ro k = some p → ∃ h', k h' = some p ∧ (draw = true → h' = hist ++ [fpOf ⟨o, rd, ro, us, vs, ns, x⟩]) := by
    intro rd us vs ro x ns β k p hh
    unfold nextH at hh
    cases draw with
    | false => exact ⟨[], hh, fun h => by cases h⟩
    | true => simp only [normG_eq] at hh; exact ⟨_, hh, fun _ => rfl⟩
  unfold step1 at h
  split at h
  · rename_i hg hd
    rw [normG_eq] at h
    split at h
    · cases h
    · rename_i hfree
      split at h
      · rename_i g x ro us vs ns c' he
        split at h
        · rename_i hfr
          rw [nextS_eq, normG_eq, normG_eq] at h
          obtain ⟨h', h1, h2⟩ := hnext (x := x) (ns := ns) h
          refine ⟨g, h', _, c', _, h1, fun hf => ?_, ⟨x, rfl⟩, fun K Kc hgg hw X hX => ?_⟩
          · subst hf
            simp only [Bool.true_and, Bool.not_eq_false'] at hfree
            exact eff_free he hfree
          · have hw' : ∀ e fr c a w, Rel X n e fr (rdL s (o.op.operands.toList ++ guardOp ops.toList o)) c a w → Region.wanted o (yielded ops a.tmps) = true := fun e fr c a w r =>
              guardA_sound r (guardA_rd hg (fun q hq => List.mem_append.2 (.inr hq)))
            obtain ⟨l1, cr, l2, l3⟩ := eff_sound (X := X) (ops := ops) (o := o) (s := s) (fun p hp => rdL_mem p hp) hw' hd nmD_none he hgg
            exact hstep (r := ⟨o, _, ro, us, vs, ns, x⟩) rfl l1 (fun p hp => rdL_mem p hp) l2 l3 hfr h2 (hw X hX)
        · cases h
      · cases h
  · rename_i hg hd
    rw [normG_eq, nextS_eq] at h
    obtain ⟨h', h1, h2⟩ := hnext (x := .tup []) (ns := []) h
    refine ⟨True, h', _, c, N, h1, fun _ => trivial, ⟨_, rfl⟩, fun K Kc _ hw X hX => ?_⟩
    refine hstep (r := ⟨o, rdL s (guardOp ops.toList o), [], [], [], [], .tup []⟩) (cr := c) rfl ?_ (fun p hp => rdL_mem p hp) (.refl _) (.refl _) rfl h2 (hw X hX)
    intro e fr s2 c2 a w Q K2 rel hrs _ hK
    unfold opWp
    have hsub : Rel X n e fr (rdL s (guardOp ops.toList o)) c2 a w := ⟨rel.defers, rel.size, fun i y hy => rel.slots i y (get_rd hrs i y hy), by simpa using rel.mem⟩
    rw [if_neg (by rw [guardA_sound hsub (guardA_rd hg (fun q hq => hq))]; simp)]
    exact hK e _ w (Rel.put ⟨rel.defers, rel.size, rel.slots, rel.mem.fr_le fun k hk => hk.1⟩ (fun q hq => by rw [hq] at hd; simp [dstOK, Nat.blt] at hd; omega) (by simp [Rep, RepT, undef]))
  · cases h

/-- As many operations as ask nothing. -/
def runW (K : Ctx P T → Prop) (n : Nat) (ops : Array Oper) (draw : Bool) (Kc : List (Nat × AV) → List Ch → List Nat → Prop) : Nat → Bool → List Oper → List FP → List (Nat × AV) → List Ch → List Nat → Option Prop
  | 0, _, l, hist, s, c, N => some (WO K n ops draw Kc l hist s c N)
  | f + 1, pr, [], hist, s, c, N => (match draw, pr with
    | false, _ => some (Kc s c N)
    | true, true => some (WO K n ops true Kc [] hist s c N)
    | true, false => none)
  | f + 1, pr, o :: l, hist, s, c, N => (match o.guard with
    | none => (match step1 T n ops draw o hist s c N true fun _ h' s' c' N' => runW K n ops draw Kc f true l h' s' c' N' with
      | some p => some p
      | none => (match pr with
        | true => some (WO K n ops draw Kc (o :: l) hist s c N)
        | false => none))
    | some _ => (match pr with
      | true => some (WO K n ops draw Kc (o :: l) hist s c N)
      | false => none))
theorem runW_sound : ∀ (f : Nat) {pr : Bool} {l : List Oper} {hist : List FP} {s : List (Nat × AV)} {c : List Ch} {N : List Nat} {p : Prop}, runW K n ops draw Kc f pr l hist s c N = some p → p → WO K n ops draw Kc l hist s c N
  | 0, pr, l, hist, s, c, N, p, h, hp => by simp only [runW, Option.some.injEq] at h; subst h; exact hp
  | f + 1, pr, [], hist, s, c, N, p, h, hp => by
    simp only [runW] at h
    split at h <;> cases h
    · exact fun X hX => ⟨fun h => (by cases h), s, fun _ _ h => h, hp⟩
    · exact hp
  | f + 1, pr, o :: l, hist, s, c, N, p, h, hp => by
    simp only [runW] at h
    split at h
    · split at h
      · rename_i q hq
        cases h
        obtain ⟨g, h', s', c', N', h1, h2, _, h3⟩ := step1_sound (rest := l) hq
        exact h3 K Kc (h2 rfl) (runW_sound f h1 hp)
      · split at h <;> cases h
        exact hp
    · split at h <;> cases h
      exact hp

variable {α : Type} {Po : α → Prop} {S' : α → Prop} {QD : α → Exit → St → Prop} {KD : α → List (Nat × AV) → List Ch → List Nat → Prop}
/-- A step of code. -/
theorem dC {c : Code} (h : ∀ r, stepW K n (QD r) st c = some (S' r)) (k : DE Po S') : DE Po (fun r => WC K n c st (QD r)) := k.imp fun r hr => stepW_sound (h r) hr
/-- Steps of a region. -/
theorem dR {l : List Oper} {hist : List FP} {s : List (Nat × AV)} {c : List Ch} {N : List Nat} (h : ∀ r, runW K n ops draw (KD r) 300 false l hist s c N = some (S' r)) (k : DE Po S') : DE Po (fun r => WO K n ops draw (KD r) l hist s c N) :=
  k.imp fun r hr => runW_sound 300 (h r) hr
/-- A region ends whose order was drawn. -/
theorem dZ {hist : List FP} {s : List (Nat × AV)} {c : List Ch} {N : List Nat} (h : chkD ops.toList hist = true) (k : DE Po fun r => KD r s c N) : DE Po (fun r => WO K n ops true (KD r) [] hist s c N) :=
  k.imp fun r hr X hX => ⟨fun _ => h, s, fun _ _ h => h, hr⟩
/-- One step of a region, of which the guard is known. -/
theorem dR1 {o : Oper} {l : List Oper} {hist : List FP} {s : List (Nat × AV)} {c : List Ch} {N : List Nat}
    (h : ∀ r, step1 T n ops draw o hist s c N true (fun _ h' s' c' N' => some (WO K n ops draw (KD r) l h' s' c' N')) = some (S' r)) (k : DE Po S') : DE Po (fun r => WO K n ops draw (KD r) (o :: l) hist s c N) :=
  k.imp fun r hr => by
    obtain ⟨g', h', s', c', N', h1, h2, _, h3⟩ := step1_sound (P := P) (rest := l) (h r)
    simp only [Option.some.injEq] at h1
    exact h3 K _ (h2 rfl) (h1 ▸ hr)
theorem DoR.weak {X : Ctx P T} {n : Nat} {ops : Array Oper} {draw : Bool} {Kc : List (Nat × AV) → List Ch → List Nat → Prop} {s s' : List (Nat × AV)} (hs : subG s' s) : ∀ {l hist c N}, DoR X n ops draw Kc l hist s' c N → DoR X n ops draw Kc l hist s c N
  | [], _, _, _, ⟨h1, s0, h0, h2⟩ => ⟨h1, s0, fun i x h => hs i x (h0 i x h), h2⟩
  | _ :: _, _, _, _, ⟨s0, r, c', cr, h0, rest⟩ => ⟨s0, r, c', cr, fun i x h => hs i x (h0 i x h), rest⟩
/-- A step that asks something. -/
theorem dG {o : Oper} {l : List Oper} {hist : List FP} {s : List (Nat × AV)} {c : List Ch} {N : List Nat} {g : Prop}
    (h : ∀ r, step1 T n ops draw o hist s c N false (fun g h' s' c' N' => some (g, WO K n ops draw (KD r) l h' s' c' N')) = some (g, S' r)) (hg : g) (k : DE Po S') : DE Po (fun r => WO K n ops draw (KD r) (o :: l) hist s c N) :=
  k.imp fun r hr => by
    obtain ⟨g', h', s', c', N', h1, _, _, h3⟩ := step1_sound (P := P) (rest := l) (h r)
    simp only [Option.some.injEq, Prod.mk.injEq] at h1
    exact h3 K _ (h1.1 ▸ hg) (h1.2 ▸ hr)
end
end Go.E

/- The walk anew, part 18: tests, joins, loops, calls, ends. -/
set_option linter.unusedSimpArgs false
set_option linter.unusedVariables false
namespace Go.E
open Go.RowKit

section
variable {P : Program} {T : Tab} {Kn : IM} {nA : Nat} {EX : Ctx P T → Prop} {K : Ctx P T → Prop} {n : Nat} {st : St} {Q : Exit → St → Prop} {ops : Array Oper} {draw : Bool} {α : Type} {Po : α → Prop} {S' : α → Prop} {QD : α → Exit → St → Prop} {KD : α → List (Nat × AV) → List Ch → List Nat → Prop}

def setQ (q : Operand) (v : Bool) (st : St) : St := match q with
  | .tmp t => ⟨(t, .v (.bool v)) :: st.s, st.c, st.N⟩
  | _ => st
theorem setQ_ok {X : Ctx P T} {e : Env} {a : Act} {w : World} {q : Operand} {b : Bool} (hb : opd st.s q = some (.v (.bool b))) (r : Rel X n e (· ∉ st.N) st.s st.c a w) : Rel X n e (· ∉ (setQ q b st).N) (setQ q b st).s (setQ q b st).c a w := by
  unfold setQ
  split
  · rename_i t
    refine ⟨r.defers, r.size, fun i x hx => ?_, r.mem⟩
    rw [get_cons] at hx
    split at hx
    · rename_i hi; subst hi; cases hx; exact r.slots t _ hb
    · exact r.slots i x hx
  · exact r
theorem dI {q : Operand} {x y : Code} {b : Bool} (hb : opd st.s q = some (.v (.bool b))) (ht : b = true → DE Po fun r => WC K n x (setQ q true st) (QD r)) (hf : b = false → DE Po fun r => WC K n y (setQ q false st) (QD r)) : DE Po fun r => WC K n (.cond q x y) st (QD r) := by
  cases b with
  | true => exact (ht rfl).imp fun r h X hX e a w rel => C_if (st := setQ q true st) (b := true) (by unfold setQ; split <;> simp_all [opd, get_cons]) (fun _ => h X hX) (fun h => by cases h) e a w (setQ_ok hb rel)
  | false => exact (hf rfl).imp fun r h X hX e a w rel => C_if (st := setQ q false st) (b := false) (by unfold setQ; split <;> simp_all [opd, get_cons]) (fun h => by cases h) (fun _ => h X hX) e a w (setQ_ok hb rel)
theorem dP {q : Operand} {x y : Code} {p : Prop} [Decidable p] (hb : opd st.s q = some (.v (.bool (decide p)))) (ht : p → DE Po fun r => WC K n x (setQ q true st) (QD r)) (hf : ¬ p → DE Po fun r => WC K n y (setQ q false st) (QD r)) : DE Po fun r => WC K n (.cond q x y) st (QD r) :=
  dI hb (fun h => ht (of_decide_eq_true h)) (fun h => hf (of_decide_eq_false h))
theorem dN {q : Operand} {x y : Code} {p : Prop} [Decidable p] (hb : opd st.s q = some (.v (.bool (!decide p)))) (ht : ¬ p → DE Po fun r => WC K n x (setQ q true st) (QD r)) (hf : p → DE Po fun r => WC K n y (setQ q false st) (QD r)) : DE Po fun r => WC K n (.cond q x y) st (QD r) :=
  dI hb (fun h => ht (by simpa using h)) (fun h => hf (by simpa using h))
/-- Part on a Bool that a slot holds, ahead of an operation that asks for it. -/
theorem dS {o : Oper} {l : List Oper} {hist : List FP} {s : List (Nat × AV)} {c : List Ch} {N : List Nat} (d : Nat) {b : Bool} (hb : get s d = some (.v (.bool b))) (ht : b = true → DE Po fun r => WO K n ops draw (KD r) (o :: l) hist ((d, .v (.bool true)) :: s) c N)
    (hf : b = false → DE Po fun r => WO K n ops draw (KD r) (o :: l) hist ((d, .v (.bool false)) :: s) c N) : DE Po fun r => WO K n ops draw (KD r) (o :: l) hist s c N := by
  have key : ∀ {x : Bool}, b = x → ∀ r, WO K n ops draw (KD r) (o :: l) hist ((d, .v (.bool x)) :: s) c N → WO K n ops draw (KD r) (o :: l) hist s c N := by
    rintro x rfl r h X hX
    obtain ⟨s0, r1, c', cr, h0, rest⟩ := h X hX
    refine ⟨s0, r1, c', cr, fun i y hy => ?_, rest⟩
    have := h0 i y hy
    rw [get_cons] at this
    split at this
    · rename_i hdi; subst hdi; rw [hb]; exact this
    · exact this
  cases hb' : b with
  | true => exact (ht hb').imp (key hb')
  | false => exact (hf hb').imp (key hb')

/-- What the one says entails what the other says. -/
def Le (K : Ctx P T → Prop) (n : Nat) (s s2 : St) : Prop := ∀ X e a w, K X → Rel X n e (· ∉ s.N) s.s s.c a w → ∃ e', Rel X n e' (· ∉ s2.N) s2.s s2.c a w
theorem Le.refl (s : St) : Le K n s s := fun X e a w _ r => ⟨e, r⟩
theorem Le.trans {s1 s2 s3 : St} (h : Le K n s1 s2) (k : Le K n s2 s3) : Le K n s1 s3 := fun X e a w hX r => let ⟨e', r'⟩ := h X e a w hX r; k X e' a w hX r'
theorem dL {c : Code} (s2 : St) (hl : Le K n st s2) (h : DE Po fun r => WC K n c s2 (QD r)) : DE Po fun r => WC K n c st (QD r) :=
  h.imp fun r hr X hX e a w rel => let ⟨e', r'⟩ := hl X e a w hX rel; hr X hX e' a w r'
/-- What comes behind begins from one of a family of states. -/
theorem dJ {β : Type} {x y : Code} (S2 : β → St) (I : β → Prop) (h2 : ∀ q, I q → DE Po fun r => WC K n y (S2 q) (QD r))
    (h1 : ∀ J : α → St → Prop, (∀ q s, I q → Le K n s (S2 q) → DE Po fun r => J r s) → DE Po fun r => WC K n x st (fun ex s => match ex with
      | .normal => J r s
      | ex => QD r ex s)) : DE Po fun r => WC K n (.seq x y) st (QD r) := by
  refine (h1 (fun r s => WC K n y s (QD r)) (fun q s hq hl => dL _ hl (h2 q hq))).imp fun r hr => stepW_sound rfl ?_
  intro X hX
  exact (hr X hX).mono fun ex s h => by cases ex <;> exact h

/-- Rounds that come to an end, with an outcome that is fixed. -/
def Rnd (K : Ctx P T → Prop) (n : Nat) (c : Code) {ι : Type} (S : ι → St) (Q : Exit → St → Prop) : Nat → ι → Prop
  | 0, _ => False
  | k + 1, x => WC K n c (S x) (fun ex s => match ex with
    | .normal => ∃ y, Le K n s (S y) ∧ Rnd K n c S Q k y
    | ex => Q ex s)
theorem Rnd.run {c : Code} {ι : Type} {S : ι → St} {X : Ctx P T} (hX : K X) : ∀ {k : Nat} {x : ι} {e a w}, Rnd K n c S Q k x → Rel X n e (· ∉ (S x).N) (S x).s (S x).c a w → Code.rounds P c (conc X n Q) k a w
  | 0, _, _, _, _, h, _ => h.elim
  | k + 1, x, e, a, w, h, r => by
    refine Code.wp_mono (fun ex a' w' hc => ?_) (h X hX e a w r)
    cases ex with
    | normal =>
      obtain ⟨e', st', h1, y, h2, h3⟩ := hc
      obtain ⟨e2, r2⟩ := h2 X e' a' w' hX h1
      exact h3.run hX r2
    | _ => exact hc
theorem Rnd.succ {c : Code} {ι : Type} {S : ι → St} : ∀ {k : Nat} {x : ι}, Rnd K n c S Q k x → Rnd K n c S Q (k + 1) x
  | 0, _, h => h.elim
  | k + 1, x, h => fun X hX => (h X hX).mono fun ex s hq => by
    cases ex with
    | normal => exact let ⟨y, h1, h2⟩ := hq; ⟨y, h1, h2.succ⟩
    | _ => exact hq
theorem Rnd.up {c : Code} {ι : Type} {S : ι → St} {k j : Nat} {x : ι} (h : Rnd K n c S Q k x) (hj : k ≤ j) : Rnd K n c S Q j x := by
  induction hj with
  | refl => exact h
  | step _ ih => exact ih.succ

/-- A loop: a family of states, what holds of its index, a measure that each round lowers. -/
theorem dW {c : Code} {ι : Type} (S : ι → St) (I : ι → Prop) (m : ι → Nat) (x0 : ι) (h0 : I x0) (hl : Le K n st (S x0))
    (round : ∀ x, I x → ∀ J : α → St → Prop, (∀ y s, I y → m y < m x → Le K n s (S y) → DE Po fun r => J r s) → DE Po fun r => WC K n c (S x) (fun ex s => match ex with
      | .normal => J r s
      | ex => QD r ex s)) : DE Po fun r => WC K n (.loop c) st (QD r) := by
  have key : ∀ k x, I x → m x < k → DE Po fun r => Rnd K n c S (QD r) k x := by
    intro k
    induction k with
    | zero => intro x _ h; omega
    | succ k ih =>
      intro x hx hk
      refine (round x hx (fun r s => ∃ y, Le K n s (S y) ∧ Rnd K n c S (QD r) k y) (fun y s hy hm hl => (ih y hy (by omega)).imp fun r h => ⟨y, hl, h⟩)).imp fun r h => ?_
      exact h
  refine (key _ x0 h0 (Nat.lt_succ_self _)).imp fun r h X hX e a w rel => ?_
  obtain ⟨e', r'⟩ := hl X e a w hX rel
  exact wp_loop_rounds _ (h.run hX r')

/-! ### States, one in the other -/
def subS : List (Nat × AV) → List (Nat × AV) → Prop
  | [], _ => True
  | (i, x) :: r, s => get s i = some x ∧ subS r s
theorem subS_get : ∀ {r s : List (Nat × AV)}, subS r s → ∀ i x, get r i = some x → get s i = some x
  | [], s, _, i, x, h => by simp [get] at h
  | (j, y) :: r, s, ⟨h1, h2⟩, i, x, h => by
    rw [get_cons] at h
    split at h
    · rename_i hji; cases h; subst hji; exact h1
    · exact subS_get h2 i x h
/-- The same names; fewer things. -/
theorem Le.sub {s : List (Nat × AV)} {c u : List Ch} {N : List Nat} {s2 : List (Nat × AV)} {c2 : List Ch} (hs : subS s2 s) (hc : c.Perm (u ++ c2)) : Le K n ⟨s, c, N⟩ ⟨s2, c2, N⟩ := fun X e a w _ r => ⟨e, r.less (subS_get hs) hc⟩
def pickC : List Nat → List Ch → Option (List Ch × List Ch)
  | [], c => some ([], c)
  | k :: ks, c => match getC k c with
    | some h => (match pickC ks (delC k c) with
      | some (hs, r) => some (h :: hs, r)
      | none => none)
    | none => none
theorem pickC_perm : ∀ {ks : List Nat} {c hs r : List Ch}, pickC ks c = some (hs, r) → c.Perm (hs ++ r)
  | [], c, hs, r, h => by cases h; exact .refl _
  | k :: ks, c, hs, r, h => by
    simp only [pickC] at h
    split at h
    · rename_i x hx
      split at h <;> cases h
      rename_i hs' hp
      exact (getC_perm hx).1.trans ((pickC_perm hp).cons x)
    · cases h
/-- Names are changed: those of the arguments stay. -/
theorem Le.ren {s : List (Nat × AV)} {c : List Ch} {N : List Nat} {s2 : List (Nat × AV)} {c2 cs r : List Ch} {N2 : List Nat} (f : Nat → Nat) (ks : List Nat) (hA : ∀ k, k < nA → k ∈ N2 ∧ f k = k)
    (hs : subS (s2.map fun p => (p.1, p.2.ren f)) s) (hn : s2.all (fun p => p.2.lt N2.contains) = true) (hk : pickC ks c = some (cs, r)) (hc : cs = c2.map (Ch.ren f)) (hcn : c2.all (Ch.lt N2.contains) = true) :
    Le (KX Kn nA EX) n ⟨s, c, N⟩ ⟨s2, c2, N2⟩ := by
  intro X e a w hX rel
  let e2 : Env := ⟨e.G, fun k => if k ∈ N2 then e.μ (f k) else none⟩
  have hd : ∀ k p, N2.contains k = true → e.μ (f k) = some p → e2.μ k = some p := fun k p hk hp => by show (if k ∈ N2 then _ else _) = _; rw [if_pos (by simpa using hk)]; exact hp
  have hget : ∀ {l : List (Nat × AV)} {i x}, get l i = some x → (i, x) ∈ l := by
    intro l
    induction l with
    | nil => intro i x h; cases h
    | cons p l ih =>
      intro i x h
      obtain ⟨j, y⟩ := p
      rw [get_cons] at h
      split at h
      · rename_i hji; cases h; subst hji; simp
      · exact List.mem_cons_of_mem _ (ih h)
  have hmap : ∀ {l : List (Nat × AV)} {i x}, get l i = some x → get (l.map fun p => (p.1, p.2.ren f)) i = some (x.ren f) := by
    intro l
    induction l with
    | nil => intro i x h; cases h
    | cons p l ih =>
      intro i x h
      obtain ⟨j, y⟩ := p
      simp only [List.map_cons]
      rw [get_cons] at h ⊢
      split at h
      · rename_i hji; cases h; rw [if_pos hji]
      · rename_i hji; rw [if_neg hji]; exact ih h
  subst hc
  have m := (rel.mem.perm ((pickC_perm hk).trans List.perm_append_comm)).drop
  obtain ⟨F, h1, h2⟩ := m.heap
  refine ⟨e2, ⟨rel.defers, rel.size, fun i x hx => ?_, ?_⟩⟩
  · obtain ⟨v, v1, v2⟩ := rel.slots i _ (subS_get hs i _ (hmap hx))
    exact ⟨v, v1, Rep.down (e0 := e2) (e1 := e) rfl hd x (List.all_eq_true.1 hn (i, x) (hget hx)) v2⟩
  · exact { m with heap := ⟨F, SepOK.down (e0 := e2) (e1 := e) rfl hd hcn h1, h2⟩, le := ⟨m.le.1, fun k p hp => (by
      have hk : k < nA := by
        rcases Nat.lt_or_ge k nA with h | h
        · exact h
        · rw [hX.nm k h] at hp; cases hp
      obtain ⟨q1, q2⟩ := hA k hk
      refine hd k p (by simpa using q1) ?_
      rw [q2]; exact m.le.2 k p hp)⟩, free := fun k hk => if_neg hk }

/-! ### Contracts -/
/-- A contract of which the outcome is fixed by what is handed in. -/
def FnD (P : Program) (Kn : IM) (f : FuncId) (nA : Nat) (args : List AV) (cs : List Ch) (nB : Nat) {α : Type} (Po : α → Prop) (k : α → AV) (C : α → List Ch) : Prop := DE Po fun r => FnE P Kn f nA args cs nB (k r) (C r)

theorem FnD.intro (ok : TabOK P T) (wide : P.follows .mixedOrders = true) {f : FuncId} {fn : Func} {cd : Code} {nB : Nat} {args : List AV} {cs : List Ch} {k : α → AV} {C : α → List Ch} (hf : P.funcs[f]? = some fn) (hb : fn.body = some cd)
    (hn : (fn.name == "runtime.NumGoroutine") = false) (hargs : Nat.ble args.length fn.ntmps = true)
    (h : DE Po fun r => WC (KX (P := P) (T := T) Kn nA fun _ => True) fn.ntmps cd ⟨enumA 0 args, cs, List.range nA⟩ (Ends T fn.results nA nB (k r) (C r))) : FnD P Kn f nA args cs nB Po k C :=
  h.imp fun r hr => FnE.intro ok wide hf hb hn hargs fun X h1 h2 => hr X ⟨h1, h2, trivial⟩

/-- The end of a body that has no objects. -/
theorem dE {rs : Array ResultVar} {k : α → AV} {s : List (Nat × AV)} {c : List Ch} {N : List Nat} (r : α) (hp : Po r) (h : resA T s c rs.toList = some (k r)) (hk : (k r).nl = true) : DE Po fun r => EndsAt T rs 0 0 (k r) [] ⟨s, c, N⟩ := by
  have hren : ∀ (x : AV) (f : Nat → Nat), x.nl = true → x.ren f = x ∧ x.lt (Nat.blt · 0) = true := by
    intro x f
    exact AV.rec (motive_1 := fun x => x.nl = true → x.ren f = x ∧ x.lt (Nat.blt · 0) = true) (motive_2 := fun l => nlL l = true → renL f l = l ∧ ltL (Nat.blt · 0) l = true)
      (fun x _ => by simp [AV.ren, AV.lt]) (fun l _ => by simp [AV.ren, AV.lt]) (fun cs ih h => by simp only [AV.nl] at h; simp [AV.ren, AV.lt, ih h]) (fun cs ih h => by simp only [AV.nl] at h; simp [AV.ren, AV.lt, ih h])
      (fun n e row _ _ => by simp [AV.ren, AV.lt]) (fun cells _ _ => by simp [AV.ren, AV.lt]) (fun k o h => by simp [AV.nl] at h) (fun k e i n h => by simp [AV.nl] at h) (fun k e i j h => by simp [AV.nl] at h) (fun k h => by simp [AV.nl] at h) (fun k o n c h => by simp [AV.nl] at h)
      (fun fn a b ih1 ih2 h => by simp only [AV.nl, Bool.and_eq_true] at h; simp [AV.ren, AV.lt, ih1 h.1, ih2 h.2]) (fun t x ih h => by simp only [AV.nl] at h; simp [AV.ren, AV.lt, ih h])
      (fun _ => by simp [renL, ltL]) (fun x l ih1 ih2 h => by simp only [nlL, Bool.and_eq_true] at h; simp [renL, ltL, ih1 h.1, ih2 h.2]) x
  obtain ⟨h1, h2⟩ := hren (k r) (fun i => ([] : List Nat).getD i 0) hk
  exact ⟨r, hp, [], rfl, fun k h => by omega, by rw [h1]; exact h, h2, rfl, c, by simp⟩
end
end Go.E

/- The walk anew, part 19: calls, of what is fixed ahead of the run. -/
set_option linter.unusedSimpArgs false
set_option linter.unusedVariables false
namespace Go.E
open Go.RowKit

/-- Renamed, but what names nothing is left as it stands. -/
def renS (f : Nat → Nat) (x : AV) : AV := match x.nl with
  | true => x
  | false => x.ren f
def renSL (f : Nat → Nat) : List AV → List AV
  | [] => []
  | x :: l => renS f x :: renSL f l
def renSC (f : Nat → Nat) : Ch → Ch
  | .box k cells => .box (f k) (match nlL cells with
    | true => cells
    | false => renL f cells)
  | c => c.ren f
mutual
theorem ren_nl {f : Nat → Nat} : ∀ (x : AV), x.nl = true → x.ren f = x
  | .v x, _ => by simp only [AV.ren]
  | .s l, _ => by simp only [AV.ren]
  | .sl n e row, _ => by simp only [AV.ren]
  | .cp cells, _ => by simp only [AV.ren]
  | .agg cs, h => by simp only [AV.nl] at h; simp only [AV.ren]; rw [renL_nl cs h]
  | .tup cs, h => by simp only [AV.nl] at h; simp only [AV.ren]; rw [renL_nl cs h]
  | .clo fn a b, h => by simp only [AV.nl, Bool.and_eq_true] at h; simp only [AV.ren]; rw [renL_nl a h.1, renL_nl b h.2]
  | .ifc t x, h => by simp only [AV.nl] at h; simp only [AV.ren]; rw [ren_nl x h]
  | .bp _ _, h => by simp [AV.nl] at h
  | .own _ _ _ _, h => by simp [AV.nl] at h
  | .ep _ _ _ _, h => by simp [AV.nl] at h
  | .arr _ _ _ _, h => by simp [AV.nl] at h
  | .mp _, h => by simp [AV.nl] at h
theorem renL_nl {f : Nat → Nat} : ∀ (l : List AV), nlL l = true → renL f l = l
  | [], _ => by simp only [renL]
  | x :: l, h => by simp only [nlL, Bool.and_eq_true] at h; simp only [renL]; rw [ren_nl x h.1, renL_nl l h.2]
end
theorem renS_eq {f : Nat → Nat} {x : AV} : renS f x = x.ren f := by
  unfold renS; split
  · rename_i h; rw [ren_nl x h]
  · rfl
theorem renSL_eq {f : Nat → Nat} : ∀ {l : List AV}, renSL f l = renL f l
  | [] => rfl
  | x :: l => by simp only [renSL, renL]; rw [renS_eq, renSL_eq]
theorem renSC_eq {f : Nat → Nat} {c : Ch} : renSC f c = c.ren f := by
  unfold renSC; split
  · split
    · rename_i h; simp only [Ch.ren]; rw [renL_nl _ h]
    · rfl
  · rfl

def opdL (s : List (Nat × AV)) : List Operand → Option (List AV)
  | [] => some []
  | o :: l => match opd s o, opdL s l with
    | some x, some xs => some (x :: xs)
    | _, _ => none
theorem opdL_eq {s : List (Nat × AV)} : ∀ {l : List Operand} {xs : List AV}, opdL s l = some xs → l.mapM (opd s) = some xs
  | [], xs, h => by simpa [opdL] using h
  | o :: l, xs, h => by
    simp only [opdL] at h
    split at h
    · rename_i x ys h1 h2
      cases h
      simp [h1, opdL_eq h2]
    · cases h
/-- The arguments of a call of a function that is known. -/
def argsW (s : List (Nat × AV)) (o : Oper) (f : FuncId) : Option (List AV) :=
  match o.op with
  | .call ⟨.value fo, aos, _⟩ => (match opd s fo, opdL s aos.toList with
    | some (.v (.func (.func g) ⟨[]⟩ ⟨[]⟩)), some xs => (match Nat.beq g f with
      | true => some xs
      | false => none)
    | some (.clo (.func g) first caps), some xs => (match Nat.beq g f with
      | true => some (first ++ (xs ++ caps))
      | false => none)
    | _, _ => none)
  | _ => none
theorem RepT.app : ∀ {xs ys : List AV} {e : Env} {vs us : List Value}, RepT xs e vs → RepT ys e us → RepT (xs ++ ys) e (vs ++ us)
  | [], ys, e, vs, us, h, k => by simp only [RepT] at h; subst h; simpa using k
  | x :: xs, ys, e, vs, us, h, k => by
    simp only [RepT] at h
    obtain ⟨z, zs, rfl, h1, h2⟩ := h
    simp only [List.cons_append, RepT]
    exact ⟨z, _, rfl, h1, RepT.app h2 k⟩
def chkK (ops : List Oper) (n : Nat) (s : List (Nat × AV)) (o : Oper) (N L M : List Nat) (nA nB : Nat) (args : List AV) (cs : List Ch) : Bool :=
  (match guardA ops s o with
    | some true => true
    | _ => false) && dstOK n o.dst && Nat.beq L.length nA && Nat.beq (nA + M.length) nB && ltL (Nat.blt · nA) args && cs.all (Ch.lt (Nat.blt · nA)) && (List.range nA).all (fun k => (idsC cs).contains k) &&
  M.all (fun k => !(N.contains k)) && (match M with
    | [] => true
    | [_] => true
    | [a, b] => !(Nat.beq a b)
    | [a, b, c] => !(Nat.beq a b) && !(Nat.beq a c) && !(Nat.beq b c)
    | _ => false)
def afterK (ops : List Oper) (draw : Bool) (hist : List FP) (s : List (Nat × AV)) (o : Oper) (N L M : List Nat) (cs cs' : List Ch) (x : AV) (cr : List Ch) {β : Type} (k : List FP → List (Nat × AV) → List Ch → List Nat → β) : Option β :=
  nextS o.dst (renS (namesF (L ++ M)) x) s fun s' => normG (cs'.map (renSC (namesF (L ++ M))) ++ cr) fun c' => normG (M ++ N) fun N' =>
    normG (rdL s (o.op.operands.toList ++ guardOp ops o)) fun rd => nextH draw hist o rd (cs.map (renSC (namesF (L ++ M)))) (cs'.map (renSC (namesF (L ++ M)))) [] fun h' => some (k h' s' c' N')

section
variable {P : Program} {T : Tab} {Kn : IM} {nX : Nat} {EX : Ctx P T → Prop} {n : Nat} {ops : Array Oper} {draw : Bool} {α β : Type} {Po : α → Prop} {KD : α → List (Nat × AV) → List Ch → List Nat → Prop}

theorem nb {a b : Nat} (h : (!(Nat.beq a b)) = true) : a ≠ b := by rintro rfl; simp at h
theorem opdL_rd {s : List (Nat × AV)} : ∀ {l l2 : List Operand} {xs : List AV}, (∀ q ∈ l, q ∈ l2) → opdL s l = some xs → opdL (rdL s l2) l = some xs
  | [], l2, xs, _, h => h
  | o :: l, l2, xs, hm, h => by
    simp only [opdL] at h ⊢
    split at h
    · rename_i x ys h1 h2
      cases h
      have h3 : opd (rdL s l2) o = some x := by
        cases o with
        | tmp t =>
          simp only [opd] at h1 ⊢
          have hmem := hm (.tmp t) (by simp)
          clear hm h2
          induction l2 with
          | nil => cases hmem
          | cons q l2 ih =>
            cases q with
            | tmp t' =>
              simp only [rdL]
              by_cases htt : t' = t
              · subst htt; rw [h1]; simp [get_cons]
              · have hm' : Operand.tmp t ∈ l2 := by
                  rcases List.mem_cons.1 hmem with h | h
                  · cases h; exact absurd rfl htt
                  · exact h
                split
                · rw [get_cons, if_neg htt]; exact ih hm'
                · exact ih hm'
            | _ => simp only [rdL]; exact ih (by simpa using hmem)
        | const v => cases v <;> first | (simp [opd] at h1; done) | simpa [opd] using h1
        | _ => simpa only [opd] using h1
      rw [h3, opdL_rd (fun q hq => hm q (List.mem_cons_of_mem _ hq)) h2]
    · cases h

/-- A call, by contract. L: the caller's names of the objects handed in; M: names for new ones. -/
theorem dK {f nA nB : Nat} {args : List AV} {cs : List Ch} {Pb : β → Prop} {kb : β → AV} {C : β → List Ch} (F : FnD P Kn f nA args cs nB Pb kb C) (L M : List Nat) {o : Oper} {l : List Oper} {hist : List FP} {s : List (Nat × AV)} {c cr : List Ch} {N : List Nat} {S' : α → β → Prop}
    (kk : ∀ v, Pb v → DE Po fun r => S' r v)
    (ha : argsW s o f = some (renSL (namesF (L ++ M)) args) := by rfl) (hc : pickC ((idsC cs).map (namesF (L ++ M))) c = some (cs.map (renSC (namesF (L ++ M))), cr) := by rfl) (hq : chkK ops.toList n s o N L M nA nB args cs = true := by rfl)
    (h : ∀ r v, afterK ops.toList draw hist s o N L M cs (C v) (kb v) cr (fun h' s' c' N' => WO (KX (P := P) (T := T) Kn nX EX) n ops draw (KD r) l h' s' c' N') = some (S' r v) := by intros; rfl) :
    DE Po fun r => WO (KX (P := P) (T := T) Kn nX EX) n ops draw (KD r) (o :: l) hist s c N := by
  obtain ⟨v, hv, hF⟩ := F
  refine (kk v hv).imp fun r hr X hX => ?_
  have hmapC : ∀ l : List Ch, l.map (renSC (namesF (L ++ M))) = l.map (Ch.ren (namesF (L ++ M))) := fun l => List.map_congr_left fun _ _ => renSC_eq
  have hh := h r v
  unfold afterK at hh
  rw [nextS_eq, normG_eq, normG_eq, normG_eq, renS_eq, hmapC, hmapC] at hh
  simp only [chkK, Bool.and_eq_true] at hq
  obtain ⟨⟨⟨⟨⟨⟨⟨⟨q1, q2⟩, q3⟩, q4⟩, q5⟩, q6⟩, q7⟩, q8⟩, q9⟩ := hq
  have hg : guardA ops.toList s o = some true := by
    split at q1
    · assumption
    · cases q1
  have q3 := Nat.eq_of_beq_eq_true q3
  have q4 := Nat.eq_of_beq_eq_true q4
  have hMd : M.Nodup := by
    match M, q9 with
    | [], _ => exact .nil
    | [_], _ => simp
    | [a, b], h => simp [nb h]
    | [a, b, c], h => simp only [Bool.and_eq_true] at h; simp [nb h.1.1, nb h.1.2, nb h.2]
  have hMN : ∀ k ∈ M, k ∉ N := fun k hk => by have := List.all_eq_true.1 q8 k hk; simpa using this
  rw [hmapC] at hc
  rw [renSL_eq] at ha
  have hall : ∃ fo aos tys, o.op = .call ⟨.value fo, aos, tys⟩ ∧ ∀ (X : Ctx P T) e fr c a w, Rel X n e fr (rdL s (o.op.operands.toList ++ guardOp ops.toList o)) c a w → ∃ fs vs, a.eval fo = .func (.func f) fs vs ∧ RepT (renL (namesF (L ++ M)) args) e (fs ++ aos.map a.eval ++ vs).toList := by
    unfold argsW at ha
    split at ha
    · rename_i fo aos tys hop
      have hops : o.op.operands = #[fo] ++ aos := by rw [hop]; rfl
      have hmem : ∀ q ∈ aos.toList, q ∈ o.op.operands.toList ++ guardOp ops.toList o := fun q hq => by rw [hops]; simp [hq]
      have hfo : ∀ {x}, opd s fo = some x → opd (rdL s (o.op.operands.toList ++ guardOp ops.toList o)) fo = some x := fun {x} hx => by
        have := opdL_rd (s := s) (l := [fo]) (l2 := o.op.operands.toList ++ guardOp ops.toList o) (xs := [x]) (fun q hq => by rw [hops]; simp at hq; simp [hq]) (by simp [opdL, hx])
        simp only [opdL] at this
        split at this
        · rename_i h1 h2; cases h2; simp only [Option.some.injEq, List.cons.injEq, and_true] at this; rw [h1, this]
        · cases this
      refine ⟨fo, aos, tys, hop, fun X e fr c a w rel => ?_⟩
      split at ha
      · rename_i g xs hf hx
        split at ha <;> cases ha
        rename_i hgf
        cases Nat.eq_of_beq_eq_true hgf
        have h1 := opd_sound rel (hfo hf)
        simp only [Rep] at h1
        have h2 := opds_sound rel (opdL_eq (opdL_rd hmem hx))
        exact ⟨_, _, h1, by simpa using h2⟩
      · rename_i g first caps xs hf hx
        split at ha
        · rename_i hgf
          cases Nat.eq_of_beq_eq_true hgf
          have h1 := opd_sound rel (hfo hf)
          simp only [Rep] at h1
          obtain ⟨fs, vs, q1, q2, q3⟩ := h1
          have h2 := opds_sound rel (opdL_eq (opdL_rd hmem hx))
          refine ⟨fs, vs, q1, ?_⟩
          simp only [Option.some.injEq] at ha
          rw [← ha]
          simpa using q2.app (h2.app q3)
        · cases ha
      · cases ha
    · cases ha
  obtain ⟨fo, aos, tys, hop, hargs⟩ := hall
  have hloc := call_loc (X := X) (ops := ops) (n := n) hF hX.le hop q3 q4 hMd (fun e fr c a w rel => guardA_sound rel (guardA_rd hg (fun q hq => List.mem_append.2 (.inr hq)))) q2 (hargs X) q5 q6 q7
  unfold nextH at hh
  cases draw with
  | false =>
    simp only [Option.some.injEq] at hh
    have hr' := hh ▸ hr
    exact ⟨s, _, _, cr, fun _ _ h => h, rfl, hloc, fun p hp => rdL_mem p hp, by simpa using pickC_perm hc, .refl _, hMN, hMd, (hr' X hX).hist0⟩
  | true =>
    simp only [normG_eq, Option.some.injEq] at hh
    have hr' := hh ▸ hr
    exact ⟨s, _, _, cr, fun _ _ h => h, rfl, hloc, fun p hp => rdL_mem p hp, by simpa using pickC_perm hc, .refl _, hMN, hMd, hr' X hX⟩
end
end Go.E

/- The walk anew: types' tables told in few words. -/
set_option linter.unusedSimpArgs false
set_option linter.unusedVariables false
namespace Go.E

/-- A type, in a word: integers, Bool, text, pointer, slice, map, function, interface, array, struct (cells, bytes, each field's place and type). -/
inductive TC where
  | I (k : IntKind)
  | B
  | S
  | P
  | L (e : Nat)
  | M (k v : Nat)
  | F
  | N
  | A (c b n e : Nat)
  | R (c b : Nat) (fs : List (Nat × Nat))
  | X

def TC.zero (f : Nat → TC) : Nat → TC → List Value
  | _, .I k => [.int k 0]
  | _, .B => [.bool false]
  | _, .S => [.string ⟨#[]⟩]
  | _, .P => [.pointer none]
  | _, .L _ => [.slice none 0 0]
  | _, .M _ _ => [.map none]
  | _, .F => [.nilFunc]
  | _, .N => [.nilIface]
  | n + 1, .A _ _ m e => (List.replicate m (TC.zero f n (f e))).flatten
  | n + 1, .R _ _ fs => fs.flatMap fun p => TC.zero f n (f p.2)
  | _, _ => []
def bytesI : IntKind → Nat
  | .i8 => 1
  | .u8 => 1
  | .i16 => 2
  | .u16 => 2
  | .i32 => 4
  | .u32 => 4
  | _ => 8
def TC.ti (f : Nat → TC) : TC → Option TI
  | .I k => some ⟨1, bytesI k, false, [.int k 0], .int k⟩
  | .B => some ⟨1, 1, false, [.bool false], .bool⟩
  | .S => some ⟨1, 16, false, [.string ⟨#[]⟩], .str⟩
  | .P => some ⟨1, 8, false, [.pointer none], .ptr⟩
  | .L e => some ⟨1, 24, false, [.slice none 0 0], .slice e⟩
  | .M k v => some ⟨1, 8, false, [.map none], .map k v⟩
  | .F => some ⟨1, 8, false, [.nilFunc], .fn⟩
  | .N => some ⟨1, 16, false, [.nilIface], .ifc⟩
  | .A c b n e => some ⟨c, b, true, TC.zero f 9 (.A c b n e), .arr n e⟩
  | .R c b fs => some ⟨c, b, true, TC.zero f 9 (.R c b fs), .struct fs⟩
  | .X => none
/-- Types in rows of 25. -/
def rowsF (l : List (List TC)) : Nat → TC := fun t => match l[t / 25]? with
  | some r => (match r[t % 25]? with
    | some x => x
    | none => .X)
  | none => .X
def tabR (l : List (List TC)) : Tab := fun t => TC.ti (rowsF l) (rowsF l t)
theorem tabR_ok {P : Program} {l : List (List TC)} (h : checkTab P (tabR l) (List.range (25 * l.length)) = true) : TabOK P (tabR l) := by
  intro t i hi
  rcases Nat.lt_or_ge t (25 * l.length) with hlt | hge
  · exact checkTI_ok (checkTab_mem h t (List.mem_range.2 hlt) i hi)
  · have : l[t / 25]? = none := List.getElem?_eq_none (by omega)
    simp only [tabR, rowsF, this, TC.ti] at hi
    cases hi
end Go.E

/- The types of the seat. -/
set_option linter.unusedSimpArgs false
set_option linter.unusedVariables false
set_option maxRecDepth 100000
namespace Go.Proofs
open Go.E
def Tryz.rows : List (List TC) := [
 [.X, .F, .I .i64, .I .i64, .B, .I .u8, .I .u8, .R 4 24 [(0, 2), (1, 3), (2, 4), (3, 6)], .R 4 24 [(0, 2), (1, 3), (2, 4), (3, 6)], .S, .S, .S, .I .u64, .R 2 24 [(0, 9), (1, 12)], .R 2 24 [(0, 9), (1, 12)], .P, .P, .P, .R 1 8 [(0, 17)], .R 1 8 [(0, 17)], .N, .I .i32, .L 33, .R 9 72 [(0, 3), (1, 3), (2, 3), (3, 3), (4, 3), (5, 3), (6, 3), (7, 3), (8, 3)], .R 9 72 [(0, 3), (1, 3), (2, 3), (3, 3), (4, 3), (5, 3), (6, 3), (7, 3), (8, 3)]],
 [.F, .F, .P, .F, .L 48, .R 3 32 [(0, 3), (1, 3), (2, 9)], .R 3 32 [(0, 3), (1, 3), (2, 9)], .R 5 48 [(0, 31), (3, 3), (4, 3)], .R 5 48 [(0, 31), (3, 3), (4, 3)], .I .u64, .X, .F, .L 34, .F, .F, .L 114, .F, .F, .X, .F, .F, .F, .R 2 24 [(0, 34), (1, 9)], .R 2 24 [(0, 34), (1, 9)], .F],
 [.F, .F, .I .i64, .F, .R 4 40 [(0, 34), (1, 3), (2, 3), (3, 9)], .R 4 40 [(0, 34), (1, 3), (2, 3), (3, 9)], .F, .L 146, .L 187, .L 283, .L 285, .L 194, .R 4 96 [(0, 58), (1, 59), (2, 60), (3, 61)], .R 4 96 [(0, 58), (1, 59), (2, 60), (3, 61)], .L 185, .R 9 200 [(0, 4), (1, 57), (2, 40), (3, 63), (7, 64), (8, 37)], .R 9 200 [(0, 4), (1, 57), (2, 40), (3, 63), (7, 64), (8, 37)], .X, .F, .R 11 88 [(0, 3), (1, 3), (2, 24)], .R 11 88 [(0, 3), (1, 3), (2, 24)], .F, .F, .F, .F],
 [.P, .L 118, .M 9 248, .R 2 16 [(0, 77), (1, 3)], .R 2 16 [(0, 77), (1, 3)], .M 9 2, .R 2 16 [(0, 80), (1, 3)], .R 2 16 [(0, 80), (1, 3)], .M 9 253, .R 2 16 [(0, 83), (1, 3)], .R 2 16 [(0, 83), (1, 3)], .M 9 264, .R 2 16 [(0, 86), (1, 3)], .R 2 16 [(0, 86), (1, 3)], .R 8 64 [(0, 79), (2, 82), (4, 85), (6, 88)], .R 8 64 [(0, 79), (2, 82), (4, 85), (6, 88)], .R 2 24 [(0, 34), (1, 9)], .R 2 24 [(0, 34), (1, 9)], .A 16 192 8 92, .R 18 208 [(0, 93), (16, 3), (17, 3)], .R 18 208 [(0, 93), (16, 3), (17, 3)], .R 1 24 [(0, 37)], .R 1 24 [(0, 37)], .R 29 328 [(0, 75), (1, 76), (2, 90), (10, 95), (28, 97)], .R 29 328 [(0, 75), (1, 76), (2, 90), (10, 95), (28, 97)]],
 [.R 3 32 [(0, 34), (1, 52), (2, 9)], .R 3 32 [(0, 34), (1, 52), (2, 9)], .X, .F, .F, .X, .F, .X, .F, .R 5 56 [(0, 34), (1, 3), (2, 9), (3, 9), (4, 3)], .R 5 56 [(0, 34), (1, 3), (2, 9), (3, 9), (4, 3)], .X, .F, .R 4 48 [(0, 3), (1, 9), (2, 9), (3, 3)], .R 4 48 [(0, 3), (1, 9), (2, 9), (3, 3)], .R 5 64 [(0, 3), (1, 9), (2, 9), (3, 9), (4, 4)], .R 5 64 [(0, 3), (1, 9), (2, 9), (3, 9), (4, 4)], .R 9 112 [(0, 114), (4, 116)], .R 9 112 [(0, 114), (4, 116)], .F, .R 12 96 [(0, 3), (1, 3), (2, 3), (3, 24)], .R 12 96 [(0, 3), (1, 3), (2, 3), (3, 24)], .F, .F, .F],
 [.F, .X, .F, .F, .X, .F, .F, .F, .F, .X, .F, .F, .P, .F, .F, .F, .F, .F, .L 234, .L 116, .R 5 80 [(0, 3), (1, 9), (2, 143), (3, 144), (4, 3)], .R 5 80 [(0, 3), (1, 9), (2, 143), (3, 144), (4, 3)], .P, .L 92, .F],
 [.P, .F, .L 9, .F, .F, .F, .F, .F, .X, .F, .X, .F, .F, .F, .F, .F, .X, .F, .F, .F, .F, .F, .F, .L 5, .I .u64],
 [.P, .F, .F, .F, .X, .F, .F, .R 3 32 [(0, 34), (1, 52), (2, 9)], .F, .R 2 24 [(0, 34), (1, 9)], .R 2 24 [(0, 34), (1, 9)], .R 2 32 [(0, 9), (1, 9)], .R 2 32 [(0, 9), (1, 9)], .F, .F, .F, .F, .F, .R 3 40 [(0, 9), (1, 9), (2, 3)], .R 3 40 [(0, 9), (1, 9), (2, 3)], .F, .F, .F, .F, .F],
 [.R 0 0 [], .R 0 0 [], .R 0 0 [], .I .u32, .R 1 4 [(0, 202), (0, 203)], .R 1 4 [(0, 202), (0, 203)], .R 2 8 [(0, 21), (1, 203)], .R 2 8 [(0, 21), (1, 203)], .R 2 8 [(0, 201), (0, 207)], .R 2 8 [(0, 201), (0, 207)], .R 3 12 [(0, 201), (0, 205), (1, 209)], .R 3 12 [(0, 201), (0, 205), (1, 209)], .P, .M 9 143, .R 6 56 [(0, 57), (1, 211), (4, 212), (5, 213)], .R 6 56 [(0, 57), (1, 211), (4, 212), (5, 213)], .X, .F, .X, .F, .F, .R 3 32 [(0, 9), (1, 3), (2, 52)], .R 3 32 [(0, 9), (1, 3), (2, 52)], .F, .X],
 [.F, .F, .F, .F, .F, .L 232, .R 3 48 [(0, 3), (1, 9), (2, 230)], .R 3 48 [(0, 3), (1, 9), (2, 230)], .R 5 72 [(0, 3), (1, 9), (2, 232)], .R 5 72 [(0, 3), (1, 9), (2, 232)], .F, .X, .F, .P, .R 2 32 [(0, 238), (1, 173)], .R 2 32 [(0, 238), (1, 173)], .N, .N, .X, .F, .P, .F, .R 1 16 [(0, 9)], .R 1 16 [(0, 9)], .X],
 [.F, .P, .P, .P, .F, .P, .R 3 24 [(0, 255), (1, 255), (2, 3)], .R 3 24 [(0, 255), (1, 255), (2, 3)], .P, .F, .F, .F, .F, .R 2 24 [(0, 9), (1, 3)], .R 2 24 [(0, 9), (1, 3)], .X, .F, .F, .F, .F, .F, .A 4 4 4 5, .R 4 40 [(0, 34), (1, 3), (2, 3), (3, 9)], .X, .F],
 [.R 5 56 [(0, 34), (1, 3), (2, 9), (3, 9), (4, 3)], .X, .F, .X, .F, .F, .F, .R 2 24 [(0, 9), (1, 2)], .R 2 24 [(0, 9), (1, 2)], .R 2 32 [(0, 9), (1, 9)], .R 2 32 [(0, 9), (1, 9)], .F, .F, .F, .X, .X, .X, .F, .F, .P, .X, .P, .F, .F, .A 24 24 24 5],
 [.F, .F, .X, .F, .F, .F, .F, .F, .F, .F, .X, .F, .F, .F, .R 2 16 [(0, 3), (1, 3)], .R 2 16 [(0, 3), (1, 3)], .L 321, .X, .F, .L 315, .R 4 40 [(0, 34), (1, 9), (2, 3), (3, 52)], .R 4 40 [(0, 34), (1, 9), (2, 3), (3, 52)], .R 2 16 [(0, 52), (1, 3)], .R 2 16 [(0, 52), (1, 3)], .X],
 [.F, .X, .F, .X, .F, .F, .F, .L 3, .L 335, .R 5 80 [(0, 3), (1, 2), (2, 9), (3, 332), (4, 333)], .R 5 80 [(0, 3), (1, 2), (2, 9), (3, 332), (4, 333)], .X, .F, .R 4 48 [(0, 9), (1, 9), (2, 2), (3, 34)], .R 4 48 [(0, 9), (1, 9), (2, 2), (3, 34)], .F, .R 3 32 [(0, 9), (1, 4), (2, 2)], .R 3 32 [(0, 9), (1, 4), (2, 2)], .X, .F, .F, .F, .F, .F, .X],
 [.F, .F, .X, .F, .F, .I .i64, .X, .F, .F, .F, .X, .F, .F, .F, .A 20 160 20 34, .A 65 65 65 5, .F, .X, .F, .F, .F, .F, .F, .F, .F],
 [.R 4 48 [(0, 9), (1, 9), (2, 2), (3, 34)], .F, .R 3 32 [(0, 9), (1, 4), (2, 2)], .X, .F, .F, .F, .X, .F, .X, .F, .F, .F, .F, .F, .F, .F, .R 8 112 [(0, 335), (5, 9), (6, 3), (7, 52)], .R 8 112 [(0, 335), (5, 9), (6, 3), (7, 52)], .F, .F, .F, .F, .X, .F],
 [.F, .F, .F, .F, .I .u64, .F, .F, .P, .F, .F, .P, .R 7 96 [(0, 75), (1, 75), (2, 146)], .R 7 96 [(0, 75), (1, 75), (2, 146)], .X, .F, .X, .F, .F, .F, .F, .F, .F, .R 1 8 [(0, 52)], .R 1 8 [(0, 52)], .X],
 [.P, .R 3 24 [(0, 75), (1, 3), (2, 3)], .R 3 24 [(0, 75), (1, 3), (2, 3)], .F, .F, .R 2 16 [(0, 73), (1, 429)], .R 2 16 [(0, 73), (1, 429)], .X, .F, .F, .F, .F, .F, .L 444, .X, .F, .R 4 48 [(0, 438), (1, 3), (2, 323)], .R 4 48 [(0, 438), (1, 3), (2, 323)], .R 4 40 [(0, 3), (1, 9), (2, 3), (3, 3)], .R 4 40 [(0, 3), (1, 9), (2, 3), (3, 3)], .F, .X, .F, .F, .L 4],
 [.F, .F, .X, .F, .F, .F, .F, .F, .F, .F, .F, .X, .F, .X, .F, .F, .F, .F, .X, .R 2 2 [(0, 5), (1, 5)], .R 2 2 [(0, 5), (1, 5)], .A 32 32 16 470, .F, .F, .F],
 [.P, .X, .F, .A 32 32 32 5, .A 64 64 64 5, .P, .R 4 48 [(0, 438), (1, 3), (2, 323)], .R 4 48 [(0, 438), (1, 3), (2, 323)], .F, .F, .F, .F, .F, .F, .F, .F, .F, .F, .F, .X, .F, .F, .X, .F, .F],
 [.F, .F, .F, .F, .P, .R 1 8 [(0, 75)], .R 1 8 [(0, 75)], .F, .X, .F, .F, .X, .F, .F, .X, .F, .X, .F, .F, .F, .F, .F, .F, .F, .F],
 [.F, .P, .R 3 48 [(0, 9), (1, 3), (2, 438)], .R 3 48 [(0, 9), (1, 3), (2, 438)], .F, .F, .F, .P, .R 2 32 [(0, 57), (1, 212)], .R 2 32 [(0, 57), (1, 212)], .F, .F, .F, .M 9 3, .R 2 32 [(0, 538), (1, 332)], .R 2 32 [(0, 538), (1, 332)], .F, .F, .F, .F, .F, .I .i64, .F, .X, .F],
 [.F, .X, .F, .P, .R 1 8 [(0, 75)], .R 1 8 [(0, 75)], .F, .F, .F, .F, .F, .F, .X, .F, .X, .F, .F, .F, .F, .F, .F, .F, .P, .M 3 3, .R 2 16 [(0, 573), (1, 538)]],
 [.R 2 16 [(0, 573), (1, 538)], .F, .F, .F, .F, .F, .P, .F, .N, .N, .F, .F, .F, .F, .F, .F, .F, .F, .F, .F, .F, .P, .F, .P, .F],
 [.F, .F, .R 2 24 [(0, 9), (1, 255)], .R 2 24 [(0, 9), (1, 255)], .R 2 16 [(0, 2), (1, 2)], .R 2 16 [(0, 2), (1, 2)], .R 1 1 [(0, 4)], .R 1 1 [(0, 4)], .R 0 0 [], .R 0 0 [], .R 1 8 [(0, 3)], .R 1 8 [(0, 3)], .F, .F, .F, .F, .P, .F, .F, .F, .F, .P, .F, .P, .F],
 [.F, .F, .F, .F, .F, .F, .R 4 40 [(0, 17), (1, 17), (2, 17), (3, 9)], .R 4 40 [(0, 17), (1, 17), (2, 17), (3, 9)], .A 0 0 0 16, .R 0 0 [(0, 633)], .R 0 0 [(0, 633)], .I .u8, .I .u8, .F, .I .i32, .I .i32, .R 11 48 [(0, 12), (1, 12), (2, 203), (3, 636), (4, 5), (5, 5), (6, 637), (7, 638), (8, 296), (9, 639), (10, 640)], .R 11 48 [(0, 12), (1, 12), (2, 203), (3, 636), (4, 5), (5, 5), (6, 637), (7, 638), (8, 296), (9, 639), (10, 640)]]]
def Tryz.tab : Tab := tabR Tryz.rows
theorem Tryz.tabOK : TabOK Tryz.prog Tryz.tab := tabR_ok (by kernel_rfl)

theorem Tryz.wide_ : Tryz.prog.follows .mixedOrders = true := by kernel_rfl
end Go.Proofs

/- The walk anew, part 20: && and || told as one Bool. -/
set_option linter.unusedSimpArgs false
set_option linter.unusedVariables false
namespace Go.E
open Go.RowKit

/-- The operations behind a test that is known, up to the choice: what is chosen, into which slot, what is left, which slots were set. -/
def grp (T : Tab) (n : Nat) (ops : Array Oper) : Nat → List Oper → List (Nat × AV) → List Ch → List Nat → List Nat → Option (AV × Nat × List Oper × List Nat × List Ch × List Nat)
  | 0, _, _, _, _, _ => none
  | _ + 1, [], _, _, _, _ => none
  | f + 1, o :: l, s, c, N, inner => match o.guard with
    | none => (match o.op, o.dst with
      | .pick a b q, some d => (match dstOK n (some d), val T (rdL s (o.op.operands.toList ++ guardOp ops.toList o)) [] (.pick a b q) with
        | true, some (_, x) => some (x, d, l, inner, c, N)
        | _, _ => none)
      | _, _ => none)
    | some _ => (match o.dst with
      | some d => step1 T n ops false o [] s c N true fun _ _ s' c' N' => grp T n ops f l s' c' N' (d :: inner)
      | none => none)

def delS (l : List Nat) (s : List (Nat × AV)) : List (Nat × AV) := s.filter fun p => !(l.contains p.1)
theorem delS_get {l : List Nat} {s : List (Nat × AV)} {i : Nat} {x : AV} (h : get (delS l s) i = some x) : i ∉ l ∧ get s i = some x := by
  induction s with
  | nil => cases h
  | cons p s ih =>
    obtain ⟨j, y⟩ := p
    simp only [delS, List.filter_cons] at h
    split at h
    · rename_i hj
      rw [get_cons] at h ⊢
      split at h
      · rename_i hji
        cases h; subst hji
        rw [if_pos rfl]
        exact ⟨by simpa using hj, rfl⟩
      · rename_i hji
        rw [if_neg hji]; exact ih h
    · rename_i hj
      have := ih h
      rw [get_cons]
      split
      · rename_i hji; subst hji; simp at hj; exact absurd hj this.1
      · exact this

section
variable {P : Program} {T : Tab} {K : Ctx P T → Prop} {n : Nat} {ops : Array Oper} {α : Type} {Po : α → Prop} {KD : α → List (Nat × AV) → List Ch → List Nat → Prop}

theorem grp_sound {X : Ctx P T} {Kc : List (Nat × AV) → List Ch → List Nat → Prop} : ∀ (f : Nat) {l : List Oper} {s : List (Nat × AV)} {c : List Ch} {N inner : List Nat} {x : AV} {d : Nat} {rest : List Oper} {inner' : List Nat} {c' : List Ch} {N' : List Nat}, grp T n ops f l s c N inner = some (x, d, rest, inner', c', N') →
    (∀ sf, (∀ i, i ∉ inner' → i ≠ d → get sf i = get s i) → get sf d = some x → DoR X n ops false Kc rest [] sf c' N') → DoR X n ops false Kc l [] s c N ∧ ∀ i ∈ inner, i ∈ inner'
  | 0, _, _, _, _, _, _, _, _, _, _, _, h, _ => by cases h
  | _ + 1, [], _, _, _, _, _, _, _, _, _, _, h, _ => by cases h
  | f + 1, o :: l, s, c, N, inner, x, d, rest, inner', c', N', h, hk => by
    simp only [grp] at h
    split at h
    · rename_i hg
      split at h
      · rename_i a b q d' hop hdst
        split at h
        · rename_i g x' hd hv
          cases h
          obtain ⟨dst, op, ty, pos, aft, gd⟩ := o
          simp only at hg hop hdst
          subst hg hop hdst
          have hgt : g := by
            simp only [val] at hv
            split at hv <;> cases hv <;> trivial
          have he : eff T (rdL s ((Op.pick a b q).operands.toList ++ guardOp ops.toList ⟨some d, .pick a b q, ty, pos, aft, none⟩)) c (some d) (.pick a b q) = some ⟨g, x, [], [], [], [], c⟩ := by
            unfold eff
            simp only [roOf]
            rw [hv]
          obtain ⟨l1, cr, l2, l3⟩ := eff_sound (X := X) (ops := ops) (o := ⟨some d, .pick a b q, ty, pos, aft, none⟩) (s := s) (n := n) (fun p hp => rdL_mem p hp) (fun e fr c a w r => by simp [Region.wanted]) hd id he hgt
          refine ⟨⟨s, _, _, cr, fun _ _ h => h, rfl, l1, fun p hp => rdL_mem p hp, l2, l3, by simp, .nil, ?_⟩, fun i hi => hi⟩
          refine (hk (putS (some d) x s) (fun i _ hi => by rw [get_putS, if_neg (by simpa using Ne.symm hi)]) (by simp [get_putS])).hist0
        · cases h
      · cases h
    · split at h
      · rename_i d' hdst
        obtain ⟨g, h', s', c1, N1, h1, h2, ⟨y, hy⟩, h3⟩ := step1_sound (P := P) (rest := l) h
        subst hy
        have ih := grp_sound (X := X) (Kc := Kc) f h1 (fun sf q1 q2 => hk sf (fun i hi hid => ?_) q2)
        · refine ⟨h3 (fun Y => Y = X) Kc (h2 rfl) (fun Y hY => by subst hY; exact ih.1.hist0) X rfl, fun i hi => ih.2 i (List.mem_cons_of_mem _ hi)⟩
        · rw [q1 i hi hid, get_putS, if_neg]
          rw [hdst]
          rintro h
          cases h
          -- d' stands in inner'
          exact hi (grp_in f h1 d' (by simp))
      · cases h
where
  grp_in : ∀ (f : Nat) {l : List Oper} {s : List (Nat × AV)} {c : List Ch} {N inner : List Nat} {x : AV} {d : Nat} {rest : List Oper} {inner' : List Nat} {c' : List Ch} {N' : List Nat}, grp T n ops f l s c N inner = some (x, d, rest, inner', c', N') → ∀ i ∈ inner, i ∈ inner'
  | 0, _, _, _, _, _, _, _, _, _, _, _, h => by cases h
  | _ + 1, [], _, _, _, _, _, _, _, _, _, _, h => by cases h
  | f + 1, o :: l, s, c, N, inner, x, d, rest, inner', c', N', h => by
    simp only [grp] at h
    split at h
    · split at h
      · split at h
        · cases h; exact fun i hi => hi
        · cases h
      · cases h
    · split at h
      · obtain ⟨g, h', s', c1, N1, h1, _⟩ := step1_sound (P := P) (rest := l) h
        exact fun i hi => grp_in f h1 i (List.mem_cons_of_mem _ hi)
      · cases h

/-- What is chosen, told as one. -/
def mrg (want b : Bool) (xt xf : AV) : Option AV :=
  match want with
  | true => (match xf, xt with
    | .v (.bool false), .v (.bool v) => some (.v (.bool (b && v)))
    | _, _ => none)
  | false => (match xt, xf with
    | .v (.bool true), .v (.bool v) => some (.v (.bool (b || v)))
    | _, _ => none)
def wantOf (o : Oper) : Bool := match o.guard with
  | some (_, w) => w
  | none => true
def slotOf (ops : List Oper) (o : Oper) : Nat := match o.guard with
  | some (j, _) => (match ops[j]? with
    | some oj => (match oj.dst with
      | some d => d
      | none => 0)
    | none => 0)
  | none => 0
theorem dB {o : Oper} {l : List Oper} {s : List (Nat × AV)} {c : List Ch} {N : List Nat} {b : Bool} {xt xf x : AV} {d : Nat} {rest : List Oper} {inner : List Nat} {c' : List Ch} {N' : List Nat} {S' : α → Prop} (hd : get s (slotOf ops.toList o) = some (.v (.bool b)))
    (ht : grp T n ops 40 (o :: l) ((slotOf ops.toList o, .v (.bool true)) :: s) c N [] = some (xt, d, rest, inner, c', N')) (hf : grp T n ops 40 (o :: l) ((slotOf ops.toList o, .v (.bool false)) :: s) c N [] = some (xf, d, rest, inner, c', N'))
    (hx : mrg (wantOf o) b xt xf = some x) (hs : ∀ r, (normG (delS (d :: inner) s) fun s' => some (WO K n ops false (KD r) rest [] ((d, x) :: s') c' N')) = some (S' r)) (k : DE Po S') :
    DE Po fun r => WO K n ops false (KD r) (o :: l) [] s c N := by
  refine k.imp fun r hr X hX => ?_
  have hs := hs r
  rw [normG_eq] at hs
  simp only [Option.some.injEq] at hs
  have hr' := (hs ▸ hr : WO K n ops false (KD r) rest [] ((d, x) :: delS (d :: inner) s) c' N') X hX
  have key : ∀ {v : Bool} {y : AV}, b = v → grp T n ops 40 (o :: l) ((slotOf ops.toList o, .v (.bool v)) :: s) c N [] = some (y, d, rest, inner, c', N') → x = y → DoR X n ops false (KD r) (o :: l) [] s c N := by
    rintro v y rfl hg rfl
    refine DoR.weak (s' := (slotOf ops.toList o, .v (.bool b)) :: s) (fun i y hy => ?_) (grp_sound 40 hg fun sf q1 q2 => DoR.weak (fun i y hy => ?_) hr').1
    · rw [get_cons] at hy
      split at hy
      · rename_i hi; subst hi; rw [hd]; exact hy
      · exact hy
    · rw [get_cons] at hy
      split at hy
      · rename_i hi; cases hy; subst hi; exact q2
      · obtain ⟨h1, h2⟩ := delS_get hy
        simp only [List.mem_cons, not_or] at h1
        rw [q1 i h1.2 h1.1, get_cons]
        split
        · rename_i hi; subst hi; rw [hd] at h2; exact h2
        · exact h2
  unfold mrg at hx
  cases b with
  | true =>
    refine key rfl ht ?_
    split at hx
    · split at hx <;> cases hx; simp
    · split at hx <;> cases hx; simp
  | false =>
    refine key rfl hf ?_
    split at hx
    · split at hx <;> cases hx; simp
    · split at hx <;> cases hx; simp
end
end Go.E
